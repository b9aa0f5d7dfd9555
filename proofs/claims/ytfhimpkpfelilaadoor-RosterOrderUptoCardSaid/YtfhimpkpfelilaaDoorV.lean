/- PRINTED BY MY OWN gen.py out of the translation: each function as a proposition. -/
import Derived.Test.YtfhimpkpfelilaaDoorProg
import Derived.Test.YtfhimpkpfelilaaDoorG7
namespace Go.Proofs.YtfhimpkpfelilaaDoor
open Go.GV
set_option linter.unusedVariables false
set_option maxRecDepth 100000
theorem noCount : NoCount Tryd.prog := noCount_of (by kernel_rfl)
theorem mixed : Tryd.prog.follows .mixedOrders = true := by kernel_rfl
def Z25 : List Value := [Value.slice none 0 0, Value.slice none 0 0, Value.slice none 0 0, Value.slice none 0 0]
def Z32 : List Value := [Value.slice none 0 0, Value.slice none 0 0, Value.slice none 0 0, Value.slice none 0 0]
def Z61 : List Value := [Value.string (⟨#[]⟩ : ByteArray), Value.string (⟨#[]⟩ : ByteArray), Value.string (⟨#[]⟩ : ByteArray), Value.string (⟨#[]⟩ : ByteArray)]
/-! ### function 3: stillage/stillagelaw26.RosterOrder -/
def F3.b10c (Q : Value → World → Prop) (C5 : ((Option Addr × Nat × Nat) × (Option Addr × Nat × Nat) × (Option Addr × Nat × Nat) × (Nat × Nat) × (Option Addr × Nat × Nat) × Int × Unit) → World → Prop) (C10 : ((Option Addr × Nat × Nat) × (Option Addr × Nat × Nat) × (Option Addr × Nat × Nat) × (Nat × Nat) × (Option Addr × Nat × Nat) × Int × Bool × Int × Unit) → World → Prop) (x0 : (Option Addr × Nat × Nat)) (x3 : (Option Addr × Nat × Nat)) (x4 : (Option Addr × Nat × Nat)) (x5 : (Nat × Nat)) (x6 : (Option Addr × Nat × Nat)) (x7 : Int) (x8 : Bool) (x9 : Int) (w : World) : Prop :=
  vIf (decide (x9 < ((x6.2.1 : Nat) : Int)))
  (vIf x8
    (jnC C10 ((x0.1, x0.2.1, x0.2.2), (x3.1, x3.2.1, x3.2.2), (x4.1, x4.2.1, x4.2.2), (x5.1, x5.2), (x6.1, x6.2.1, x6.2.2), (x7), true, ((IntKind.wrap .i64 (x9 + 1))), ()) w.drew)
    (dr x6.1 fun b22 o23 =>
      gd (decide (0 ≤ x9)) <|
      gd (decide (x9 < ((x6.2.1 : Nat) : Int))) <|
      ldS w.drew b22 (o23 + (x9).toNat * 1) fun s24 =>
      dr x0.1 fun b25 o26 =>
      gd (decide (0 ≤ x7)) <|
      gd (decide (x7 < ((x0.2.1 : Nat) : Int))) <|
      ldS w.drew b25 (o26 + (x7).toNat * 1) fun s27 =>
      jnC C10 ((x0.1, x0.2.1, x0.2.2), (x3.1, x3.2.1, x3.2.2), (x4.1, x4.2.1, x4.2.2), (x5.1, x5.2), (x6.1, x6.2.1, x6.2.2), (x7), (s24.toList == s27.toList), ((IntKind.wrap .i64 (x9 + 1))), ()) w.drew))
  (vIf (!x8)
    (dr x0.1 fun b28 o29 =>
      gd (decide (0 ≤ x7)) <|
      gd (decide (x7 < ((x0.2.1 : Nat) : Int))) <|
      ldS w b28 (o29 + (x7).toNat * 1) fun s30 =>
      nw w ([Value.string s30] ++ []) 9 fun b31 w32 =>
      app w32 1 16 [Value.string (⟨#[]⟩ : ByteArray)] 9 x4.1 x4.2.1 x4.2.2 (Value.slice (some ⟨b31, 0, none⟩) 1 1) fun A33 n34 c35 w36 =>
      jnC C5 ((x0.1, x0.2.1, x0.2.2), (x3.1, x3.2.1, x3.2.2), (A33, n34, c35), (x5.1, x5.2), (x6.1, x6.2.1, x6.2.2), ((IntKind.wrap .i64 (x7 - 1))), ()) w36)
    (jnC C5 ((x0.1, x0.2.1, x0.2.2), (x3.1, x3.2.1, x3.2.2), (x4.1, x4.2.1, x4.2.2), (x5.1, x5.2), (x6.1, x6.2.1, x6.2.2), ((IntKind.wrap .i64 (x7 - 1))), ()) w))
def F3.b10 (Q : Value → World → Prop) (C5 : ((Option Addr × Nat × Nat) × (Option Addr × Nat × Nat) × (Option Addr × Nat × Nat) × (Nat × Nat) × (Option Addr × Nat × Nat) × Int × Unit) → World → Prop) : ((Option Addr × Nat × Nat) × (Option Addr × Nat × Nat) × (Option Addr × Nat × Nat) × (Nat × Nat) × (Option Addr × Nat × Nat) × Int × Bool × Int × Unit) → World → (((Option Addr × Nat × Nat) × (Option Addr × Nat × Nat) × (Option Addr × Nat × Nat) × (Nat × Nat) × (Option Addr × Nat × Nat) × Int × Bool × Int × Unit) → World → Prop) → Prop := fun s w C10 => ∀ _ : Nat → Value, F3.b10c Q C5 C10 s.1 s.2.1 s.2.2.1 s.2.2.2.1 s.2.2.2.2.1 s.2.2.2.2.2.1 s.2.2.2.2.2.2.1 s.2.2.2.2.2.2.2.1 w
def F3.l10 (Q : Value → World → Prop) (C5 : ((Option Addr × Nat × Nat) × (Option Addr × Nat × Nat) × (Option Addr × Nat × Nat) × (Nat × Nat) × (Option Addr × Nat × Nat) × Int × Unit) → World → Prop) : ((Option Addr × Nat × Nat) × (Option Addr × Nat × Nat) × (Option Addr × Nat × Nat) × (Nat × Nat) × (Option Addr × Nat × Nat) × Int × Bool × Int × Unit) → World → Prop := fun s w => ∃ n, loopC (F3.b10 Q C5) n s w
def F3.b5c (Q : Value → World → Prop) (C5 : ((Option Addr × Nat × Nat) × (Option Addr × Nat × Nat) × (Option Addr × Nat × Nat) × (Nat × Nat) × (Option Addr × Nat × Nat) × Int × Unit) → World → Prop) (x0 : (Option Addr × Nat × Nat)) (x3 : (Option Addr × Nat × Nat)) (x4 : (Option Addr × Nat × Nat)) (x5 : (Nat × Nat)) (x6 : (Option Addr × Nat × Nat)) (x7 : Int) (w : World) : Prop :=
  vIf (decide (x7 ≥ 0))
  (dr x0.1 fun b13 o14 =>
    gd (decide (0 ≤ x7)) <|
    gd (decide (x7 < ((x0.2.1 : Nat) : Int))) <|
    ldS w b13 (o14 + (x7).toNat * 1) fun s15 =>
    nw w ([Value.string s15] ++ []) 9 fun b16 w17 =>
    app w17 1 16 [Value.string (⟨#[]⟩ : ByteArray)] 9 x3.1 x3.2.1 x3.2.2 (Value.slice (some ⟨b16, 0, none⟩) 1 1) fun A18 n19 c20 w21 =>
    jnC (F3.l10 Q C5) ((x0.1, x0.2.1, x0.2.2), (A18, n19, c20), (x4.1, x4.2.1, x4.2.2), (x5.1, x5.2), (x6.1, x6.2.1, x6.2.2), (x7), false, (0), ()) w21)
  (ldA 4 w.drew x5.1 x5.2 fun a37 =>
    Calls Tryd.prog 4 #[Value.slice x3.1 x3.2.1 x3.2.2] w.drew fun e39 w38 =>
    ∃ a40 : List Value, e39 = .returned (ofL a40) ∧ (
      kp w.drew x5.1 x5.2 4 w38 <|
      Calls Tryd.prog 6 #[ofL a37, ofL a40, Value.bool false] w38 fun e42 w41 =>
      ∃ t43 : Bool, e42 = .returned (Value.bool t43) ∧ (
        vIf t43
        (Calls Tryd.prog 4 #[Value.slice x4.1 x4.2.1 x4.2.2] w41 fun e45 w44 =>
          ∃ a46 : List Value, e45 = .returned (ofL a46) ∧ (
            Calls Tryd.prog 5 #[ofL a46] w44 fun e48 w47 =>
            ∃ (A49 : Option Addr) (n50 c51 : Nat), e48 = .returned (Value.slice A49 n50 c51) ∧ (
              vIf (((n50 : Nat) : Int) == 0)
              (Calls Tryd.prog 7 #[] w47 fun e53 w52 =>
                ∃ t54 : Bool, e53 = .returned (Value.bool t54) ∧ (
                  Q (Value.bool t54) w52))
              (Q (Value.bool false) w47))))
        (Q (Value.bool false) w41))))
def F3.b5 (Q : Value → World → Prop) : ((Option Addr × Nat × Nat) × (Option Addr × Nat × Nat) × (Option Addr × Nat × Nat) × (Nat × Nat) × (Option Addr × Nat × Nat) × Int × Unit) → World → (((Option Addr × Nat × Nat) × (Option Addr × Nat × Nat) × (Option Addr × Nat × Nat) × (Nat × Nat) × (Option Addr × Nat × Nat) × Int × Unit) → World → Prop) → Prop := fun s w C5 => ∀ _ : Nat → Value, F3.b5c Q C5 s.1 s.2.1 s.2.2.1 s.2.2.2.1 s.2.2.2.2.1 s.2.2.2.2.2.1 w
def F3.l5 (Q : Value → World → Prop) : ((Option Addr × Nat × Nat) × (Option Addr × Nat × Nat) × (Option Addr × Nat × Nat) × (Nat × Nat) × (Option Addr × Nat × Nat) × Int × Unit) → World → Prop := fun s w => ∃ n, loopC (F3.b5 Q) n s w
def F3.vc (x0A : Option Addr) (x0n x0c : Nat) (w : World) (Q : Value → World → Prop) : Prop :=
  Calls Tryd.prog 4 #[Value.slice x0A x0n x0c] w fun e2 w1 =>
  ∃ a3 : List Value, e2 = .returned (ofL a3) ∧ (
    nw w1 Z25 25 fun b4 w5 =>
    gd (a3.length == 4) <|
    st w5 b4 0 a3 fun w6 =>
    ldA 4 w6 b4 0 fun a7 =>
    Calls Tryd.prog 5 #[ofL a7] w6 fun e9 w8 =>
    ∃ (A10 : Option Addr) (n11 c12 : Nat), e9 = .returned (Value.slice A10 n11 c12) ∧ (
      jnC (F3.l5 Q) ((x0A, x0n, x0c), (none, 0, 0), (none, 0, 0), (b4, 0), (A10, n11, c12), ((IntKind.wrap .i64 (((x0n : Nat) : Int) - 1))), ()) w8))
def F3.an : Ann := ⟨[(5, [(0, .kSl), (3, .kSl), (4, .kSl), (5, .kL), (6, .kSl), (7, .kI .i64)]), (10, [(0, .kSl), (3, .kSl), (4, .kSl), (5, .kL), (6, .kSl), (7, .kI .i64), (8, .kB), (9, .kI .i64)])], []⟩
theorem F3.of (x0A : Option Addr) (x0n x0c : Nat) (w : World) {Q : Value → World → Prop} (h : F3.vc x0A x0n x0c w Q) : Calls Tryd.prog 3 #[Value.slice x0A x0n x0c] w (fun e w' => ∃ v, e = .returned v ∧ Q v w') := vcFn_of (A := F3.an) noCount mixed h (by kernel_rfl)
/-! ### function 4: stillage/roster.Of -/
def F4.vc (x0A : Option Addr) (x0n x0c : Nat) (w : World) (Q : Value → World → Prop) : Prop :=
  nw w Z25 25 fun b1 w2 =>
  nw w2 Z32 32 fun b3 w4 =>
  Calls Tryd.prog 10 #[Value.slice x0A x0n x0c] w4 fun e6 w5 =>
  ∃ (A7 : Option Addr) (n8 c9 : Nat), e6 = .returned (Value.slice A7 n8 c9) ∧ (
    Calls Tryd.prog 9 #[Value.slice A7 n8 c9, Value.func (.func 8) #[Value.pointer (some ⟨b3, 0, none⟩)] #[]] w5 fun e11 w10 =>
    ∃ (A12 : Option Addr) (n13 c14 : Nat), e11 = .returned (Value.slice A12 n13 c14) ∧ (
      ldSl w10.drew b3 (0 + 1) fun A15 n16 c17 =>
      ldSl w10.drew b3 (0 + 2) fun A18 n19 c20 =>
      ldSl w10.drew b3 (0 + 3) fun A21 n22 c23 =>
      Calls Tryd.prog 11 #[Value.slice A15 n16 c17] w10.drew fun e25 w24 =>
      ∃ (A26 : Option Addr) (n27 c28 : Nat), e25 = .returned (Value.slice A26 n27 c28) ∧ (
        kp w10.drew b3 (0 + 3) 1 w24 <|
        kp w10.drew b3 (0 + 2) 1 w24 <|
        Calls Tryd.prog 11 #[Value.slice A18 n19 c20] w24 fun e30 w29 =>
        ∃ (A31 : Option Addr) (n32 c33 : Nat), e30 = .returned (Value.slice A31 n32 c33) ∧ (
          kp w10.drew b3 (0 + 3) 1 w29 <|
          Calls Tryd.prog 11 #[Value.slice A21 n22 c23] w29 fun e35 w34 =>
          ∃ (A36 : Option Addr) (n37 c38 : Nat), e35 = .returned (Value.slice A36 n37 c38) ∧ (
            gd (([Value.slice A26 n27 c28] ++ ([Value.slice A31 n32 c33] ++ ([Value.slice A36 n37 c38] ++ ([Value.slice A12 n13 c14] ++ [])))).length == 4) <|
            st w34 b1 0 ([Value.slice A26 n27 c28] ++ ([Value.slice A31 n32 c33] ++ ([Value.slice A36 n37 c38] ++ ([Value.slice A12 n13 c14] ++ [])))) fun w39 =>
            ldA 4 w39 b1 0 fun a40 =>
            Q (ofL a40) w39)))))
def F4.an : Ann := ⟨[], []⟩
theorem F4.of (x0A : Option Addr) (x0n x0c : Nat) (w : World) {Q : Value → World → Prop} (h : F4.vc x0A x0n x0c w Q) : Calls Tryd.prog 4 #[Value.slice x0A x0n x0c] w (fun e w' => ∃ v, e = .returned v ∧ Q v w') := vcFn_of (A := F4.an) noCount mixed h (by kernel_rfl)
/-! ### function 5: stillage/roster.Stale -/
def F5.b11c (Q : Value → World → Prop) (C11 : ((Nat × Nat) × (Option Addr × Nat × Nat) × (Option Addr × Nat × Nat) × Int × Int × Unit) → World → Prop) (x1 : (Nat × Nat)) (x3 : (Option Addr × Nat × Nat)) (x33 : (Option Addr × Nat × Nat)) (x34 : Int) (x35 : Int) (w : World) : Prop :=
  vIf (decide (x35 < x34))
  (dr x33.1 fun b39 o40 =>
    gd (decide (0 ≤ x35)) <|
    gd (decide (x35 < ((x33.2.1 : Nat) : Int))) <|
    ldI .i64 w b39 (o40 + (x35).toNat * 1) fun i41 =>
    ldSl w x1.1 (x1.2 + 2) fun A42 n43 c44 =>
    vIf (decide (x35 < (IntKind.wrap .i64 (((n43 : Nat) : Int) - 1))))
    (Calls Tryd.prog 14 #[Value.int .i64 3, Value.int .i64 i41] w fun e46 w45 =>
      ∃ s47 : ByteArray, e46 = .returned (Value.string s47) ∧ (
        nw w45 ([Value.string s47] ++ []) 9 fun b48 w49 =>
        app w49 1 16 [Value.string (⟨#[]⟩ : ByteArray)] 9 x3.1 x3.2.1 x3.2.2 (Value.slice (some ⟨b48, 0, none⟩) 1 1) fun A50 n51 c52 w53 =>
        jnC C11 ((x1.1, x1.2), (A50, n51, c52), (x33.1, x33.2.1, x33.2.2), (x34), ((IntKind.wrap .i64 (x35 + 1))), ()) w53))
    (jnC C11 ((x1.1, x1.2), (x3.1, x3.2.1, x3.2.2), (x33.1, x33.2.1, x33.2.2), (x34), ((IntKind.wrap .i64 (x35 + 1))), ()) w))
  (Q (Value.slice x3.1 x3.2.1 x3.2.2) w)
def F5.b11 (Q : Value → World → Prop) : ((Nat × Nat) × (Option Addr × Nat × Nat) × (Option Addr × Nat × Nat) × Int × Int × Unit) → World → (((Nat × Nat) × (Option Addr × Nat × Nat) × (Option Addr × Nat × Nat) × Int × Int × Unit) → World → Prop) → Prop := fun s w C11 => ∀ _ : Nat → Value, F5.b11c Q C11 s.1 s.2.1 s.2.2.1 s.2.2.2.1 s.2.2.2.2.1 w
def F5.l11 (Q : Value → World → Prop) : ((Nat × Nat) × (Option Addr × Nat × Nat) × (Option Addr × Nat × Nat) × Int × Int × Unit) → World → Prop := fun s w => ∃ n, loopC (F5.b11 Q) n s w
def F5.b5c (Q : Value → World → Prop) (C5 : ((Nat × Nat) × (Option Addr × Nat × Nat) × (Option Addr × Nat × Nat) × Int × Int × Unit) → World → Prop) (x1 : (Nat × Nat)) (x3 : (Option Addr × Nat × Nat)) (x15 : (Option Addr × Nat × Nat)) (x16 : Int) (x17 : Int) (w : World) : Prop :=
  vIf (decide (x17 < x16))
  (dr x15.1 fun b18 o19 =>
    gd (decide (0 ≤ x17)) <|
    gd (decide (x17 < ((x15.2.1 : Nat) : Int))) <|
    ldI .i64 w b18 (o19 + (x17).toNat * 1) fun i20 =>
    ldSl w x1.1 x1.2 fun A21 n22 c23 =>
    Calls Tryd.prog 13 #[Value.slice A21 n22 c23, Value.int .i64 i20] w fun e25 w24 =>
    ∃ t26 : Bool, e25 = .returned (Value.bool t26) ∧ (
      vIf (!t26)
      (Calls Tryd.prog 14 #[Value.int .i64 2, Value.int .i64 i20] w24 fun e28 w27 =>
        ∃ s29 : ByteArray, e28 = .returned (Value.string s29) ∧ (
          nw w27 ([Value.string s29] ++ []) 9 fun b30 w31 =>
          app w31 1 16 [Value.string (⟨#[]⟩ : ByteArray)] 9 x3.1 x3.2.1 x3.2.2 (Value.slice (some ⟨b30, 0, none⟩) 1 1) fun A32 n33 c34 w35 =>
          jnC C5 ((x1.1, x1.2), (A32, n33, c34), (x15.1, x15.2.1, x15.2.2), (x16), ((IntKind.wrap .i64 (x17 + 1))), ()) w35))
      (jnC C5 ((x1.1, x1.2), (x3.1, x3.2.1, x3.2.2), (x15.1, x15.2.1, x15.2.2), (x16), ((IntKind.wrap .i64 (x17 + 1))), ()) w24)))
  (ldSl w x1.1 (x1.2 + 2) fun A36 n37 c38 =>
    jnC (F5.l11 Q) ((x1.1, x1.2), (x3.1, x3.2.1, x3.2.2), (A36, n37, c38), (((n37 : Nat) : Int)), (0), ()) w)
def F5.b5 (Q : Value → World → Prop) : ((Nat × Nat) × (Option Addr × Nat × Nat) × (Option Addr × Nat × Nat) × Int × Int × Unit) → World → (((Nat × Nat) × (Option Addr × Nat × Nat) × (Option Addr × Nat × Nat) × Int × Int × Unit) → World → Prop) → Prop := fun s w C5 => ∀ _ : Nat → Value, F5.b5c Q C5 s.1 s.2.1 s.2.2.1 s.2.2.2.1 s.2.2.2.2.1 w
def F5.l5 (Q : Value → World → Prop) : ((Nat × Nat) × (Option Addr × Nat × Nat) × (Option Addr × Nat × Nat) × Int × Int × Unit) → World → Prop := fun s w => ∃ n, loopC (F5.b5 Q) n s w
def F5.k4c (Q : Value → World → Prop) (x1 : (Nat × Nat)) (x3 : (Option Addr × Nat × Nat)) (w : World) : Prop :=
  ldSl w x1.1 (x1.2 + 1) fun A15 n16 c17 =>
  jnC (F5.l5 Q) ((x1.1, x1.2), (x3.1, x3.2.1, x3.2.2), (A15, n16, c17), (((n16 : Nat) : Int)), (0), ()) w
def F5.k4 (Q : Value → World → Prop) : ((Nat × Nat) × (Option Addr × Nat × Nat) × Unit) → World → Prop := fun s w => ∀ _ : Nat → Value, F5.k4c Q s.1 s.2.1 w
def F5.vc (x0 : List Value) (w : World) (Q : Value → World → Prop) : Prop :=
  nw w x0 25 fun b1 w2 =>
  ldSl w2 b1 (0 + 3) fun A3 n4 c5 =>
  Calls Tryd.prog 12 #[Value.slice A3 n4 c5, Value.string (⟨#[112, 111, 105, 110, 116, 46, 116, 109, 112]⟩ : ByteArray)] w2 fun e7 w6 =>
  ∃ t8 : Bool, e7 = .returned (Value.bool t8) ∧ (
    vIf t8
    (nw w6 ([Value.string (⟨#[112, 111, 105, 110, 116, 46, 116, 109, 112]⟩ : ByteArray)] ++ []) 9 fun b9 w10 =>
      app w10 1 16 [Value.string (⟨#[]⟩ : ByteArray)] 9 none 0 0 (Value.slice (some ⟨b9, 0, none⟩) 1 1) fun A11 n12 c13 w14 =>
      jnC (F5.k4 Q) ((b1, 0), (A11, n12, c13), ()) w14)
    (jnC (F5.k4 Q) ((b1, 0), (none, 0, 0), ()) w6))
def F5.an : Ann := ⟨[(5, [(1, .kL), (3, .kSl), (15, .kSl), (16, .kI .i64), (17, .kI .i64)]), (11, [(1, .kL), (3, .kSl), (33, .kSl), (34, .kI .i64), (35, .kI .i64)])], [(4, [(1, .kL), (3, .kSl)])]⟩
theorem F5.of (x0 : List Value) (w : World) {Q : Value → World → Prop} (h : F5.vc x0 w Q) : Calls Tryd.prog 5 #[ofL x0] w (fun e w' => ∃ v, e = .returned v ∧ Q v w') := vcFn_of (A := F5.an) noCount mixed h (by kernel_rfl)
/-! ### function 6: stillage/stillagelaw26.same -/
def F6.vc (x0 : List Value) (x1 : List Value) (x2 : Bool) (w : World) (Q : Value → World → Prop) : Prop :=
  nw w x0 25 fun b1 w2 =>
  nw w2 x1 25 fun b3 w4 =>
  ldSl w4 b1 0 fun A5 n6 c7 =>
  ldSl w4 b3 0 fun A8 n9 c10 =>
  Calls Tryd.prog 15 #[Value.slice A5 n6 c7, Value.slice A8 n9 c10] w4 fun e12 w11 =>
  ∃ t13 : Bool, e12 = .returned (Value.bool t13) ∧ (
    vIf t13
    (ldSl w11 b1 (0 + 1) fun A14 n15 c16 =>
      ldSl w11 b3 (0 + 1) fun A17 n18 c19 =>
      Calls Tryd.prog 15 #[Value.slice A14 n15 c16, Value.slice A17 n18 c19] w11 fun e21 w20 =>
      ∃ t22 : Bool, e21 = .returned (Value.bool t22) ∧ (
        vIf t22
        (ldSl w20 b1 (0 + 2) fun A23 n24 c25 =>
          ldSl w20 b3 (0 + 2) fun A26 n27 c28 =>
          Calls Tryd.prog 15 #[Value.slice A23 n24 c25, Value.slice A26 n27 c28] w20 fun e30 w29 =>
          ∃ t31 : Bool, e30 = .returned (Value.bool t31) ∧ (
            vIf t31
            (vIf (!x2)
              (Q (Value.bool true) w29)
              (ldSl w29 b1 (0 + 3) fun A32 n33 c34 =>
                ldSl w29 b3 (0 + 3) fun A35 n36 c37 =>
                Calls Tryd.prog 16 #[Value.slice A32 n33 c34, Value.slice A35 n36 c37] w29 fun e39 w38 =>
                ∃ t40 : Bool, e39 = .returned (Value.bool t40) ∧ (
                  Q (Value.bool t40) w38)))
            (Q (Value.bool false) w29)))
        (Q (Value.bool false) w20)))
    (Q (Value.bool false) w11))
def F6.an : Ann := ⟨[], []⟩
theorem F6.of (x0 : List Value) (x1 : List Value) (x2 : Bool) (w : World) {Q : Value → World → Prop} (h : F6.vc x0 x1 x2 w Q) : Calls Tryd.prog 6 #[ofL x0, ofL x1, Value.bool x2] w (fun e w' => ∃ v, e = .returned v ∧ Q v w') := vcFn_of (A := F6.an) noCount mixed h (by kernel_rfl)
/-! ### function 7: stillage/stillagelaw26.lives -/
def F7.vc  (w : World) (Q : Value → World → Prop) : Prop :=
  nw w ([Value.string (⟨#[115, 101, 103, 45, 48, 48, 48, 48, 48, 48, 48, 50]⟩ : ByteArray)] ++ ([Value.string (⟨#[104, 105, 110, 116, 45, 48, 48, 48, 48, 48, 48, 48, 49]⟩ : ByteArray)] ++ ([Value.string (⟨#[120]⟩ : ByteArray)] ++ []))) 9 fun b1 w2 =>
  Calls Tryd.prog 4 #[Value.slice (some ⟨b1, 0, none⟩) 3 3] w2 fun e4 w3 =>
  ∃ a5 : List Value, e4 = .returned (ofL a5) ∧ (
    nw w3 Z25 25 fun b6 w7 =>
    gd (a5.length == 4) <|
    st w7 b6 0 a5 fun w8 =>
    ldA 4 w8 b6 0 fun a9 =>
    Calls Tryd.prog 5 #[ofL a9] w8 fun e11 w10 =>
    ∃ (A12 : Option Addr) (n13 c14 : Nat), e11 = .returned (Value.slice A12 n13 c14) ∧ (
      ldSl w10 b6 0 fun A15 n16 c17 =>
      vIf (((n16 : Nat) : Int) == 1)
      (ldSl w10 b6 (0 + 3) fun A18 n19 c20 =>
        vIf (((n19 : Nat) : Int) == 1)
        (ldSl w10 b6 0 fun A21 n22 c23 =>
          Calls Tryd.prog 17 #[Value.slice A21 n22 c23] w10 fun e25 w24 =>
          ∃ i26 : Int, e25 = .returned (Value.int .i64 i26) ∧ (
            vIf (i26 == 3)
            (vIf (((n13 : Nat) : Int) == 1)
              (dr A12 fun b27 o28 =>
                gd (decide ((0 : Int) < ((n13 : Nat) : Int))) <|
                ldS w24 b27 o28 fun s29 =>
                Q (Value.bool (s29.toList == (⟨#[104, 105, 110, 116, 45, 48, 48, 48, 48, 48, 48, 48, 49]⟩ : ByteArray).toList)) w24)
              (Q (Value.bool false) w24))
            (Q (Value.bool false) w24)))
        (Q (Value.bool false) w10))
      (Q (Value.bool false) w10)))
def F7.an : Ann := ⟨[], []⟩
theorem F7.of  (w : World) {Q : Value → World → Prop} (h : F7.vc  w Q) : Calls Tryd.prog 7 #[] w (fun e w' => ∃ v, e = .returned v ∧ Q v w') := vcFn_of (A := F7.an) noCount mixed h (by kernel_rfl)
/-! ### function 8: (*stillage/roster.rows).add -/
def F8.vc (x0 : Option Addr) (x1 : ByteArray) (w : World) (Q : Value → World → Prop) : Prop :=
  Calls Tryd.prog 18 #[Value.string x1] w fun e2 w1 =>
  ∃ i3 : Int, ∃ i4 : Int, e2 = .returned (Value.tuple #[Value.int .i64 i3, Value.int .i64 i4]) ∧ (
    vIf (i3 == 0)
    (Q (Value.bool false) w1)
    (dr x0 fun b5 o6 =>
      gd (decide (0 ≤ i3)) <|
      gd (decide (i3 < 4)) <|
      ldSl w1.drew b5 (o6 + (i3).toNat * 1) fun A7 n8 c9 =>
      dr x0 fun b10 o11 =>
      nw w1.drew ([Value.int .i64 i4] ++ []) 3 fun b12 w13 =>
      kp w1.drew b5 (o6 + (i3).toNat * 1) 1 w13 <|
      app w13 1 8 [Value.int .i64 0] 3 A7 n8 c9 (Value.slice (some ⟨b12, 0, none⟩) 1 1) fun A14 n15 c16 w17 =>
      gd (decide (0 ≤ i3)) <|
      gd (decide (i3 < 4)) <|
      st w17 b10 (o11 + (i3).toNat * 1) [Value.slice A14 n15 c16] fun w18 =>
      Q (Value.bool true) w18))
def F8.an : Ann := ⟨[], []⟩
theorem F8.of (x0 : Option Addr) (x1 : ByteArray) (w : World) {Q : Value → World → Prop} (h : F8.vc x0 x1 w Q) : Calls Tryd.prog 8 #[Value.pointer x0, Value.string x1] w (fun e w' => ∃ v, e = .returned v ∧ Q v w') := vcFn_of (A := F8.an) noCount mixed h (by kernel_rfl)
/-! ### function 9: slices.DeleteFunc[[]string,string] -/
def F9s.k12c (Q : Value → World → Prop) (x0 : (Option Addr × Nat × Nat)) (x5 : Int) (w : World) : Prop :=
  gd (decide (0 ≤ x5)) <|
  gd (decide (x5 ≤ ((x0.2.2 : Nat) : Int))) <|
  Q (Value.slice (slA x0.1 x0.2.2 0 1) (x5).toNat x0.2.2) w
def F9s.k12 (Q : Value → World → Prop) : ((Option Addr × Nat × Nat) × Int × Unit) → World → Prop := fun s w => ∀ _ : Nat → Value, F9s.k12c Q s.1 s.2.1 w
def F9s.b5c (Q : Value → World → Prop) (C5 : ((Option Addr × Nat × Nat) × (Nat × Nat) × Int × Int × Unit) → World → Prop) (x0 : (Option Addr × Nat × Nat)) (x1 : (Nat × Nat)) (x5 : Int) (x6 : Int) (w : World) : Prop :=
  vIf (decide (x6 < ((x0.2.1 : Nat) : Int)))
  (dr x0.1 fun b4 o5 =>
    gd (decide (0 ≤ x6)) <|
    gd (decide (x6 < ((x0.2.1 : Nat) : Int))) <|
    ldS w b4 (o5 + (x6).toNat * 1) fun s6 =>
    Calls Tryd.prog 8 #[Value.pointer (some ⟨x1.1, x1.2, none⟩), Value.string s6] w fun e8 w7 =>
    ∃ t9 : Bool, e8 = .returned (Value.bool t9) ∧ (
      vIf (!t9)
      (dr x0.1 fun b10 o11 =>
        gd (decide (0 ≤ x5)) <|
        gd (decide (x5 < ((x0.2.1 : Nat) : Int))) <|
        st w7 b10 (o11 + (x5).toNat * 1) [Value.string s6] fun w12 =>
        jnC C5 ((x0.1, x0.2.1, x0.2.2), (x1.1, x1.2), ((IntKind.wrap .i64 (x5 + 1))), ((IntKind.wrap .i64 (x6 + 1))), ()) w12)
      (jnC C5 ((x0.1, x0.2.1, x0.2.2), (x1.1, x1.2), (x5), ((IntKind.wrap .i64 (x6 + 1))), ()) w7)))
  (gd (decide (0 ≤ x5)) <|
    gd (decide (x5 ≤ ((x0.2.1 : Nat) : Int))) <|
    vIf ((x0.2.1 - (x5).toNat) == 0)
    (jnC (F9s.k12 Q) ((x0.1, x0.2.1, x0.2.2), (x5), ()) w)
    (dr (slA x0.1 x0.2.2 (x5).toNat 1) fun b14 o15 =>
      st w b14 o15 (zeros (x0.2.1 - (x5).toNat) [Value.string (⟨#[]⟩ : ByteArray)]) fun w13 =>
      jnC (F9s.k12 Q) ((x0.1, x0.2.1, x0.2.2), (x5), ()) w13))
def F9s.b5 (Q : Value → World → Prop) : ((Option Addr × Nat × Nat) × (Nat × Nat) × Int × Int × Unit) → World → (((Option Addr × Nat × Nat) × (Nat × Nat) × Int × Int × Unit) → World → Prop) → Prop := fun s w C5 => ∀ _ : Nat → Value, F9s.b5c Q C5 s.1 s.2.1 s.2.2.1 s.2.2.2.1 w
def F9s.l5 (Q : Value → World → Prop) : ((Option Addr × Nat × Nat) × (Nat × Nat) × Int × Int × Unit) → World → Prop := fun s w => ∃ n, loopC (F9s.b5 Q) n s w
def F9s.vc (x0A : Option Addr) (x0n x0c : Nat) (x1 : Nat × Nat) (w : World) (Q : Value → World → Prop) : Prop :=
  Calls Tryd.prog 19 #[Value.slice x0A x0n x0c, Value.func (.func 8) #[Value.pointer (some ⟨x1.1, x1.2, none⟩)] #[]] w fun e2 w1 =>
  ∃ i3 : Int, e2 = .returned (Value.int .i64 i3) ∧ (
    vIf (i3 == (-1))
    (Q (Value.slice x0A x0n x0c) w1)
    (jnC (F9s.l5 Q) ((x0A, x0n, x0c), (x1.1, x1.2), (i3), ((IntKind.wrap .i64 (i3 + 1))), ()) w1))
def F9s.an : Ann := ⟨[(5, [(0, .kSl), (1, .kR 8), (5, .kI .i64), (6, .kI .i64)])], [(12, [(0, .kSl), (5, .kI .i64)])]⟩
theorem F9s.of (x0A : Option Addr) (x0n x0c : Nat) (x1 : Nat × Nat) (w : World) {Q : Value → World → Prop} (h : F9s.vc x0A x0n x0c x1 w Q) : Calls Tryd.prog 9 #[Value.slice x0A x0n x0c, Value.func (.func 8) #[Value.pointer (some ⟨x1.1, x1.2, none⟩)] #[]] w (fun e w' => ∃ v, e = .returned v ∧ Q v w') := vcFn_of (A := F9s.an) noCount mixed h (by kernel_rfl)
/-! ### function 10: slices.Clone[[]string,string] -/
def F10.vc (x0A : Option Addr) (x0n x0c : Nat) (w : World) (Q : Value → World → Prop) : Prop :=
  vIf x0A.isNone
  (Q (Value.slice none 0 0) w)
  (nw w [] 9 fun b1 w2 =>
    app w2 1 16 [Value.string (⟨#[]⟩ : ByteArray)] 9 (some ⟨b1, 0, none⟩) 0 0 (Value.slice x0A x0n x0c) fun A3 n4 c5 w6 =>
    Q (Value.slice A3 n4 c5) w6)
def F10.an : Ann := ⟨[], []⟩
theorem F10.of (x0A : Option Addr) (x0n x0c : Nat) (w : World) {Q : Value → World → Prop} (h : F10.vc x0A x0n x0c w Q) : Calls Tryd.prog 10 #[Value.slice x0A x0n x0c] w (fun e w' => ∃ v, e = .returned v ∧ Q v w') := vcFn_of (A := F10.an) noCount mixed h (by kernel_rfl)
/-! ### function 11: stillage/roster.row -/
def F11.vc (x0A : Option Addr) (x0n x0c : Nat) (w : World) (Q : Value → World → Prop) : Prop :=
  Calls Tryd.prog 20 #[Value.slice x0A x0n x0c] w fun e2 w1 =>
  e2 = .returned (Value.tuple #[]) ∧ (
    Calls Tryd.prog 21 #[Value.slice x0A x0n x0c] w1 fun e4 w3 =>
    ∃ (A5 : Option Addr) (n6 c7 : Nat), e4 = .returned (Value.slice A5 n6 c7) ∧ (
      Q (Value.slice A5 n6 c7) w3))
def F11.an : Ann := ⟨[], []⟩
theorem F11.of (x0A : Option Addr) (x0n x0c : Nat) (w : World) {Q : Value → World → Prop} (h : F11.vc x0A x0n x0c w Q) : Calls Tryd.prog 11 #[Value.slice x0A x0n x0c] w (fun e w' => ∃ v, e = .returned v ∧ Q v w') := vcFn_of (A := F11.an) noCount mixed h (by kernel_rfl)
/-! ### function 12: slices.Contains[[]string,string] -/
def F12.vc (x0A : Option Addr) (x0n x0c : Nat) (x1 : ByteArray) (w : World) (Q : Value → World → Prop) : Prop :=
  Calls Tryd.prog 22 #[Value.slice x0A x0n x0c, Value.string x1] w fun e2 w1 =>
  ∃ i3 : Int, e2 = .returned (Value.int .i64 i3) ∧ (
    Q (Value.bool (decide (i3 ≥ 0))) w1)
def F12.an : Ann := ⟨[], []⟩
theorem F12.of (x0A : Option Addr) (x0n x0c : Nat) (x1 : ByteArray) (w : World) {Q : Value → World → Prop} (h : F12.vc x0A x0n x0c x1 w Q) : Calls Tryd.prog 12 #[Value.slice x0A x0n x0c, Value.string x1] w (fun e w' => ∃ v, e = .returned v ∧ Q v w') := vcFn_of (A := F12.an) noCount mixed h (by kernel_rfl)
/-! ### function 13: slices.Contains[[]int,int] -/
def F13.vc (x0A : Option Addr) (x0n x0c : Nat) (x1 : Int) (w : World) (Q : Value → World → Prop) : Prop :=
  Calls Tryd.prog 23 #[Value.slice x0A x0n x0c, Value.int .i64 x1] w fun e2 w1 =>
  ∃ i3 : Int, e2 = .returned (Value.int .i64 i3) ∧ (
    Q (Value.bool (decide (i3 ≥ 0))) w1)
def F13.an : Ann := ⟨[], []⟩
theorem F13.of (x0A : Option Addr) (x0n x0c : Nat) (x1 : Int) (w : World) {Q : Value → World → Prop} (h : F13.vc x0A x0n x0c x1 w Q) : Calls Tryd.prog 13 #[Value.slice x0A x0n x0c, Value.int .i64 x1] w (fun e w' => ∃ v, e = .returned v ∧ Q v w') := vcFn_of (A := F13.an) noCount mixed h (by kernel_rfl)
/-! ### function 14: stillage/name.File -/
def F14.k4c (Q : Value → World → Prop) (x1 : Int) (x5 : ByteArray) (w : World) : Prop :=
  Calls Tryd.prog 25 #[Value.int .i64 x1] w fun e5 w4 =>
  ∃ s6 : ByteArray, e5 = .returned (Value.string s6) ∧ (
    Calls Tryd.prog 26 #[Value.string (⟨#[48]⟩ : ByteArray), Value.int .i64 (IntKind.wrap .i64 (8 - (s6.size : Int)))] w4 fun e8 w7 =>
    ∃ s9 : ByteArray, e8 = .returned (Value.string s9) ∧ (
      gd (decide (x5.size + s9.size ≤ 9223372036854775807)) <|
      gd (decide ((x5 ++ s9).size + s6.size ≤ 9223372036854775807)) <|
      Q (Value.string ((x5 ++ s9) ++ s6)) w7))
def F14.k4 (Q : Value → World → Prop) : (Int × ByteArray × Unit) → World → Prop := fun s w => ∀ _ : Nat → Value, F14.k4c Q s.1 s.2.1 w
def F14.vc (x0 : Int) (x1 : Int) (w : World) (Q : Value → World → Prop) : Prop :=
  Calls Tryd.prog 24 #[Value.int .i64 x0] w fun e2 w1 =>
  ∃ s3 : ByteArray, e2 = .returned (Value.string s3) ∧ (
    vIf (s3.toList == (⟨#[]⟩ : ByteArray).toList)
    (Q (Value.string (⟨#[]⟩ : ByteArray)) w1)
    (vIf (decide (x1 < 1))
      (Q (Value.string (⟨#[]⟩ : ByteArray)) w1)
      (vIf (decide (x1 > 99999999))
        (Q (Value.string (⟨#[]⟩ : ByteArray)) w1)
        (jnC (F14.k4 Q) ((x1), s3, ()) w1))))
def F14.an : Ann := ⟨[], [(4, [(1, .kI .i64), (5, .kS)])]⟩
theorem F14.of (x0 : Int) (x1 : Int) (w : World) {Q : Value → World → Prop} (h : F14.vc x0 x1 w Q) : Calls Tryd.prog 14 #[Value.int .i64 x0, Value.int .i64 x1] w (fun e w' => ∃ v, e = .returned v ∧ Q v w') := vcFn_of (A := F14.an) noCount mixed h (by kernel_rfl)
/-! ### function 15: stillage/stillageref11.Ints -/
def F15.b4c (Q : Value → World → Prop) (C4 : ((Option Addr × Nat × Nat) × (Option Addr × Nat × Nat) × Int × Unit) → World → Prop) (x0 : (Option Addr × Nat × Nat)) (x1 : (Option Addr × Nat × Nat)) (x5 : Int) (w : World) : Prop :=
  vIf (decide (x5 < ((x0.2.1 : Nat) : Int)))
  (dr x0.1 fun b1 o2 =>
    gd (decide (0 ≤ x5)) <|
    gd (decide (x5 < ((x0.2.1 : Nat) : Int))) <|
    ldI .i64 w.drew b1 (o2 + (x5).toNat * 1) fun i3 =>
    dr x1.1 fun b4 o5 =>
    gd (decide (0 ≤ x5)) <|
    gd (decide (x5 < ((x1.2.1 : Nat) : Int))) <|
    ldI .i64 w.drew b4 (o5 + (x5).toNat * 1) fun i6 =>
    vIf (i3 != i6)
    (Q (Value.bool false) w.drew)
    (jnC C4 ((x0.1, x0.2.1, x0.2.2), (x1.1, x1.2.1, x1.2.2), ((IntKind.wrap .i64 (x5 + 1))), ()) w.drew))
  (Q (Value.bool true) w)
def F15.b4 (Q : Value → World → Prop) : ((Option Addr × Nat × Nat) × (Option Addr × Nat × Nat) × Int × Unit) → World → (((Option Addr × Nat × Nat) × (Option Addr × Nat × Nat) × Int × Unit) → World → Prop) → Prop := fun s w C4 => ∀ _ : Nat → Value, F15.b4c Q C4 s.1 s.2.1 s.2.2.1 w
def F15.l4 (Q : Value → World → Prop) : ((Option Addr × Nat × Nat) × (Option Addr × Nat × Nat) × Int × Unit) → World → Prop := fun s w => ∃ n, loopC (F15.b4 Q) n s w
def F15.vc (x0A : Option Addr) (x0n x0c : Nat) (x1A : Option Addr) (x1n x1c : Nat) (w : World) (Q : Value → World → Prop) : Prop :=
  vIf (((x0n : Nat) : Int) != ((x1n : Nat) : Int))
  (Q (Value.bool false) w)
  (jnC (F15.l4 Q) ((x0A, x0n, x0c), (x1A, x1n, x1c), (0), ()) w)
def F15.an : Ann := ⟨[(4, [(0, .kSl), (1, .kSl), (5, .kI .i64)])], []⟩
theorem F15.of (x0A : Option Addr) (x0n x0c : Nat) (x1A : Option Addr) (x1n x1c : Nat) (w : World) {Q : Value → World → Prop} (h : F15.vc x0A x0n x0c x1A x1n x1c w Q) : Calls Tryd.prog 15 #[Value.slice x0A x0n x0c, Value.slice x1A x1n x1c] w (fun e w' => ∃ v, e = .returned v ∧ Q v w') := vcFn_of (A := F15.an) noCount mixed h (by kernel_rfl)
/-! ### function 16: stillage/stillageref21.Texts -/
def F16.b4c (Q : Value → World → Prop) (C4 : ((Option Addr × Nat × Nat) × (Option Addr × Nat × Nat) × Int × Unit) → World → Prop) (x0 : (Option Addr × Nat × Nat)) (x1 : (Option Addr × Nat × Nat)) (x5 : Int) (w : World) : Prop :=
  vIf (decide (x5 < ((x0.2.1 : Nat) : Int)))
  (dr x0.1 fun b1 o2 =>
    gd (decide (0 ≤ x5)) <|
    gd (decide (x5 < ((x0.2.1 : Nat) : Int))) <|
    ldS w.drew b1 (o2 + (x5).toNat * 1) fun s3 =>
    dr x1.1 fun b4 o5 =>
    gd (decide (0 ≤ x5)) <|
    gd (decide (x5 < ((x1.2.1 : Nat) : Int))) <|
    ldS w.drew b4 (o5 + (x5).toNat * 1) fun s6 =>
    vIf (!(s3.toList == s6.toList))
    (Q (Value.bool false) w.drew)
    (jnC C4 ((x0.1, x0.2.1, x0.2.2), (x1.1, x1.2.1, x1.2.2), ((IntKind.wrap .i64 (x5 + 1))), ()) w.drew))
  (Q (Value.bool true) w)
def F16.b4 (Q : Value → World → Prop) : ((Option Addr × Nat × Nat) × (Option Addr × Nat × Nat) × Int × Unit) → World → (((Option Addr × Nat × Nat) × (Option Addr × Nat × Nat) × Int × Unit) → World → Prop) → Prop := fun s w C4 => ∀ _ : Nat → Value, F16.b4c Q C4 s.1 s.2.1 s.2.2.1 w
def F16.l4 (Q : Value → World → Prop) : ((Option Addr × Nat × Nat) × (Option Addr × Nat × Nat) × Int × Unit) → World → Prop := fun s w => ∃ n, loopC (F16.b4 Q) n s w
def F16.vc (x0A : Option Addr) (x0n x0c : Nat) (x1A : Option Addr) (x1n x1c : Nat) (w : World) (Q : Value → World → Prop) : Prop :=
  vIf (((x0n : Nat) : Int) != ((x1n : Nat) : Int))
  (Q (Value.bool false) w)
  (jnC (F16.l4 Q) ((x0A, x0n, x0c), (x1A, x1n, x1c), (0), ()) w)
def F16.an : Ann := ⟨[(4, [(0, .kSl), (1, .kSl), (5, .kI .i64)])], []⟩
theorem F16.of (x0A : Option Addr) (x0n x0c : Nat) (x1A : Option Addr) (x1n x1c : Nat) (w : World) {Q : Value → World → Prop} (h : F16.vc x0A x0n x0c x1A x1n x1c w Q) : Calls Tryd.prog 16 #[Value.slice x0A x0n x0c, Value.slice x1A x1n x1c] w (fun e w' => ∃ v, e = .returned v ∧ Q v w') := vcFn_of (A := F16.an) noCount mixed h (by kernel_rfl)
/-! ### function 17: stillage/roster.Next -/
def F17.vc (x0A : Option Addr) (x0n x0c : Nat) (w : World) (Q : Value → World → Prop) : Prop :=
  vIf (((x0n : Nat) : Int) == 0)
  (Q (Value.int .i64 1) w)
  (dr x0A fun b1 o2 =>
    gd (decide (0 ≤ (IntKind.wrap .i64 (((x0n : Nat) : Int) - 1)))) <|
    gd (decide ((IntKind.wrap .i64 (((x0n : Nat) : Int) - 1)) < ((x0n : Nat) : Int))) <|
    ldI .i64 w b1 (o2 + ((IntKind.wrap .i64 (((x0n : Nat) : Int) - 1))).toNat * 1) fun i3 =>
    Q (Value.int .i64 (IntKind.wrap .i64 (i3 + 1))) w)
def F17.an : Ann := ⟨[], []⟩
theorem F17.of (x0A : Option Addr) (x0n x0c : Nat) (w : World) {Q : Value → World → Prop} (h : F17.vc x0A x0n x0c w Q) : Calls Tryd.prog 17 #[Value.slice x0A x0n x0c] w (fun e w' => ∃ v, e = .returned v ∧ Q v w') := vcFn_of (A := F17.an) noCount mixed h (by kernel_rfl)
/-! ### function 18: stillage/name.Number -/
def F18.k8c (Q : Value → World → Prop) (C2 : (ByteArray × Int × Unit) → World → Prop) (x0 : ByteArray) (x4 : Int) (x7 : Int) (x40 : Bool) (w : World) : Prop :=
  vIf x40
  (Q (Value.tuple #[Value.int .i64 x4, Value.int .i64 x7]) w)
  (jnC C2 (x0, ((IntKind.wrap .i64 (x4 + 1))), ()) w)
def F18.k8 (Q : Value → World → Prop) (C2 : (ByteArray × Int × Unit) → World → Prop) : (ByteArray × Int × Int × Bool × Unit) → World → Prop := fun s w => ∀ _ : Nat → Value, F18.k8c Q C2 s.1 s.2.1 s.2.2.1 s.2.2.2.1 w
def F18.k6c (Q : Value → World → Prop) (C2 : (ByteArray × Int × Unit) → World → Prop) (x0 : ByteArray) (x4 : Int) (x5 : ByteArray) (w : World) : Prop :=
  Calls Tryd.prog 28 #[Value.string x5] w fun e9 w8 =>
  ∃ i10 : Int, ∃ v11 : Value, e9 = .returned (Value.tuple #[Value.int .i64 i10, v11]) ∧ (
    ifNil v11 fun t12 =>
    vIf t12
    (Calls Tryd.prog 14 #[Value.int .i64 x4, Value.int .i64 i10] w8 fun e14 w13 =>
      ∃ s15 : ByteArray, e14 = .returned (Value.string s15) ∧ (
        jnC (F18.k8 Q C2) (x0, (x4), (i10), (s15.toList == x0.toList), ()) w13))
    (jnC (F18.k8 Q C2) (x0, (x4), (i10), false, ()) w8))
def F18.k6 (Q : Value → World → Prop) (C2 : (ByteArray × Int × Unit) → World → Prop) : (ByteArray × Int × ByteArray × Unit) → World → Prop := fun s w => ∀ _ : Nat → Value, F18.k6c Q C2 s.1 s.2.1 s.2.2.1 w
def F18.b2c (Q : Value → World → Prop) (C2 : (ByteArray × Int × Unit) → World → Prop) (x0 : ByteArray) (x4 : Int) (w : World) : Prop :=
  vIf (decide (x4 < 4))
  (Calls Tryd.prog 24 #[Value.int .i64 x4] w fun e2 w1 =>
    ∃ s3 : ByteArray, e2 = .returned (Value.string s3) ∧ (
      Calls Tryd.prog 27 #[Value.string x0, Value.string s3] w1 fun e5 w4 =>
      ∃ s6 : ByteArray, ∃ t7 : Bool, e5 = .returned (Value.tuple #[Value.string s6, Value.bool t7]) ∧ (
        vIf (!t7)
        (jnC C2 (x0, ((IntKind.wrap .i64 (x4 + 1))), ()) w4)
        (vIf ((s6.size : Int) != 8)
          (jnC C2 (x0, ((IntKind.wrap .i64 (x4 + 1))), ()) w4)
          (jnC (F18.k6 Q C2) (x0, (x4), s6, ()) w4)))))
  (Q (Value.tuple #[Value.int .i64 0, Value.int .i64 0]) w)
def F18.b2 (Q : Value → World → Prop) : (ByteArray × Int × Unit) → World → ((ByteArray × Int × Unit) → World → Prop) → Prop := fun s w C2 => ∀ _ : Nat → Value, F18.b2c Q C2 s.1 s.2.1 w
def F18.l2 (Q : Value → World → Prop) : (ByteArray × Int × Unit) → World → Prop := fun s w => ∃ n, loopC (F18.b2 Q) n s w
def F18.vc (x0 : ByteArray) (w : World) (Q : Value → World → Prop) : Prop :=
  jnC (F18.l2 Q) (x0, (1), ()) w
def F18.an : Ann := ⟨[(2, [(0, .kS), (4, .kI .i64)])], [(6, [(0, .kS), (4, .kI .i64), (5, .kS)]), (8, [(0, .kS), (4, .kI .i64), (7, .kI .i64), (40, .kB)])]⟩
theorem F18.of (x0 : ByteArray) (w : World) {Q : Value → World → Prop} (h : F18.vc x0 w Q) : Calls Tryd.prog 18 #[Value.string x0] w (fun e w' => ∃ v, e = .returned v ∧ Q v w') := vcFn_of (A := F18.an) noCount mixed h (by kernel_rfl)
/-! ### function 19: slices.IndexFunc[[]string,string] -/
def F19s.b2c (Q : Value → World → Prop) (C2 : ((Option Addr × Nat × Nat) × (Nat × Nat) × Int × Int × Unit) → World → Prop) (x0 : (Option Addr × Nat × Nat)) (x1 : (Nat × Nat)) (x7 : Int) (x8 : Int) (w : World) : Prop :=
  vIf (decide (x8 < x7))
  (dr x0.1 fun b1 o2 =>
    gd (decide (0 ≤ x8)) <|
    gd (decide (x8 < ((x0.2.1 : Nat) : Int))) <|
    ldS w b1 (o2 + (x8).toNat * 1) fun s3 =>
    Calls Tryd.prog 8 #[Value.pointer (some ⟨x1.1, x1.2, none⟩), Value.string s3] w fun e5 w4 =>
    ∃ t6 : Bool, e5 = .returned (Value.bool t6) ∧ (
      vIf t6
      (Q (Value.int .i64 x8) w4)
      (jnC C2 ((x0.1, x0.2.1, x0.2.2), (x1.1, x1.2), (x7), ((IntKind.wrap .i64 (x8 + 1))), ()) w4)))
  (Q (Value.int .i64 (-1)) w)
def F19s.b2 (Q : Value → World → Prop) : ((Option Addr × Nat × Nat) × (Nat × Nat) × Int × Int × Unit) → World → (((Option Addr × Nat × Nat) × (Nat × Nat) × Int × Int × Unit) → World → Prop) → Prop := fun s w C2 => ∀ _ : Nat → Value, F19s.b2c Q C2 s.1 s.2.1 s.2.2.1 s.2.2.2.1 w
def F19s.l2 (Q : Value → World → Prop) : ((Option Addr × Nat × Nat) × (Nat × Nat) × Int × Int × Unit) → World → Prop := fun s w => ∃ n, loopC (F19s.b2 Q) n s w
def F19s.vc (x0A : Option Addr) (x0n x0c : Nat) (x1 : Nat × Nat) (w : World) (Q : Value → World → Prop) : Prop :=
  jnC (F19s.l2 Q) ((x0A, x0n, x0c), (x1.1, x1.2), (((x0n : Nat) : Int)), (0), ()) w
def F19s.an : Ann := ⟨[(2, [(0, .kSl), (1, .kR 8), (7, .kI .i64), (8, .kI .i64)])], []⟩
theorem F19s.of (x0A : Option Addr) (x0n x0c : Nat) (x1 : Nat × Nat) (w : World) {Q : Value → World → Prop} (h : F19s.vc x0A x0n x0c x1 w Q) : Calls Tryd.prog 19 #[Value.slice x0A x0n x0c, Value.func (.func 8) #[Value.pointer (some ⟨x1.1, x1.2, none⟩)] #[]] w (fun e w' => ∃ v, e = .returned v ∧ Q v w') := vcFn_of (A := F19s.an) noCount mixed h (by kernel_rfl)
/-! ### function 20: slices.Sort[[]int,int] -/
def F20.vc (x0A : Option Addr) (x0n x0c : Nat) (w : World) (Q : Value → World → Prop) : Prop :=
  Calls Tryd.prog 30 #[Value.int .u64 (IntKind.wrap .u64 ((x0n : Nat) : Int))] w fun e2 w1 =>
  ∃ i3 : Int, e2 = .returned (Value.int .i64 i3) ∧ (
    Calls Tryd.prog 29 #[Value.slice x0A x0n x0c, Value.int .i64 0, Value.int .i64 ((x0n : Nat) : Int), Value.int .i64 i3] w1 fun e5 w4 =>
    e5 = .returned (Value.tuple #[]) ∧ (
      Q (Value.tuple #[]) w4))
def F20.an : Ann := ⟨[], []⟩
theorem F20.of (x0A : Option Addr) (x0n x0c : Nat) (w : World) {Q : Value → World → Prop} (h : F20.vc x0A x0n x0c w Q) : Calls Tryd.prog 20 #[Value.slice x0A x0n x0c] w (fun e w' => ∃ v, e = .returned v ∧ Q v w') := vcFn_of (A := F20.an) noCount mixed h (by kernel_rfl)
/-! ### function 21: slices.Compact[[]int,int] -/
def F21.k15c (Q : Value → World → Prop) (C4 : ((Option Addr × Nat × Nat) × Int × Unit) → World → Prop) (x0 : (Option Addr × Nat × Nat)) (x3 : Int) (w : World) : Prop :=
  gd (decide (0 ≤ x3)) <|
  gd (decide (x3 ≤ ((x0.2.2 : Nat) : Int))) <|
  Q (Value.slice (slA x0.1 x0.2.2 0 1) (x3).toNat x0.2.2) w
def F21.k15 (Q : Value → World → Prop) (C4 : ((Option Addr × Nat × Nat) × Int × Unit) → World → Prop) : ((Option Addr × Nat × Nat) × Int × Unit) → World → Prop := fun s w => ∀ _ : Nat → Value, F21.k15c Q C4 s.1 s.2.1 w
def F21.b9c (Q : Value → World → Prop) (C4 : ((Option Addr × Nat × Nat) × Int × Unit) → World → Prop) (C9 : ((Option Addr × Nat × Nat) × Int × (Option Addr × Nat × Nat) × Int × Unit) → World → Prop) (x0 : (Option Addr × Nat × Nat)) (x3 : Int) (x4 : (Option Addr × Nat × Nat)) (x5 : Int) (w : World) : Prop :=
  vIf (decide (x5 < ((x4.2.1 : Nat) : Int)))
  (dr x4.1 fun b7 o8 =>
    gd (decide (0 ≤ x5)) <|
    gd (decide (x5 < ((x4.2.1 : Nat) : Int))) <|
    ldI .i64 w.drew b7 (o8 + (x5).toNat * 1) fun i9 =>
    dr x4.1 fun b10 o11 =>
    gd (decide (0 ≤ (IntKind.wrap .i64 (x5 - 1)))) <|
    gd (decide ((IntKind.wrap .i64 (x5 - 1)) < ((x4.2.1 : Nat) : Int))) <|
    ldI .i64 w.drew b10 (o11 + ((IntKind.wrap .i64 (x5 - 1))).toNat * 1) fun i12 =>
    vIf (i9 != i12)
    (dr x4.1 fun b13 o14 =>
      gd (decide (0 ≤ x5)) <|
      gd (decide (x5 < ((x4.2.1 : Nat) : Int))) <|
      ldI .i64 w.drew b13 (o14 + (x5).toNat * 1) fun i15 =>
      dr x0.1 fun b16 o17 =>
      gd (decide (0 ≤ x3)) <|
      gd (decide (x3 < ((x0.2.1 : Nat) : Int))) <|
      st w.drew b16 (o17 + (x3).toNat * 1) [Value.int .i64 i15] fun w18 =>
      jnC C9 ((x0.1, x0.2.1, x0.2.2), ((IntKind.wrap .i64 (x3 + 1))), (x4.1, x4.2.1, x4.2.2), ((IntKind.wrap .i64 (x5 + 1))), ()) w18)
    (jnC C9 ((x0.1, x0.2.1, x0.2.2), (x3), (x4.1, x4.2.1, x4.2.2), ((IntKind.wrap .i64 (x5 + 1))), ()) w.drew))
  (gd (decide (0 ≤ x3)) <|
    gd (decide (x3 ≤ ((x0.2.1 : Nat) : Int))) <|
    vIf ((x0.2.1 - (x3).toNat) == 0)
    (jnC (F21.k15 Q C4) ((x0.1, x0.2.1, x0.2.2), (x3), ()) w)
    (dr (slA x0.1 x0.2.2 (x3).toNat 1) fun b20 o21 =>
      st w b20 o21 (zeros (x0.2.1 - (x3).toNat) [Value.int .i64 0]) fun w19 =>
      jnC (F21.k15 Q C4) ((x0.1, x0.2.1, x0.2.2), (x3), ()) w19))
def F21.b9 (Q : Value → World → Prop) (C4 : ((Option Addr × Nat × Nat) × Int × Unit) → World → Prop) : ((Option Addr × Nat × Nat) × Int × (Option Addr × Nat × Nat) × Int × Unit) → World → (((Option Addr × Nat × Nat) × Int × (Option Addr × Nat × Nat) × Int × Unit) → World → Prop) → Prop := fun s w C9 => ∀ _ : Nat → Value, F21.b9c Q C4 C9 s.1 s.2.1 s.2.2.1 s.2.2.2.1 w
def F21.l9 (Q : Value → World → Prop) (C4 : ((Option Addr × Nat × Nat) × Int × Unit) → World → Prop) : ((Option Addr × Nat × Nat) × Int × (Option Addr × Nat × Nat) × Int × Unit) → World → Prop := fun s w => ∃ n, loopC (F21.b9 Q C4) n s w
def F21.b4c (Q : Value → World → Prop) (C4 : ((Option Addr × Nat × Nat) × Int × Unit) → World → Prop) (x0 : (Option Addr × Nat × Nat)) (x3 : Int) (w : World) : Prop :=
  vIf (decide (x3 < ((x0.2.1 : Nat) : Int)))
  (dr x0.1 fun b1 o2 =>
    gd (decide (0 ≤ x3)) <|
    gd (decide (x3 < ((x0.2.1 : Nat) : Int))) <|
    ldI .i64 w.drew b1 (o2 + (x3).toNat * 1) fun i3 =>
    dr x0.1 fun b4 o5 =>
    gd (decide (0 ≤ (IntKind.wrap .i64 (x3 - 1)))) <|
    gd (decide ((IntKind.wrap .i64 (x3 - 1)) < ((x0.2.1 : Nat) : Int))) <|
    ldI .i64 w.drew b4 (o5 + ((IntKind.wrap .i64 (x3 - 1))).toNat * 1) fun i6 =>
    vIf (i3 == i6)
    (gd (decide (0 ≤ x3)) <|
      gd (decide (x3 ≤ ((x0.2.1 : Nat) : Int))) <|
      jnC (F21.l9 Q C4) ((x0.1, x0.2.1, x0.2.2), (x3), ((slA x0.1 x0.2.2 (x3).toNat 1), (x0.2.1 - (x3).toNat), (x0.2.2 - (x3).toNat)), (1), ()) w.drew)
    (jnC C4 ((x0.1, x0.2.1, x0.2.2), ((IntKind.wrap .i64 (x3 + 1))), ()) w.drew))
  (Q (Value.slice x0.1 x0.2.1 x0.2.2) w)
def F21.b4 (Q : Value → World → Prop) : ((Option Addr × Nat × Nat) × Int × Unit) → World → (((Option Addr × Nat × Nat) × Int × Unit) → World → Prop) → Prop := fun s w C4 => ∀ _ : Nat → Value, F21.b4c Q C4 s.1 s.2.1 w
def F21.l4 (Q : Value → World → Prop) : ((Option Addr × Nat × Nat) × Int × Unit) → World → Prop := fun s w => ∃ n, loopC (F21.b4 Q) n s w
def F21.vc (x0A : Option Addr) (x0n x0c : Nat) (w : World) (Q : Value → World → Prop) : Prop :=
  vIf (decide (((x0n : Nat) : Int) < 2))
  (Q (Value.slice x0A x0n x0c) w)
  (jnC (F21.l4 Q) ((x0A, x0n, x0c), (1), ()) w)
def F21.an : Ann := ⟨[(4, [(0, .kSl), (3, .kI .i64)]), (9, [(0, .kSl), (3, .kI .i64), (4, .kSl), (5, .kI .i64)])], [(15, [(0, .kSl), (3, .kI .i64)])]⟩
theorem F21.of (x0A : Option Addr) (x0n x0c : Nat) (w : World) {Q : Value → World → Prop} (h : F21.vc x0A x0n x0c w Q) : Calls Tryd.prog 21 #[Value.slice x0A x0n x0c] w (fun e w' => ∃ v, e = .returned v ∧ Q v w') := vcFn_of (A := F21.an) noCount mixed h (by kernel_rfl)
/-! ### function 22: slices.Index[[]string,string] -/
def F22.b2c (Q : Value → World → Prop) (C2 : ((Option Addr × Nat × Nat) × ByteArray × Int × Int × Unit) → World → Prop) (x0 : (Option Addr × Nat × Nat)) (x1 : ByteArray) (x7 : Int) (x8 : Int) (w : World) : Prop :=
  vIf (decide (x8 < x7))
  (dr x0.1 fun b1 o2 =>
    gd (decide (0 ≤ x8)) <|
    gd (decide (x8 < ((x0.2.1 : Nat) : Int))) <|
    ldS w b1 (o2 + (x8).toNat * 1) fun s3 =>
    vIf (x1.toList == s3.toList)
    (Q (Value.int .i64 x8) w)
    (jnC C2 ((x0.1, x0.2.1, x0.2.2), x1, (x7), ((IntKind.wrap .i64 (x8 + 1))), ()) w))
  (Q (Value.int .i64 (-1)) w)
def F22.b2 (Q : Value → World → Prop) : ((Option Addr × Nat × Nat) × ByteArray × Int × Int × Unit) → World → (((Option Addr × Nat × Nat) × ByteArray × Int × Int × Unit) → World → Prop) → Prop := fun s w C2 => ∀ _ : Nat → Value, F22.b2c Q C2 s.1 s.2.1 s.2.2.1 s.2.2.2.1 w
def F22.l2 (Q : Value → World → Prop) : ((Option Addr × Nat × Nat) × ByteArray × Int × Int × Unit) → World → Prop := fun s w => ∃ n, loopC (F22.b2 Q) n s w
def F22.vc (x0A : Option Addr) (x0n x0c : Nat) (x1 : ByteArray) (w : World) (Q : Value → World → Prop) : Prop :=
  jnC (F22.l2 Q) ((x0A, x0n, x0c), x1, (((x0n : Nat) : Int)), (0), ()) w
def F22.an : Ann := ⟨[(2, [(0, .kSl), (1, .kS), (7, .kI .i64), (8, .kI .i64)])], []⟩
theorem F22.of (x0A : Option Addr) (x0n x0c : Nat) (x1 : ByteArray) (w : World) {Q : Value → World → Prop} (h : F22.vc x0A x0n x0c x1 w Q) : Calls Tryd.prog 22 #[Value.slice x0A x0n x0c, Value.string x1] w (fun e w' => ∃ v, e = .returned v ∧ Q v w') := vcFn_of (A := F22.an) noCount mixed h (by kernel_rfl)
/-! ### function 23: slices.Index[[]int,int] -/
def F23.b2c (Q : Value → World → Prop) (C2 : ((Option Addr × Nat × Nat) × Int × Int × Int × Unit) → World → Prop) (x0 : (Option Addr × Nat × Nat)) (x1 : Int) (x7 : Int) (x8 : Int) (w : World) : Prop :=
  vIf (decide (x8 < x7))
  (dr x0.1 fun b1 o2 =>
    gd (decide (0 ≤ x8)) <|
    gd (decide (x8 < ((x0.2.1 : Nat) : Int))) <|
    ldI .i64 w b1 (o2 + (x8).toNat * 1) fun i3 =>
    vIf (x1 == i3)
    (Q (Value.int .i64 x8) w)
    (jnC C2 ((x0.1, x0.2.1, x0.2.2), (x1), (x7), ((IntKind.wrap .i64 (x8 + 1))), ()) w))
  (Q (Value.int .i64 (-1)) w)
def F23.b2 (Q : Value → World → Prop) : ((Option Addr × Nat × Nat) × Int × Int × Int × Unit) → World → (((Option Addr × Nat × Nat) × Int × Int × Int × Unit) → World → Prop) → Prop := fun s w C2 => ∀ _ : Nat → Value, F23.b2c Q C2 s.1 s.2.1 s.2.2.1 s.2.2.2.1 w
def F23.l2 (Q : Value → World → Prop) : ((Option Addr × Nat × Nat) × Int × Int × Int × Unit) → World → Prop := fun s w => ∃ n, loopC (F23.b2 Q) n s w
def F23.vc (x0A : Option Addr) (x0n x0c : Nat) (x1 : Int) (w : World) (Q : Value → World → Prop) : Prop :=
  jnC (F23.l2 Q) ((x0A, x0n, x0c), (x1), (((x0n : Nat) : Int)), (0), ()) w
def F23.an : Ann := ⟨[(2, [(0, .kSl), (1, .kI .i64), (7, .kI .i64), (8, .kI .i64)])], []⟩
theorem F23.of (x0A : Option Addr) (x0n x0c : Nat) (x1 : Int) (w : World) {Q : Value → World → Prop} (h : F23.vc x0A x0n x0c x1 w Q) : Calls Tryd.prog 23 #[Value.slice x0A x0n x0c, Value.int .i64 x1] w (fun e w' => ∃ v, e = .returned v ∧ Q v w') := vcFn_of (A := F23.an) noCount mixed h (by kernel_rfl)
/-! ### function 24: stillage/name.word -/
def F24.k4c (Q : Value → World → Prop) (x0 : Int) (x3 : (Nat × Nat)) (w : World) : Prop :=
  gd (decide (0 ≤ x0)) <|
  gd (decide (x0 < 4)) <|
  ldS w x3.1 (x3.2 + (x0).toNat * 1) fun s4 =>
  Q (Value.string s4) w
def F24.k4 (Q : Value → World → Prop) : (Int × (Nat × Nat) × Unit) → World → Prop := fun s w => ∀ _ : Nat → Value, F24.k4c Q s.1 s.2.1 w
def F24.vc (x0 : Int) (w : World) (Q : Value → World → Prop) : Prop :=
  nw w Z61 61 fun b1 w2 =>
  gd (([Value.string (⟨#[]⟩ : ByteArray)] ++ ([Value.string (⟨#[115, 101, 103, 45]⟩ : ByteArray)] ++ ([Value.string (⟨#[104, 105, 110, 116, 45]⟩ : ByteArray)] ++ ([Value.string (⟨#[112, 111, 105, 110, 116, 45]⟩ : ByteArray)] ++ [])))).length == 4) <|
  st w2 b1 0 ([Value.string (⟨#[]⟩ : ByteArray)] ++ ([Value.string (⟨#[115, 101, 103, 45]⟩ : ByteArray)] ++ ([Value.string (⟨#[104, 105, 110, 116, 45]⟩ : ByteArray)] ++ ([Value.string (⟨#[112, 111, 105, 110, 116, 45]⟩ : ByteArray)] ++ [])))) fun w3 =>
  vIf (decide (x0 ≤ 0))
  (Q (Value.string (⟨#[]⟩ : ByteArray)) w3)
  (vIf (decide (x0 ≥ 4))
    (Q (Value.string (⟨#[]⟩ : ByteArray)) w3)
    (jnC (F24.k4 Q) ((x0), (b1, 0), ()) w3))
def F24.an : Ann := ⟨[], [(4, [(0, .kI .i64), (3, .kL)])]⟩
theorem F24.of (x0 : Int) (w : World) {Q : Value → World → Prop} (h : F24.vc x0 w Q) : Calls Tryd.prog 24 #[Value.int .i64 x0] w (fun e w' => ∃ v, e = .returned v ∧ Q v w') := vcFn_of (A := F24.an) noCount mixed h (by kernel_rfl)
end Go.Proofs.YtfhimpkpfelilaaDoor
