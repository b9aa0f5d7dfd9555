import Derived.Shelf.Lays
import Derived.Test.YthcclmlbkfadcaaGreatProg
import Derived.Shelf.Sort.Plain
import Derived.Shelf.Slices.In.SortNone
import Derived.Test.YthcclmlbkfadcaaGreatP1
/- PRINTED BY MY OWN gen.py out of the translation: each function as a proposition. -/
namespace Go.Proofs.YthcclmlbkfadcaaGreat
open Go.GV
set_option linter.unusedVariables false
set_option maxRecDepth 100000
/-! ### function 3: stillage/stillagelaw22.StateCopies -/
def F3.b11c (Q : Value → World → Prop) (C11 : (Int × Int × Option Addr × (Nat × Nat) × (Option Addr × Nat × Nat) × Int × Unit) → World → Prop) (x1 : Int) (x2 : Int) (x7 : Option Addr) (x9 : (Nat × Nat)) (x10 : (Option Addr × Nat × Nat)) (x11 : Int) (w : World) : Prop :=
  vIf (decide (x11 < ((x10.2.1 : Nat) : Int)))
  (dr x10.1 fun b23 o24 =>
    gd (decide (0 ≤ x11)) <|
    gd (decide (x11 < ((x10.2.1 : Nat) : Int))) <|
    ldA 39 w b23 (o24 + (x11).toNat * 39) fun a25 =>
    nw w Z37 37 fun b26 w27 =>
    gd (a25.length == 39) <|
    st w27 b26 0 a25 fun w28 =>
    ldI .i64 w28 b26 ((0 + 36) + 2) fun i29 =>
    gd (([Value.int .i64 x2] ++ ([Value.int .i64 (IntKind.wrap .i64 (100 * x11))] ++ ([Value.int .i64 i29] ++ []))).length == 3) <|
    st w28 b26 (0 + 36) ([Value.int .i64 x2] ++ ([Value.int .i64 (IntKind.wrap .i64 (100 * x11))] ++ ([Value.int .i64 i29] ++ []))) fun w30 =>
    ldA 39 w30 b26 0 fun a31 =>
    Calls Tryz.prog 9 #[Value.pointer x7, ofL a31] w30 fun e33 w32 =>
    e33 = .returned (Value.tuple #[]) ∧ (
      jnC C11 ((x1), (x2), x7, (x9.1, x9.2), (x10.1, x10.2.1, x10.2.2), ((IntKind.wrap .i64 (x11 + 1))), ()) w32))
  (Calls Tryz.prog 12 #[Value.pointer x7, Value.int .i64 x1] w.drew fun e35 w34 =>
    ∃ (A36 : Option Addr) (n37 c38 : Nat), e35 = .returned (Value.slice A36 n37 c38) ∧ (
      vIf (((n37 : Nat) : Int) == 0)
      (ldA 7 w34 x9.1 x9.2 fun a39 =>
        Calls Tryz.prog 11 #[Value.pointer x7] w34 fun e41 w40 =>
        ∃ a42 : List Value, e41 = .returned (ofL a42) ∧ (
          kp w34 x9.1 x9.2 7 w40 <|
          Calls Tryz.prog 13 #[ofL a39, ofL a42] w40 fun e44 w43 =>
          ∃ t45 : Bool, e44 = .returned (Value.bool t45) ∧ (
            vIf t45
            (Calls Tryz.prog 10 #[] w43 fun e47 w46 =>
              ∃ t48 : Bool, e47 = .returned (Value.bool t48) ∧ (
                Q (Value.bool t48) w46))
            (Q (Value.bool false) w43))))
      (Q (Value.bool false) w34)))
def F3.b11 (Q : Value → World → Prop) : (Int × Int × Option Addr × (Nat × Nat) × (Option Addr × Nat × Nat) × Int × Unit) → World → ((Int × Int × Option Addr × (Nat × Nat) × (Option Addr × Nat × Nat) × Int × Unit) → World → Prop) → Prop := fun s w C11 => ∀ _ : Nat → Value, F3.b11c Q C11 s.1 s.2.1 s.2.2.1 s.2.2.2.1 s.2.2.2.2.1 s.2.2.2.2.2.1 w
def F3.l11 (Q : Value → World → Prop) : (Int × Int × Option Addr × (Nat × Nat) × (Option Addr × Nat × Nat) × Int × Unit) → World → Prop := fun s w => ∃ n, loopC (F3.b11 Q) n s w
def F3.b3c (Q : Value → World → Prop) (C3 : ((Option Addr × Nat × Nat) × Int × Int × Option Addr × Int × Unit) → World → Prop) (x0 : (Option Addr × Nat × Nat)) (x1 : Int) (x2 : Int) (x7 : Option Addr) (x8 : Int) (w : World) : Prop :=
  vIf (decide (x8 < ((x0.2.1 : Nat) : Int)))
  (dr x0.1 fun b4 o5 =>
    gd (decide (0 ≤ x8)) <|
    gd (decide (x8 < ((x0.2.1 : Nat) : Int))) <|
    ldA 39 w b4 (o5 + (x8).toNat * 39) fun a6 =>
    Calls Tryz.prog 9 #[Value.pointer x7, ofL a6] w fun e8 w7 =>
    e8 = .returned (Value.tuple #[]) ∧ (
      jnC C3 ((x0.1, x0.2.1, x0.2.2), (x1), (x2), x7, ((IntKind.wrap .i64 (x8 + 1))), ()) w7))
  (vIf (x1 == x2)
    (Calls Tryz.prog 10 #[] w fun e10 w9 =>
      ∃ t11 : Bool, e10 = .returned (Value.bool t11) ∧ (
        Q (Value.bool t11) w9))
    (Calls Tryz.prog 11 #[Value.pointer x7] w fun e13 w12 =>
      ∃ a14 : List Value, e13 = .returned (ofL a14) ∧ (
        nw w12 Z30 30 fun b15 w16 =>
        gd (a14.length == 7) <|
        st w16 b15 0 a14 fun w17 =>
        Calls Tryz.prog 12 #[Value.pointer x7, Value.int .i64 x1] w17 fun e19 w18 =>
        ∃ (A20 : Option Addr) (n21 c22 : Nat), e19 = .returned (Value.slice A20 n21 c22) ∧ (
          jnC (F3.l11 Q) ((x1), (x2), x7, (b15, 0), (A20, n21, c22), (0), ()) w18))))
def F3.b3 (Q : Value → World → Prop) : ((Option Addr × Nat × Nat) × Int × Int × Option Addr × Int × Unit) → World → (((Option Addr × Nat × Nat) × Int × Int × Option Addr × Int × Unit) → World → Prop) → Prop := fun s w C3 => ∀ _ : Nat → Value, F3.b3c Q C3 s.1 s.2.1 s.2.2.1 s.2.2.2.1 s.2.2.2.2.1 w
def F3.l3 (Q : Value → World → Prop) : ((Option Addr × Nat × Nat) × Int × Int × Option Addr × Int × Unit) → World → Prop := fun s w => ∃ n, loopC (F3.b3 Q) n s w
def F3.vc (x0A : Option Addr) (x0n x0c : Nat) (x1 : Int) (x2 : Int) (w : World) (Q : Value → World → Prop) : Prop :=
  Calls Tryz.prog 8 #[ofL ([Value.int .i64 0] ++ ([Value.int .i64 0] ++ ([Value.int .i64 0] ++ ([Value.int .u64 0] ++ ([Value.slice none 0 0] ++ ([Value.slice none 0 0] ++ ([Value.slice none 0 0] ++ [])))))))] w fun e2 w1 =>
  ∃ p3 : Option Addr, e2 = .returned (Value.pointer p3) ∧ (
    jnC (F3.l3 Q) ((x0A, x0n, x0c), (x1), (x2), p3, (0), ()) w1)
def F3.an : Ann := ⟨[(3, [(0, .kSl), (1, .kI .i64), (2, .kI .i64), (7, .kP), (8, .kI .i64)]), (11, [(1, .kI .i64), (2, .kI .i64), (7, .kP), (9, .kL), (10, .kSl), (11, .kI .i64)])], []⟩
theorem F3.of (x0A : Option Addr) (x0n x0c : Nat) (x1 : Int) (x2 : Int) (w : World) {Q : Value → World → Prop} (h : F3.vc x0A x0n x0c x1 x2 w Q) : Calls Tryz.prog 3 #[Value.slice x0A x0n x0c, Value.int .i64 x1, Value.int .i64 x2] w (fun e w' => ∃ v, e = .returned v ∧ Q v w') := vcFn_of (A := F3.an) noCount mixed h (by kernel_rfl)
/-! ### function 8: stillage/state.New -/
def F8.b3c (Q : Value → World → Prop) (C3 : ((Nat × Nat) × (Option Addr × Nat × Nat) × Int × Int × Unit) → World → Prop) (x3 : (Nat × Nat)) (x16 : (Option Addr × Nat × Nat)) (x17 : Int) (x18 : Int) (w : World) : Prop :=
  vIf (decide (x18 < x17))
  (dr x16.1 fun b20 o21 =>
    gd (decide (0 ≤ x18)) <|
    gd (decide (x18 < ((x16.2.1 : Nat) : Int))) <|
    ldA 3 w b20 (o21 + (x18).toNat * 3) fun a22 =>
    nw w [Value.int .i64 0, Value.int .i64 0, Value.int .i64 0] 98 fun b23 w24 =>
    gd (a22.length == 3) <|
    st w24 b23 0 a22 fun w25 =>
    ldI .i64 w25 b23 0 fun i26 =>
    ldI .i64 w25 b23 (0 + 1) fun i27 =>
    Calls Tryz.prog 42 #[Value.pointer (some ⟨x3.1, x3.2, none⟩), Value.int .i64 i26, Value.int .i64 i27] w25 fun e29 w28 =>
    e29 = .returned (Value.tuple #[]) ∧ (
      jnC C3 ((x3.1, x3.2), (x16.1, x16.2.1, x16.2.2), (x17), ((IntKind.wrap .i64 (x18 + 1))), ()) w28))
  (Q (Value.pointer (some ⟨x3.1, x3.2, none⟩)) w)
def F8.b3 (Q : Value → World → Prop) : ((Nat × Nat) × (Option Addr × Nat × Nat) × Int × Int × Unit) → World → (((Nat × Nat) × (Option Addr × Nat × Nat) × Int × Int × Unit) → World → Prop) → Prop := fun s w C3 => ∀ _ : Nat → Value, F8.b3c Q C3 s.1 s.2.1 s.2.2.1 s.2.2.2.1 w
def F8.l3 (Q : Value → World → Prop) : ((Nat × Nat) × (Option Addr × Nat × Nat) × Int × Int × Unit) → World → Prop := fun s w => ∃ n, loopC (F8.b3 Q) n s w
def F8.vc (x0 : List Value) (w : World) (Q : Value → World → Prop) : Prop :=
  nw w x0 30 fun b1 w2 =>
  ldSl w2.drew b1 (0 + 4) fun A3 n4 c5 =>
  ldSl w2.drew b1 (0 + 5) fun A6 n7 c8 =>
  Calls Tryz.prog 40 #[Value.slice A3 n4 c5] w2.drew fun e10 w9 =>
  ∃ p11 : Option Addr, e10 = .returned (Value.pointer p11) ∧ (
    kp w2.drew b1 (0 + 5) 1 w9 <|
    Calls Tryz.prog 41 #[Value.slice A6 n7 c8] w9 fun e13 w12 =>
    ∃ p14 : Option Addr, e13 = .returned (Value.pointer p14) ∧ (
      gd (([Value.pointer p11] ++ ([Value.slice none 0 0] ++ [])).length == 2) <|
      nw w12 (([Value.pointer p11] ++ ([Value.slice none 0 0] ++ [])) ++ ([Value.pointer p14] ++ [])) 96 fun b15 w16 =>
      ldSl w16 b1 (0 + 6) fun A17 n18 c19 =>
      jnC (F8.l3 Q) ((b15, 0), (A17, n18, c19), (((n18 : Nat) : Int)), (0), ()) w16))
def F8.an : Ann := ⟨[(3, [(3, .kL), (16, .kSl), (17, .kI .i64), (18, .kI .i64)])], []⟩
theorem F8.of (x0 : List Value) (w : World) {Q : Value → World → Prop} (h : F8.vc x0 w Q) : Calls Tryz.prog 8 #[ofL x0] w (fun e w' => ∃ v, e = .returned v ∧ Q v w') := vcFn_of (A := F8.an) noCount mixed h (by kernel_rfl)
/-! ### function 9: (*stillage/state.State).Apply -/
def F9.k9c (Q : Value → World → Prop) (x0 : Option Addr) (x3 : (Nat × Nat)) (x6 : Int) (w : World) : Prop :=
  ldI .i64 w x3.1 (x3.2 + 36) fun i30 =>
  ldI .i64 w x3.1 ((x3.2 + 36) + 2) fun i31 =>
  Calls Tryz.prog 42 #[Value.pointer x0, Value.int .i64 i30, Value.int .i64 (IntKind.wrap .i64 (x6 + i31))] w fun e33 w32 =>
  e33 = .returned (Value.tuple #[]) ∧ (
    Q (Value.tuple #[]) w32)
def F9.k9 (Q : Value → World → Prop) : (Option Addr × (Nat × Nat) × Int × Unit) → World → Prop := fun s w => ∀ _ : Nat → Value, F9.k9c Q s.1 s.2.1 s.2.2.1 w
def F9.k5c (Q : Value → World → Prop) (x0 : Option Addr) (x3 : (Nat × Nat)) (x29 : Bool) (w : World) : Prop :=
  vIf x29
  (ldI .i64 w x3.1 (x3.2 + 36) fun i17 =>
    Calls Tryz.prog 45 #[Value.pointer x0, Value.int .i64 i17] w fun e19 w18 =>
    ∃ i20 : Int, ∃ t21 : Bool, e19 = .returned (Value.tuple #[Value.int .i64 i20, Value.bool t21]) ∧ (
      vIf t21
      (dr x0 fun b22 o23 =>
        ldSl w18 b22 (o23 + 1) fun A24 n25 c26 =>
        dr A24 fun b27 o28 =>
        gd (decide (0 ≤ i20)) <|
        gd (decide (i20 < ((n25 : Nat) : Int))) <|
        ldI .i64 w18 b27 ((o28 + (i20).toNat * 3) + 1) fun i29 =>
        jnC (F9.k9 Q) (x0, (x3.1, x3.2), (i29), ()) w18)
      (jnC (F9.k9 Q) (x0, (x3.1, x3.2), (0), ()) w18)))
  (Q (Value.tuple #[]) w)
def F9.k5 (Q : Value → World → Prop) : (Option Addr × (Nat × Nat) × Bool × Unit) → World → Prop := fun s w => ∀ _ : Nat → Value, F9.k5c Q s.1 s.2.1 s.2.2.1 w
def F9.vc (x0 : Option Addr) (x1 : List Value) (w : World) (Q : Value → World → Prop) : Prop :=
  nw w x1 37 fun b1 w2 =>
  vIf x0.isNone
  (Q (Value.tuple #[]) w2)
  (dr x0 fun b3 o4 =>
    ldP w2.drew b3 o4 fun p5 =>
    ldA 39 w2.drew b1 0 fun a6 =>
    Calls Tryz.prog 43 #[Value.pointer p5, ofL a6] w2.drew fun e8 w7 =>
    e8 = .returned (Value.tuple #[]) ∧ (
      dr x0 fun b9 o10 =>
      ldP w7.drew b9 (o10 + 2) fun p11 =>
      ldA 39 w7.drew b1 0 fun a12 =>
      Calls Tryz.prog 44 #[Value.pointer p11, ofL a12] w7.drew fun e14 w13 =>
      e14 = .returned (Value.tuple #[]) ∧ (
        ldI .i64 w13 b1 0 fun i15 =>
        vIf (decide (i15 ≥ 1))
        (ldI .i64 w13 b1 0 fun i16 =>
          jnC (F9.k5 Q) (x0, (b1, 0), (decide (i16 ≤ 5)), ()) w13)
        (jnC (F9.k5 Q) (x0, (b1, 0), false, ()) w13))))
def F9.an : Ann := ⟨[], [(5, [(0, .kP), (3, .kL), (29, .kB)]), (9, [(0, .kP), (3, .kL), (6, .kI .i64)])]⟩
theorem F9.of (x0 : Option Addr) (x1 : List Value) (w : World) {Q : Value → World → Prop} (h : F9.vc x0 x1 w Q) : Calls Tryz.prog 9 #[Value.pointer x0, ofL x1] w (fun e w' => ∃ v, e = .returned v ∧ Q v w') := vcFn_of (A := F9.an) noCount mixed h (by kernel_rfl)
/-! ### function 10: stillage/stillagelaw22.lives -/
def F10.vc  (w : World) (Q : Value → World → Prop) : Prop :=
  Calls Tryz.prog 8 #[ofL ([Value.int .i64 0] ++ ([Value.int .i64 0] ++ ([Value.int .i64 0] ++ ([Value.int .u64 0] ++ ([Value.slice none 0 0] ++ ([Value.slice none 0 0] ++ ([Value.slice none 0 0] ++ [])))))))] w fun e2 w1 =>
  ∃ p3 : Option Addr, e2 = .returned (Value.pointer p3) ∧ (
    gd (([Value.int .u8 1] ++ ([Value.int .u8 0] ++ ([Value.int .u8 0] ++ ([Value.int .u8 0] ++ ([Value.int .u8 0] ++ ([Value.int .u8 0] ++ ([Value.int .u8 0] ++ ([Value.int .u8 0] ++ ([Value.int .u8 0] ++ ([Value.int .u8 0] ++ ([Value.int .u8 0] ++ ([Value.int .u8 0] ++ ([Value.int .u8 0] ++ ([Value.int .u8 0] ++ ([Value.int .u8 0] ++ ([Value.int .u8 0] ++ ([Value.int .u8 0] ++ ([Value.int .u8 0] ++ ([Value.int .u8 0] ++ ([Value.int .u8 0] ++ ([Value.int .u8 0] ++ ([Value.int .u8 0] ++ ([Value.int .u8 0] ++ ([Value.int .u8 0] ++ ([Value.int .u8 0] ++ ([Value.int .u8 0] ++ ([Value.int .u8 0] ++ ([Value.int .u8 0] ++ ([Value.int .u8 0] ++ ([Value.int .u8 0] ++ ([Value.int .u8 0] ++ ([Value.int .u8 0] ++ [])))))))))))))))))))))))))))))))).length == 32) <|
    gd (([Value.int .i64 1] ++ ([Value.int .i64 37] ++ ([Value.int .i64 62] ++ []))).length == 3) <|
    Calls Tryz.prog 9 #[Value.pointer p3, ofL ([Value.int .i64 1] ++ ([Value.int .u64 0] ++ (([Value.int .u8 1] ++ ([Value.int .u8 0] ++ ([Value.int .u8 0] ++ ([Value.int .u8 0] ++ ([Value.int .u8 0] ++ ([Value.int .u8 0] ++ ([Value.int .u8 0] ++ ([Value.int .u8 0] ++ ([Value.int .u8 0] ++ ([Value.int .u8 0] ++ ([Value.int .u8 0] ++ ([Value.int .u8 0] ++ ([Value.int .u8 0] ++ ([Value.int .u8 0] ++ ([Value.int .u8 0] ++ ([Value.int .u8 0] ++ ([Value.int .u8 0] ++ ([Value.int .u8 0] ++ ([Value.int .u8 0] ++ ([Value.int .u8 0] ++ ([Value.int .u8 0] ++ ([Value.int .u8 0] ++ ([Value.int .u8 0] ++ ([Value.int .u8 0] ++ ([Value.int .u8 0] ++ ([Value.int .u8 0] ++ ([Value.int .u8 0] ++ ([Value.int .u8 0] ++ ([Value.int .u8 0] ++ ([Value.int .u8 0] ++ ([Value.int .u8 0] ++ ([Value.int .u8 0] ++ [])))))))))))))))))))))))))))))))) ++ ([Value.string (⟨#[]⟩ : ByteArray)] ++ ([Value.int .i64 9] ++ (([Value.int .i64 1] ++ ([Value.int .i64 37] ++ ([Value.int .i64 62] ++ []))) ++ []))))))] w1 fun e5 w4 =>
    e5 = .returned (Value.tuple #[]) ∧ (
      gd (([Value.int .u8 1] ++ ([Value.int .u8 0] ++ ([Value.int .u8 0] ++ ([Value.int .u8 0] ++ ([Value.int .u8 0] ++ ([Value.int .u8 0] ++ ([Value.int .u8 0] ++ ([Value.int .u8 0] ++ ([Value.int .u8 0] ++ ([Value.int .u8 0] ++ ([Value.int .u8 0] ++ ([Value.int .u8 0] ++ ([Value.int .u8 0] ++ ([Value.int .u8 0] ++ ([Value.int .u8 0] ++ ([Value.int .u8 0] ++ ([Value.int .u8 0] ++ ([Value.int .u8 0] ++ ([Value.int .u8 0] ++ ([Value.int .u8 0] ++ ([Value.int .u8 0] ++ ([Value.int .u8 0] ++ ([Value.int .u8 0] ++ ([Value.int .u8 0] ++ ([Value.int .u8 0] ++ ([Value.int .u8 0] ++ ([Value.int .u8 0] ++ ([Value.int .u8 0] ++ ([Value.int .u8 0] ++ ([Value.int .u8 0] ++ ([Value.int .u8 0] ++ ([Value.int .u8 0] ++ [])))))))))))))))))))))))))))))))).length == 32) <|
      gd (([Value.int .i64 2] ++ ([Value.int .i64 37] ++ ([Value.int .i64 53] ++ []))).length == 3) <|
      Calls Tryz.prog 9 #[Value.pointer p3, ofL ([Value.int .i64 5] ++ ([Value.int .u64 0] ++ (([Value.int .u8 1] ++ ([Value.int .u8 0] ++ ([Value.int .u8 0] ++ ([Value.int .u8 0] ++ ([Value.int .u8 0] ++ ([Value.int .u8 0] ++ ([Value.int .u8 0] ++ ([Value.int .u8 0] ++ ([Value.int .u8 0] ++ ([Value.int .u8 0] ++ ([Value.int .u8 0] ++ ([Value.int .u8 0] ++ ([Value.int .u8 0] ++ ([Value.int .u8 0] ++ ([Value.int .u8 0] ++ ([Value.int .u8 0] ++ ([Value.int .u8 0] ++ ([Value.int .u8 0] ++ ([Value.int .u8 0] ++ ([Value.int .u8 0] ++ ([Value.int .u8 0] ++ ([Value.int .u8 0] ++ ([Value.int .u8 0] ++ ([Value.int .u8 0] ++ ([Value.int .u8 0] ++ ([Value.int .u8 0] ++ ([Value.int .u8 0] ++ ([Value.int .u8 0] ++ ([Value.int .u8 0] ++ ([Value.int .u8 0] ++ ([Value.int .u8 0] ++ ([Value.int .u8 0] ++ [])))))))))))))))))))))))))))))))) ++ ([Value.string (⟨#[]⟩ : ByteArray)] ++ ([Value.int .i64 0] ++ (([Value.int .i64 2] ++ ([Value.int .i64 37] ++ ([Value.int .i64 53] ++ []))) ++ []))))))] w4 fun e7 w6 =>
      e7 = .returned (Value.tuple #[]) ∧ (
        Calls Tryz.prog 36 #[Value.pointer p3] w6 fun e9 w8 =>
        ∃ (A10 : Option Addr) (n11 c12 : Nat), e9 = .returned (Value.slice A10 n11 c12) ∧ (
          Calls Tryz.prog 12 #[Value.pointer p3, Value.int .i64 1] w8 fun e14 w13 =>
          ∃ (A15 : Option Addr) (n16 c17 : Nat), e14 = .returned (Value.slice A15 n16 c17) ∧ (
            vIf (((n16 : Nat) : Int) == 0)
            (Calls Tryz.prog 12 #[Value.pointer p3, Value.int .i64 2] w13 fun e19 w18 =>
              ∃ (A20 : Option Addr) (n21 c22 : Nat), e19 = .returned (Value.slice A20 n21 c22) ∧ (
                vIf (((n21 : Nat) : Int) == 1)
                (vIf (((n11 : Nat) : Int) == 2)
                  (dr A10 fun b23 o24 =>
                    gd (decide ((0 : Int) < ((n11 : Nat) : Int))) <|
                    ldA 3 w18 b23 o24 fun a25 =>
                    eqI64 3 a25 ([Value.int .i64 1] ++ ([Value.int .i64 62] ++ ([Value.int .i64 0] ++ []))) fun t26 =>
                    vIf t26
                    (dr A10 fun b27 o28 =>
                      gd (decide ((1 : Int) < ((n11 : Nat) : Int))) <|
                      ldA 3 w18 b27 (o28 + 3) fun a29 =>
                      eqI64 3 a29 ([Value.int .i64 2] ++ ([Value.int .i64 53] ++ ([Value.int .i64 53] ++ []))) fun t30 =>
                      Q (Value.bool t30) w18)
                    (Q (Value.bool false) w18))
                  (Q (Value.bool false) w18))
                (Q (Value.bool false) w18)))
            (Q (Value.bool false) w13))))))
def F10.an : Ann := ⟨[], []⟩
theorem F10.of  (w : World) {Q : Value → World → Prop} (h : F10.vc  w Q) : Calls Tryz.prog 10 #[] w (fun e w' => ∃ v, e = .returned v ∧ Q v w') := vcFn_of (A := F10.an) noCount mixed h (by kernel_rfl)
/-! ### function 11: (*stillage/state.State).Snapshot -/
def F11.vc (x0 : Option Addr) (w : World) (Q : Value → World → Prop) : Prop :=
  nw w Z30 30 fun b1 w2 =>
  vIf x0.isNone
  (gd (([Value.int .i64 0] ++ ([Value.int .i64 0] ++ ([Value.int .i64 0] ++ ([Value.int .u64 0] ++ ([Value.slice none 0 0] ++ ([Value.slice none 0 0] ++ ([Value.slice none 0 0] ++ []))))))).length == 7) <|
    st w2 b1 0 ([Value.int .i64 0] ++ ([Value.int .i64 0] ++ ([Value.int .i64 0] ++ ([Value.int .u64 0] ++ ([Value.slice none 0 0] ++ ([Value.slice none 0 0] ++ ([Value.slice none 0 0] ++ []))))))) fun w3 =>
    ldA 7 w3 b1 0 fun a4 =>
    Q (ofL a4) w3)
  (dr x0 fun b5 o6 =>
    ldP w2.drew b5 o6 fun p7 =>
    dr x0 fun b8 o9 =>
    ldP w2.drew b8 (o9 + 2) fun p10 =>
    Calls Tryz.prog 46 #[Value.pointer p7] w2.drew fun e12 w11 =>
    ∃ (A13 : Option Addr) (n14 c15 : Nat), e12 = .returned (Value.slice A13 n14 c15) ∧ (
      kp w2.drew b8 (o9 + 2) 1 w11 <|
      Calls Tryz.prog 47 #[Value.pointer p10] w11 fun e17 w16 =>
      ∃ (A18 : Option Addr) (n19 c20 : Nat), e17 = .returned (Value.slice A18 n19 c20) ∧ (
        Calls Tryz.prog 36 #[Value.pointer x0] w16 fun e22 w21 =>
        ∃ (A23 : Option Addr) (n24 c25 : Nat), e22 = .returned (Value.slice A23 n24 c25) ∧ (
          gd (([Value.int .i64 0] ++ ([Value.int .i64 0] ++ ([Value.int .i64 0] ++ ([Value.int .u64 0] ++ ([Value.slice A13 n14 c15] ++ ([Value.slice A18 n19 c20] ++ ([Value.slice A23 n24 c25] ++ []))))))).length == 7) <|
          st w21 b1 0 ([Value.int .i64 0] ++ ([Value.int .i64 0] ++ ([Value.int .i64 0] ++ ([Value.int .u64 0] ++ ([Value.slice A13 n14 c15] ++ ([Value.slice A18 n19 c20] ++ ([Value.slice A23 n24 c25] ++ []))))))) fun w26 =>
          ldA 7 w26 b1 0 fun a27 =>
          Q (ofL a27) w26))))
def F11.an : Ann := ⟨[], []⟩
theorem F11.of (x0 : Option Addr) (w : World) {Q : Value → World → Prop} (h : F11.vc x0 w Q) : Calls Tryz.prog 11 #[Value.pointer x0] w (fun e w' => ∃ v, e = .returned v ∧ Q v w') := vcFn_of (A := F11.an) noCount mixed h (by kernel_rfl)
/-! ### function 12: (*stillage/state.State).Here -/
def F12.k8c (Q : Value → World → Prop) (C5 : (Option Addr × Int × (Option Addr × Nat × Nat) × (Option Addr × Nat × Nat) × Int × Int × Unit) → World → Prop) (x0 : Option Addr) (x1 : Int) (x5 : (Option Addr × Nat × Nat)) (x7 : (Nat × Nat)) (x17 : (Option Addr × Nat × Nat)) (x18 : Int) (x19 : Int) (x31 : Bool) (w : World) : Prop :=
  vIf x31
  (ldI .i64 w x7.1 (x7.2 + 32) fun i20 =>
    ldA 32 w x7.1 x7.2 fun a21 =>
    ldI .i64 w x7.1 (x7.2 + 33) fun i22 =>
    ldA 3 w x7.1 (x7.2 + 34) fun a23 =>
    gd (a21.length == 32) <|
    gd (a23.length == 3) <|
    gd (([Value.int .i64 i20] ++ ([Value.int .u64 0] ++ (a21 ++ ([Value.string (⟨#[]⟩ : ByteArray)] ++ ([Value.int .i64 i22] ++ (a23 ++ [])))))).length == 39) <|
    nw w (([Value.int .i64 i20] ++ ([Value.int .u64 0] ++ (a21 ++ ([Value.string (⟨#[]⟩ : ByteArray)] ++ ([Value.int .i64 i22] ++ (a23 ++ [])))))) ++ []) 37 fun b24 w25 =>
    app w25 39 96 Z37 37 x5.1 x5.2.1 x5.2.2 (Value.slice (some ⟨b24, 0, none⟩) 1 1) fun A26 n27 c28 w29 =>
    jnC C5 (x0, (x1), (A26, n27, c28), (x17.1, x17.2.1, x17.2.2), (x18), ((IntKind.wrap .i64 (x19 + 1))), ()) w29)
  (jnC C5 (x0, (x1), (x5.1, x5.2.1, x5.2.2), (x17.1, x17.2.1, x17.2.2), (x18), ((IntKind.wrap .i64 (x19 + 1))), ()) w)
def F12.k8 (Q : Value → World → Prop) (C5 : (Option Addr × Int × (Option Addr × Nat × Nat) × (Option Addr × Nat × Nat) × Int × Int × Unit) → World → Prop) : (Option Addr × Int × (Option Addr × Nat × Nat) × (Nat × Nat) × (Option Addr × Nat × Nat) × Int × Int × Bool × Unit) → World → Prop := fun s w => ∀ _ : Nat → Value, F12.k8c Q C5 s.1 s.2.1 s.2.2.1 s.2.2.2.1 s.2.2.2.2.1 s.2.2.2.2.2.1 s.2.2.2.2.2.2.1 s.2.2.2.2.2.2.2.1 w
def F12.k14c (Q : Value → World → Prop) (C11 : (Int × (Option Addr × Nat × Nat) × (Option Addr × Nat × Nat) × Int × Int × Unit) → World → Prop) (x1 : Int) (x5 : (Option Addr × Nat × Nat)) (x9 : (Nat × Nat)) (x49 : (Option Addr × Nat × Nat)) (x50 : Int) (x51 : Int) (x63 : Bool) (w : World) : Prop :=
  vIf x63
  (ldA 38 w x9.1 x9.2 fun a49 =>
    Calls Tryz.prog 50 #[ofL a49] w fun e51 w50 =>
    ∃ a52 : List Value, e51 = .returned (ofL a52) ∧ (
      gd (a52.length == 39) <|
      nw w50 (a52 ++ []) 37 fun b53 w54 =>
      app w54 39 96 Z37 37 x5.1 x5.2.1 x5.2.2 (Value.slice (some ⟨b53, 0, none⟩) 1 1) fun A55 n56 c57 w58 =>
      jnC C11 ((x1), (A55, n56, c57), (x49.1, x49.2.1, x49.2.2), (x50), ((IntKind.wrap .i64 (x51 + 1))), ()) w58))
  (jnC C11 ((x1), (x5.1, x5.2.1, x5.2.2), (x49.1, x49.2.1, x49.2.2), (x50), ((IntKind.wrap .i64 (x51 + 1))), ()) w)
def F12.k14 (Q : Value → World → Prop) (C11 : (Int × (Option Addr × Nat × Nat) × (Option Addr × Nat × Nat) × Int × Int × Unit) → World → Prop) : (Int × (Option Addr × Nat × Nat) × (Nat × Nat) × (Option Addr × Nat × Nat) × Int × Int × Bool × Unit) → World → Prop := fun s w => ∀ _ : Nat → Value, F12.k14c Q C11 s.1 s.2.1 s.2.2.1 s.2.2.2.1 s.2.2.2.2.1 s.2.2.2.2.2.1 s.2.2.2.2.2.2.1 w
def F12.b11c (Q : Value → World → Prop) (C11 : (Int × (Option Addr × Nat × Nat) × (Option Addr × Nat × Nat) × Int × Int × Unit) → World → Prop) (x1 : Int) (x5 : (Option Addr × Nat × Nat)) (x49 : (Option Addr × Nat × Nat)) (x50 : Int) (x51 : Int) (w : World) : Prop :=
  vIf (decide (x51 < x50))
  (dr x49.1 fun b38 o39 =>
    gd (decide (0 ≤ x51)) <|
    gd (decide (x51 < ((x49.2.1 : Nat) : Int))) <|
    ldA 38 w b38 (o39 + (x51).toNat * 38) fun a40 =>
    nw w Z53 53 fun b41 w42 =>
    gd (a40.length == 38) <|
    st w42 b41 0 a40 fun w43 =>
    ldI .i64 w43 b41 (0 + 34) fun i44 =>
    vIf (i44 == x1)
    (ldA 38 w43 b41 0 fun a45 =>
      Calls Tryz.prog 49 #[ofL a45] w43 fun e47 w46 =>
      ∃ t48 : Bool, e47 = .returned (Value.bool t48) ∧ (
        jnC (F12.k14 Q C11) ((x1), (x5.1, x5.2.1, x5.2.2), (b41, 0), (x49.1, x49.2.1, x49.2.2), (x50), (x51), t48, ()) w46))
    (jnC (F12.k14 Q C11) ((x1), (x5.1, x5.2.1, x5.2.2), (b41, 0), (x49.1, x49.2.1, x49.2.2), (x50), (x51), false, ()) w43))
  (Calls Tryz.prog 51 #[Value.slice x5.1 x5.2.1 x5.2.2, Value.func (.func 52) #[] #[]] w fun e60 w59 =>
    e60 = .returned (Value.tuple #[]) ∧ (
      Q (Value.slice x5.1 x5.2.1 x5.2.2) w59))
def F12.b11 (Q : Value → World → Prop) : (Int × (Option Addr × Nat × Nat) × (Option Addr × Nat × Nat) × Int × Int × Unit) → World → ((Int × (Option Addr × Nat × Nat) × (Option Addr × Nat × Nat) × Int × Int × Unit) → World → Prop) → Prop := fun s w C11 => ∀ _ : Nat → Value, F12.b11c Q C11 s.1 s.2.1 s.2.2.1 s.2.2.2.1 s.2.2.2.2.1 w
def F12.l11 (Q : Value → World → Prop) : (Int × (Option Addr × Nat × Nat) × (Option Addr × Nat × Nat) × Int × Int × Unit) → World → Prop := fun s w => ∃ n, loopC (F12.b11 Q) n s w
def F12.b5c (Q : Value → World → Prop) (C5 : (Option Addr × Int × (Option Addr × Nat × Nat) × (Option Addr × Nat × Nat) × Int × Int × Unit) → World → Prop) (x0 : Option Addr) (x1 : Int) (x5 : (Option Addr × Nat × Nat)) (x17 : (Option Addr × Nat × Nat)) (x18 : Int) (x19 : Int) (w : World) : Prop :=
  vIf (decide (x19 < x18))
  (dr x17.1 fun b9 o10 =>
    gd (decide (0 ≤ x19)) <|
    gd (decide (x19 < ((x17.2.1 : Nat) : Int))) <|
    ldA 38 w b9 (o10 + (x19).toNat * 38) fun a11 =>
    nw w Z48 48 fun b12 w13 =>
    gd (a11.length == 38) <|
    st w13 b12 0 a11 fun w14 =>
    ldI .i64 w14 b12 (0 + 34) fun i15 =>
    vIf (i15 == x1)
    (ldA 38 w14 b12 0 fun a16 =>
      Calls Tryz.prog 48 #[ofL a16] w14 fun e18 w17 =>
      ∃ t19 : Bool, e18 = .returned (Value.bool t19) ∧ (
        jnC (F12.k8 Q C5) (x0, (x1), (x5.1, x5.2.1, x5.2.2), (b12, 0), (x17.1, x17.2.1, x17.2.2), (x18), (x19), t19, ()) w17))
    (jnC (F12.k8 Q C5) (x0, (x1), (x5.1, x5.2.1, x5.2.2), (b12, 0), (x17.1, x17.2.1, x17.2.2), (x18), (x19), false, ()) w14))
  (dr x0 fun b30 o31 =>
    ldP w b30 (o31 + 2) fun p32 =>
    Calls Tryz.prog 47 #[Value.pointer p32] w fun e34 w33 =>
    ∃ (A35 : Option Addr) (n36 c37 : Nat), e34 = .returned (Value.slice A35 n36 c37) ∧ (
      jnC (F12.l11 Q) ((x1), (x5.1, x5.2.1, x5.2.2), (A35, n36, c37), (((n36 : Nat) : Int)), (0), ()) w33))
def F12.b5 (Q : Value → World → Prop) : (Option Addr × Int × (Option Addr × Nat × Nat) × (Option Addr × Nat × Nat) × Int × Int × Unit) → World → ((Option Addr × Int × (Option Addr × Nat × Nat) × (Option Addr × Nat × Nat) × Int × Int × Unit) → World → Prop) → Prop := fun s w C5 => ∀ _ : Nat → Value, F12.b5c Q C5 s.1 s.2.1 s.2.2.1 s.2.2.2.1 s.2.2.2.2.1 s.2.2.2.2.2.1 w
def F12.l5 (Q : Value → World → Prop) : (Option Addr × Int × (Option Addr × Nat × Nat) × (Option Addr × Nat × Nat) × Int × Int × Unit) → World → Prop := fun s w => ∃ n, loopC (F12.b5 Q) n s w
def F12.vc (x0 : Option Addr) (x1 : Int) (w : World) (Q : Value → World → Prop) : Prop :=
  vIf x0.isNone
  (Q (Value.slice none 0 0) w)
  (dr x0 fun b1 o2 =>
    ldP w b1 o2 fun p3 =>
    Calls Tryz.prog 46 #[Value.pointer p3] w fun e5 w4 =>
    ∃ (A6 : Option Addr) (n7 c8 : Nat), e5 = .returned (Value.slice A6 n7 c8) ∧ (
      jnC (F12.l5 Q) (x0, (x1), (none, 0, 0), (A6, n7, c8), (((n7 : Nat) : Int)), (0), ()) w4))
def F12.an : Ann := ⟨[(5, [(0, .kP), (1, .kI .i64), (5, .kSl), (17, .kSl), (18, .kI .i64), (19, .kI .i64)]), (11, [(1, .kI .i64), (5, .kSl), (49, .kSl), (50, .kI .i64), (51, .kI .i64)])], [(8, [(0, .kP), (1, .kI .i64), (5, .kSl), (7, .kL), (17, .kSl), (18, .kI .i64), (19, .kI .i64), (31, .kB)]), (14, [(1, .kI .i64), (5, .kSl), (9, .kL), (49, .kSl), (50, .kI .i64), (51, .kI .i64), (63, .kB)])]⟩
theorem F12.of (x0 : Option Addr) (x1 : Int) (w : World) {Q : Value → World → Prop} (h : F12.vc x0 x1 w Q) : Calls Tryz.prog 12 #[Value.pointer x0, Value.int .i64 x1] w (fun e w' => ∃ v, e = .returned v ∧ Q v w') := vcFn_of (A := F12.an) noCount mixed h (by kernel_rfl)
/-! ### function 13: stillage/stillageref22.There -/
def F13.vc (x0 : List Value) (x1 : List Value) (w : World) (Q : Value → World → Prop) : Prop :=
  nw w x0 30 fun b1 w2 =>
  nw w2 x1 30 fun b3 w4 =>
  ldA 7 w4 b1 0 fun a5 =>
  ldA 7 w4 b3 0 fun a6 =>
  Calls Tryz.prog 54 #[ofL a5, ofL a6] w4 fun e8 w7 =>
  ∃ t9 : Bool, e8 = .returned (Value.bool t9) ∧ (
    vIf t9
    (ldA 7 w7 b3 0 fun a10 =>
      ldA 7 w7 b1 0 fun a11 =>
      Calls Tryz.prog 54 #[ofL a10, ofL a11] w7 fun e13 w12 =>
      ∃ t14 : Bool, e13 = .returned (Value.bool t14) ∧ (
        Q (Value.bool t14) w12))
    (Q (Value.bool false) w7))
def F13.an : Ann := ⟨[], []⟩
theorem F13.of (x0 : List Value) (x1 : List Value) (w : World) {Q : Value → World → Prop} (h : F13.vc x0 x1 w Q) : Calls Tryz.prog 13 #[ofL x0, ofL x1] w (fun e w' => ∃ v, e = .returned v ∧ Q v w') := vcFn_of (A := F13.an) noCount mixed h (by kernel_rfl)
/-! ### function 16: stillage/stillageref20.Get -/
def F16.b2c (Q : Value → World → Prop) (C2 : ((Option Addr × Nat × Nat) × (Nat × Nat) × (Nat × Nat) × Int × Unit) → World → Prop) (x0 : (Option Addr × Nat × Nat)) (x3 : (Nat × Nat)) (x4 : (Nat × Nat)) (x6 : Int) (w : World) : Prop :=
  vIf (decide (x6 < ((x0.2.1 : Nat) : Int)))
  (dr x0.1 fun b5 o6 =>
    gd (decide (0 ≤ x6)) <|
    gd (decide (x6 < ((x0.2.1 : Nat) : Int))) <|
    ldA 32 w.drew b5 (o6 + (x6).toNat * 38) fun a7 =>
    ldA 32 w.drew x3.1 x3.2 fun a8 =>
    eqAB 32 a7 a8 fun t9 =>
    vIf t9
    (dr x0.1 fun b10 o11 =>
      gd (decide (0 ≤ x6)) <|
      gd (decide (x6 < ((x0.2.1 : Nat) : Int))) <|
      ldA 38 w.drew b10 (o11 + (x6).toNat * 38) fun a12 =>
      gd (a12.length == 38) <|
      st w.drew x4.1 x4.2 a12 fun w13 =>
      ldA 38 w13 x4.1 x4.2 fun a14 =>
      Q (Value.tuple #[ofL a14, Value.bool true]) w13)
    (jnC C2 ((x0.1, x0.2.1, x0.2.2), (x3.1, x3.2), (x4.1, x4.2), ((IntKind.wrap .i64 (x6 + 1))), ()) w.drew))
  (gd (([Value.int .u8 0, Value.int .u8 0, Value.int .u8 0, Value.int .u8 0, Value.int .u8 0, Value.int .u8 0, Value.int .u8 0, Value.int .u8 0, Value.int .u8 0, Value.int .u8 0, Value.int .u8 0, Value.int .u8 0, Value.int .u8 0, Value.int .u8 0, Value.int .u8 0, Value.int .u8 0, Value.int .u8 0, Value.int .u8 0, Value.int .u8 0, Value.int .u8 0, Value.int .u8 0, Value.int .u8 0, Value.int .u8 0, Value.int .u8 0, Value.int .u8 0, Value.int .u8 0, Value.int .u8 0, Value.int .u8 0, Value.int .u8 0, Value.int .u8 0, Value.int .u8 0, Value.int .u8 0] ++ ([Value.int .i64 0] ++ ([Value.int .i64 0] ++ ([Value.int .i64 0, Value.int .i64 0, Value.int .i64 0] ++ ([Value.slice none 0 0] ++ []))))).length == 38) <|
    st w x4.1 x4.2 ([Value.int .u8 0, Value.int .u8 0, Value.int .u8 0, Value.int .u8 0, Value.int .u8 0, Value.int .u8 0, Value.int .u8 0, Value.int .u8 0, Value.int .u8 0, Value.int .u8 0, Value.int .u8 0, Value.int .u8 0, Value.int .u8 0, Value.int .u8 0, Value.int .u8 0, Value.int .u8 0, Value.int .u8 0, Value.int .u8 0, Value.int .u8 0, Value.int .u8 0, Value.int .u8 0, Value.int .u8 0, Value.int .u8 0, Value.int .u8 0, Value.int .u8 0, Value.int .u8 0, Value.int .u8 0, Value.int .u8 0, Value.int .u8 0, Value.int .u8 0, Value.int .u8 0, Value.int .u8 0] ++ ([Value.int .i64 0] ++ ([Value.int .i64 0] ++ ([Value.int .i64 0, Value.int .i64 0, Value.int .i64 0] ++ ([Value.slice none 0 0] ++ []))))) fun w15 =>
    ldA 38 w15 x4.1 x4.2 fun a16 =>
    Q (Value.tuple #[ofL a16, Value.bool false]) w15)
def F16.b2 (Q : Value → World → Prop) : ((Option Addr × Nat × Nat) × (Nat × Nat) × (Nat × Nat) × Int × Unit) → World → (((Option Addr × Nat × Nat) × (Nat × Nat) × (Nat × Nat) × Int × Unit) → World → Prop) → Prop := fun s w C2 => ∀ _ : Nat → Value, F16.b2c Q C2 s.1 s.2.1 s.2.2.1 s.2.2.2.1 w
def F16.l2 (Q : Value → World → Prop) : ((Option Addr × Nat × Nat) × (Nat × Nat) × (Nat × Nat) × Int × Unit) → World → Prop := fun s w => ∃ n, loopC (F16.b2 Q) n s w
def F16.vc (x0A : Option Addr) (x0n x0c : Nat) (x1 : List Value) (w : World) (Q : Value → World → Prop) : Prop :=
  nw w x1 33 fun b1 w2 =>
  nw w2 Z48 48 fun b3 w4 =>
  jnC (F16.l2 Q) ((x0A, x0n, x0c), (b1, 0), (b3, 0), (0), ()) w4
def F16.an : Ann := ⟨[(2, [(0, .kSl), (3, .kL), (4, .kL), (6, .kI .i64)])], []⟩
theorem F16.of (x0A : Option Addr) (x0n x0c : Nat) (x1 : List Value) (w : World) {Q : Value → World → Prop} (h : F16.vc x0A x0n x0c x1 w Q) : Calls Tryz.prog 16 #[Value.slice x0A x0n x0c, ofL x1] w (fun e w' => ∃ v, e = .returned v ∧ Q v w') := vcFn_of (A := F16.an) noCount mixed h (by kernel_rfl)
end Go.Proofs.YthcclmlbkfadcaaGreat
/- PRINTED BY MY OWN gen.py out of the translation: each function as a proposition. -/
namespace Go.Proofs.YthcclmlbkfadcaaGreat
open Go.GV
set_option linter.unusedVariables false
set_option maxRecDepth 100000
/-! ### function 18: stillage/stillageref21.Get -/
def F18.b2c (Q : Value → World → Prop) (C2 : ((Option Addr × Nat × Nat) × ByteArray × (Nat × Nat) × Int × Unit) → World → Prop) (x0 : (Option Addr × Nat × Nat)) (x1 : ByteArray) (x4 : (Nat × Nat)) (x6 : Int) (w : World) : Prop :=
  vIf (decide (x6 < ((x0.2.1 : Nat) : Int)))
  (dr x0.1 fun b3 o4 =>
    gd (decide (0 ≤ x6)) <|
    gd (decide (x6 < ((x0.2.1 : Nat) : Int))) <|
    ldS w b3 (o4 + (x6).toNat * 38) fun s5 =>
    vIf (s5.toList == x1.toList)
    (dr x0.1 fun b6 o7 =>
      gd (decide (0 ≤ x6)) <|
      gd (decide (x6 < ((x0.2.1 : Nat) : Int))) <|
      ldA 38 w b6 (o7 + (x6).toNat * 38) fun a8 =>
      gd (a8.length == 38) <|
      st w x4.1 x4.2 a8 fun w9 =>
      ldA 38 w9 x4.1 x4.2 fun a10 =>
      Q (Value.tuple #[ofL a10, Value.bool true]) w9)
    (jnC C2 ((x0.1, x0.2.1, x0.2.2), x1, (x4.1, x4.2), ((IntKind.wrap .i64 (x6 + 1))), ()) w))
  (gd (([Value.string (⟨#[]⟩ : ByteArray)] ++ ([Value.int .u8 0, Value.int .u8 0, Value.int .u8 0, Value.int .u8 0, Value.int .u8 0, Value.int .u8 0, Value.int .u8 0, Value.int .u8 0, Value.int .u8 0, Value.int .u8 0, Value.int .u8 0, Value.int .u8 0, Value.int .u8 0, Value.int .u8 0, Value.int .u8 0, Value.int .u8 0, Value.int .u8 0, Value.int .u8 0, Value.int .u8 0, Value.int .u8 0, Value.int .u8 0, Value.int .u8 0, Value.int .u8 0, Value.int .u8 0, Value.int .u8 0, Value.int .u8 0, Value.int .u8 0, Value.int .u8 0, Value.int .u8 0, Value.int .u8 0, Value.int .u8 0, Value.int .u8 0] ++ ([Value.bool false] ++ ([Value.int .i64 0, Value.int .i64 0, Value.int .i64 0] ++ ([Value.slice none 0 0] ++ []))))).length == 38) <|
    st w x4.1 x4.2 ([Value.string (⟨#[]⟩ : ByteArray)] ++ ([Value.int .u8 0, Value.int .u8 0, Value.int .u8 0, Value.int .u8 0, Value.int .u8 0, Value.int .u8 0, Value.int .u8 0, Value.int .u8 0, Value.int .u8 0, Value.int .u8 0, Value.int .u8 0, Value.int .u8 0, Value.int .u8 0, Value.int .u8 0, Value.int .u8 0, Value.int .u8 0, Value.int .u8 0, Value.int .u8 0, Value.int .u8 0, Value.int .u8 0, Value.int .u8 0, Value.int .u8 0, Value.int .u8 0, Value.int .u8 0, Value.int .u8 0, Value.int .u8 0, Value.int .u8 0, Value.int .u8 0, Value.int .u8 0, Value.int .u8 0, Value.int .u8 0, Value.int .u8 0] ++ ([Value.bool false] ++ ([Value.int .i64 0, Value.int .i64 0, Value.int .i64 0] ++ ([Value.slice none 0 0] ++ []))))) fun w11 =>
    ldA 38 w11 x4.1 x4.2 fun a12 =>
    Q (Value.tuple #[ofL a12, Value.bool false]) w11)
def F18.b2 (Q : Value → World → Prop) : ((Option Addr × Nat × Nat) × ByteArray × (Nat × Nat) × Int × Unit) → World → (((Option Addr × Nat × Nat) × ByteArray × (Nat × Nat) × Int × Unit) → World → Prop) → Prop := fun s w C2 => ∀ _ : Nat → Value, F18.b2c Q C2 s.1 s.2.1 s.2.2.1 s.2.2.2.1 w
def F18.l2 (Q : Value → World → Prop) : ((Option Addr × Nat × Nat) × ByteArray × (Nat × Nat) × Int × Unit) → World → Prop := fun s w => ∃ n, loopC (F18.b2 Q) n s w
def F18.vc (x0A : Option Addr) (x0n x0c : Nat) (x1 : ByteArray) (w : World) (Q : Value → World → Prop) : Prop :=
  nw w Z53 53 fun b1 w2 =>
  jnC (F18.l2 Q) ((x0A, x0n, x0c), x1, (b1, 0), (0), ()) w2
def F18.an : Ann := ⟨[(2, [(0, .kSl), (1, .kS), (4, .kL), (6, .kI .i64)])], []⟩
theorem F18.of (x0A : Option Addr) (x0n x0c : Nat) (x1 : ByteArray) (w : World) {Q : Value → World → Prop} (h : F18.vc x0A x0n x0c x1 w Q) : Calls Tryz.prog 18 #[Value.slice x0A x0n x0c, Value.string x1] w (fun e w' => ∃ v, e = .returned v ∧ Q v w') := vcFn_of (A := F18.an) noCount mixed h (by kernel_rfl)
/-! ### function 36: (*stillage/state.State).Loads -/
def F36.b8c (Q : Value → World → Prop) (C5 : (Option Addr × (Option Addr × Nat × Nat) × Int × Int × Unit) → World → Prop) (C8 : (Option Addr × (Option Addr × Nat × Nat) × Int × Int × Int × (Option Addr × Nat × Nat) × Int × Int × Unit) → World → Prop) (x0 : Option Addr) (x3 : (Option Addr × Nat × Nat)) (x4 : Int) (x16 : Int) (x17 : Int) (x26 : (Option Addr × Nat × Nat)) (x27 : Int) (x28 : Int) (w : World) : Prop :=
  vIf (decide (x28 < x27))
  (dr x26.1 fun b19 o20 =>
    gd (decide (0 ≤ x28)) <|
    gd (decide (x28 < ((x26.2.1 : Nat) : Int))) <|
    ldA 39 w b19 (o20 + (x28).toNat * 39) fun a21 =>
    nw w Z37 37 fun b22 w23 =>
    gd (a21.length == 39) <|
    st w23 b22 0 a21 fun w24 =>
    dr x3.1 fun b25 o26 =>
    gd (decide (0 ≤ x4)) <|
    gd (decide (x4 < ((x3.2.1 : Nat) : Int))) <|
    ldI .i64 w24.drew b25 ((o26 + (x4).toNat * 3) + 2) fun i27 =>
    ldI .i64 w24.drew b22 ((0 + 36) + 2) fun i28 =>
    dr x3.1 fun b29 o30 =>
    gd (decide (0 ≤ x4)) <|
    gd (decide (x4 < ((x3.2.1 : Nat) : Int))) <|
    st w24.drew b29 ((o30 + (x4).toNat * 3) + 2) [Value.int .i64 (IntKind.wrap .i64 (i27 + i28))] fun w31 =>
    jnC C8 (x0, (x3.1, x3.2.1, x3.2.2), (x4), (x16), (x17), (x26.1, x26.2.1, x26.2.2), (x27), ((IntKind.wrap .i64 (x28 + 1))), ()) w31)
  (jnC C5 (x0, (x3.1, x3.2.1, x3.2.2), (x16), ((IntKind.wrap .i64 (x17 + 1))), ()) w)
def F36.b8 (Q : Value → World → Prop) (C5 : (Option Addr × (Option Addr × Nat × Nat) × Int × Int × Unit) → World → Prop) : (Option Addr × (Option Addr × Nat × Nat) × Int × Int × Int × (Option Addr × Nat × Nat) × Int × Int × Unit) → World → ((Option Addr × (Option Addr × Nat × Nat) × Int × Int × Int × (Option Addr × Nat × Nat) × Int × Int × Unit) → World → Prop) → Prop := fun s w C8 => ∀ _ : Nat → Value, F36.b8c Q C5 C8 s.1 s.2.1 s.2.2.1 s.2.2.2.1 s.2.2.2.2.1 s.2.2.2.2.2.1 s.2.2.2.2.2.2.1 s.2.2.2.2.2.2.2.1 w
def F36.l8 (Q : Value → World → Prop) (C5 : (Option Addr × (Option Addr × Nat × Nat) × Int × Int × Unit) → World → Prop) : (Option Addr × (Option Addr × Nat × Nat) × Int × Int × Int × (Option Addr × Nat × Nat) × Int × Int × Unit) → World → Prop := fun s w => ∃ n, loopC (F36.b8 Q C5) n s w
def F36.b5c (Q : Value → World → Prop) (C5 : (Option Addr × (Option Addr × Nat × Nat) × Int × Int × Unit) → World → Prop) (x0 : Option Addr) (x3 : (Option Addr × Nat × Nat)) (x16 : Int) (x17 : Int) (w : World) : Prop :=
  vIf (decide (x17 < x16))
  (dr x3.1 fun b11 o12 =>
    gd (decide (0 ≤ x17)) <|
    gd (decide (x17 < ((x3.2.1 : Nat) : Int))) <|
    ldI .i64 w b11 (o12 + (x17).toNat * 3) fun i13 =>
    Calls Tryz.prog 12 #[Value.pointer x0, Value.int .i64 i13] w fun e15 w14 =>
    ∃ (A16 : Option Addr) (n17 c18 : Nat), e15 = .returned (Value.slice A16 n17 c18) ∧ (
      jnC (F36.l8 Q C5) (x0, (x3.1, x3.2.1, x3.2.2), (x17), (x16), (x17), (A16, n17, c18), (((n17 : Nat) : Int)), (0), ()) w14))
  (Q (Value.slice x3.1 x3.2.1 x3.2.2) w)
def F36.b5 (Q : Value → World → Prop) : (Option Addr × (Option Addr × Nat × Nat) × Int × Int × Unit) → World → ((Option Addr × (Option Addr × Nat × Nat) × Int × Int × Unit) → World → Prop) → Prop := fun s w C5 => ∀ _ : Nat → Value, F36.b5c Q C5 s.1 s.2.1 s.2.2.1 s.2.2.2.1 w
def F36.l5 (Q : Value → World → Prop) : (Option Addr × (Option Addr × Nat × Nat) × Int × Int × Unit) → World → Prop := fun s w => ∃ n, loopC (F36.b5 Q) n s w
def F36.vc (x0 : Option Addr) (w : World) (Q : Value → World → Prop) : Prop :=
  vIf x0.isNone
  (Q (Value.slice none 0 0) w)
  (dr x0 fun b1 o2 =>
    ldSl w b1 (o2 + 1) fun A3 n4 c5 =>
    Calls Tryz.prog 77 #[Value.slice A3 n4 c5] w fun e7 w6 =>
    ∃ (A8 : Option Addr) (n9 c10 : Nat), e7 = .returned (Value.slice A8 n9 c10) ∧ (
      jnC (F36.l5 Q) (x0, (A8, n9, c10), (((n9 : Nat) : Int)), (0), ()) w6))
def F36.an : Ann := ⟨[(5, [(0, .kP), (3, .kSl), (16, .kI .i64), (17, .kI .i64)]), (8, [(0, .kP), (3, .kSl), (4, .kI .i64), (16, .kI .i64), (17, .kI .i64), (26, .kSl), (27, .kI .i64), (28, .kI .i64)])], []⟩
theorem F36.of (x0 : Option Addr) (w : World) {Q : Value → World → Prop} (h : F36.vc x0 w Q) : Calls Tryz.prog 36 #[Value.pointer x0] w (fun e w' => ∃ v, e = .returned v ∧ Q v w') := vcFn_of (A := F36.an) noCount mixed h (by kernel_rfl)
/-! ### function 40: stillage/index.New -/
def F40.b3c (Q : Value → World → Prop) (C3 : ((Nat × Nat) × (Option Addr × Nat × Nat) × Int × Int × Unit) → World → Prop) (x3 : (Nat × Nat)) (x9 : (Option Addr × Nat × Nat)) (x10 : Int) (x11 : Int) (w : World) : Prop :=
  vIf (decide (x11 < x10))
  (dr x9.1 fun b6 o7 =>
    gd (decide (0 ≤ x11)) <|
    gd (decide (x11 < ((x9.2.1 : Nat) : Int))) <|
    ldA 38 w b6 (o7 + (x11).toNat * 38) fun a8 =>
    nw w Z48 48 fun b9 w10 =>
    gd (a8.length == 38) <|
    st w10 b9 0 a8 fun w11 =>
    ldP w11.drew x3.1 x3.2 fun p12 =>
    ldA 32 w11.drew b9 0 fun a13 =>
    ldA 38 w11.drew b9 0 fun a14 =>
    Calls Tryz.prog 80 #[ofL a14] w11.drew fun e16 w15 =>
    ∃ a17 : List Value, e16 = .returned (ofL a17) ∧ (
      kp w11.drew b9 0 32 w15 <|
      kp w11.drew x3.1 x3.2 1 w15 <|
      Calls Tryz.prog 79 #[Value.pointer p12, ofL a13, ofL a17] w15 fun e19 w18 =>
      e19 = .returned (Value.tuple #[]) ∧ (
        jnC C3 ((x3.1, x3.2), (x9.1, x9.2.1, x9.2.2), (x10), ((IntKind.wrap .i64 (x11 + 1))), ()) w18)))
  (Q (Value.pointer (some ⟨x3.1, x3.2, none⟩)) w)
def F40.b3 (Q : Value → World → Prop) : ((Nat × Nat) × (Option Addr × Nat × Nat) × Int × Int × Unit) → World → (((Nat × Nat) × (Option Addr × Nat × Nat) × Int × Int × Unit) → World → Prop) → Prop := fun s w C3 => ∀ _ : Nat → Value, F40.b3c Q C3 s.1 s.2.1 s.2.2.1 s.2.2.2.1 w
def F40.l3 (Q : Value → World → Prop) : ((Nat × Nat) × (Option Addr × Nat × Nat) × Int × Int × Unit) → World → Prop := fun s w => ∃ n, loopC (F40.b3 Q) n s w
def F40.vc (x0A : Option Addr) (x0n x0c : Nat) (w : World) (Q : Value → World → Prop) : Prop :=
  Calls Tryz.prog 78 #[] w fun e2 w1 =>
  ∃ p3 : Option Addr, e2 = .returned (Value.pointer p3) ∧ (
    nw w1 ([Value.pointer p3] ++ []) 129 fun b4 w5 =>
    jnC (F40.l3 Q) ((b4, 0), (x0A, x0n, x0c), (((x0n : Nat) : Int)), (0), ()) w5)
def F40.an : Ann := ⟨[(3, [(3, .kL), (9, .kSl), (10, .kI .i64), (11, .kI .i64)])], []⟩
theorem F40.of (x0A : Option Addr) (x0n x0c : Nat) (w : World) {Q : Value → World → Prop} (h : F40.vc x0A x0n x0c w Q) : Calls Tryz.prog 40 #[Value.slice x0A x0n x0c] w (fun e w' => ∃ v, e = .returned v ∧ Q v w') := vcFn_of (A := F40.an) noCount mixed h (by kernel_rfl)
/-! ### function 41: stillage/tags.New -/
def F41.b3c (Q : Value → World → Prop) (C3 : ((Nat × Nat) × (Option Addr × Nat × Nat) × Int × Int × Unit) → World → Prop) (x3 : (Nat × Nat)) (x8 : (Option Addr × Nat × Nat)) (x9 : Int) (x10 : Int) (w : World) : Prop :=
  vIf (decide (x10 < x9))
  (dr x8.1 fun b3 o4 =>
    gd (decide (0 ≤ x10)) <|
    gd (decide (x10 < ((x8.2.1 : Nat) : Int))) <|
    ldA 38 w b3 (o4 + (x10).toNat * 38) fun a5 =>
    nw w Z53 53 fun b6 w7 =>
    gd (a5.length == 38) <|
    st w7 b6 0 a5 fun w8 =>
    ldA 38 w8 b6 0 fun a9 =>
    Calls Tryz.prog 82 #[ofL a9] w8 fun e11 w10 =>
    ∃ a12 : List Value, e11 = .returned (ofL a12) ∧ (
      Calls Tryz.prog 81 #[Value.pointer (some ⟨x3.1, x3.2, none⟩), ofL a12] w10 fun e14 w13 =>
      e14 = .returned (Value.tuple #[]) ∧ (
        jnC C3 ((x3.1, x3.2), (x8.1, x8.2.1, x8.2.2), (x9), ((IntKind.wrap .i64 (x10 + 1))), ()) w13)))
  (Q (Value.pointer (some ⟨x3.1, x3.2, none⟩)) w)
def F41.b3 (Q : Value → World → Prop) : ((Nat × Nat) × (Option Addr × Nat × Nat) × Int × Int × Unit) → World → (((Nat × Nat) × (Option Addr × Nat × Nat) × Int × Int × Unit) → World → Prop) → Prop := fun s w C3 => ∀ _ : Nat → Value, F41.b3c Q C3 s.1 s.2.1 s.2.2.1 s.2.2.2.1 w
def F41.l3 (Q : Value → World → Prop) : ((Nat × Nat) × (Option Addr × Nat × Nat) × Int × Int × Unit) → World → Prop := fun s w => ∃ n, loopC (F41.b3 Q) n s w
def F41.vc (x0A : Option Addr) (x0n x0c : Nat) (w : World) (Q : Value → World → Prop) : Prop :=
  nw w ([Value.slice none 0 0] ++ []) 133 fun b1 w2 =>
  jnC (F41.l3 Q) ((b1, 0), (x0A, x0n, x0c), (((x0n : Nat) : Int)), (0), ()) w2
def F41.an : Ann := ⟨[(3, [(3, .kL), (8, .kSl), (9, .kI .i64), (10, .kI .i64)])], []⟩
theorem F41.of (x0A : Option Addr) (x0n x0c : Nat) (w : World) {Q : Value → World → Prop} (h : F41.vc x0A x0n x0c w Q) : Calls Tryz.prog 41 #[Value.slice x0A x0n x0c] w (fun e w' => ∃ v, e = .returned v ∧ Q v w') := vcFn_of (A := F41.an) noCount mixed h (by kernel_rfl)
/-! ### function 42: (*stillage/state.State).set -/
def F42.k3c (Q : Value → World → Prop) (x0 : Option Addr) (x2 : Int) (x6 : Int) (w : World) : Prop :=
  dr x0 fun b20 o21 =>
  ldSl w b20 (o21 + 1) fun A22 n23 c24 =>
  dr A22 fun b25 o26 =>
  gd (decide (0 ≤ x6)) <|
  gd (decide (x6 < ((n23 : Nat) : Int))) <|
  st w b25 ((o26 + (x6).toNat * 3) + 1) [Value.int .i64 x2] fun w27 =>
  Q (Value.tuple #[]) w27
def F42.k3 (Q : Value → World → Prop) : (Option Addr × Int × Int × Unit) → World → Prop := fun s w => ∀ _ : Nat → Value, F42.k3c Q s.1 s.2.1 s.2.2.1 w
def F42.vc (x0 : Option Addr) (x1 : Int) (x2 : Int) (w : World) (Q : Value → World → Prop) : Prop :=
  Calls Tryz.prog 45 #[Value.pointer x0, Value.int .i64 x1] w fun e2 w1 =>
  ∃ i3 : Int, ∃ t4 : Bool, e2 = .returned (Value.tuple #[Value.int .i64 i3, Value.bool t4]) ∧ (
    vIf (!t4)
    (dr x0 fun b5 o6 =>
      ldSl w1 b5 (o6 + 1) fun A7 n8 c9 =>
      gd (([Value.int .i64 x1] ++ ([Value.int .i64 0] ++ ([Value.int .i64 0] ++ []))).length == 3) <|
      nw w1 (([Value.int .i64 x1] ++ ([Value.int .i64 0] ++ ([Value.int .i64 0] ++ []))) ++ []) 98 fun b10 w11 =>
      Calls Tryz.prog 83 #[Value.slice A7 n8 c9, Value.int .i64 i3, Value.slice (some ⟨b10, 0, none⟩) 1 1] w11 fun e13 w12 =>
      ∃ (A14 : Option Addr) (n15 c16 : Nat), e13 = .returned (Value.slice A14 n15 c16) ∧ (
        dr x0 fun b17 o18 =>
        st w12 b17 (o18 + 1) [Value.slice A14 n15 c16] fun w19 =>
        jnC (F42.k3 Q) (x0, (x2), (i3), ()) w19))
    (jnC (F42.k3 Q) (x0, (x2), (i3), ()) w1))
def F42.an : Ann := ⟨[], [(3, [(0, .kP), (2, .kI .i64), (6, .kI .i64)])]⟩
theorem F42.of (x0 : Option Addr) (x1 : Int) (x2 : Int) (w : World) {Q : Value → World → Prop} (h : F42.vc x0 x1 x2 w Q) : Calls Tryz.prog 42 #[Value.pointer x0, Value.int .i64 x1, Value.int .i64 x2] w (fun e w' => ∃ v, e = .returned v ∧ Q v w') := vcFn_of (A := F42.an) noCount mixed h (by kernel_rfl)
end Go.Proofs.YthcclmlbkfadcaaGreat
/- PRINTED BY MY OWN gen.py out of the translation: each function as a proposition. -/
namespace Go.Proofs.YthcclmlbkfadcaaGreat
open Go.GV
set_option linter.unusedVariables false
set_option maxRecDepth 100000
/-! ### function 43: (*stillage/index.Index).Apply -/
def F43.k6c (Q : Value → World → Prop) (x0 : Option Addr) (x3 : (Nat × Nat)) (x4 : (Nat × Nat)) (x5 : Bool) (x19 : Int) (x20 : Bool) (w : World) : Prop :=
  vIf x20
  (dr x0 fun b15 o16 =>
    ldP w.drew b15 o16 fun p17 =>
    ldA 32 w.drew x3.1 (x3.2 + 2) fun a18 =>
    ldA 38 w.drew x4.1 x4.2 fun a19 =>
    ldA 39 w.drew x3.1 x3.2 fun a20 =>
    Calls Tryz.prog 85 #[ofL a19, ofL a20] w.drew fun e22 w21 =>
    ∃ a23 : List Value, e22 = .returned (ofL a23) ∧ (
      kp w.drew x3.1 (x3.2 + 2) 32 w21 <|
      kp w.drew b15 o16 1 w21 <|
      Calls Tryz.prog 79 #[Value.pointer p17, ofL a18, ofL a23] w21 fun e25 w24 =>
      e25 = .returned (Value.tuple #[]) ∧ (
        Q (Value.tuple #[]) w24)))
  (vIf (x19 == 5)
    (vIf x5
      (dr x0 fun b26 o27 =>
        ldP w.drew b26 o27 fun p28 =>
        ldA 32 w.drew x3.1 (x3.2 + 2) fun a29 =>
        ldA 38 w.drew x4.1 x4.2 fun a30 =>
        ldA 39 w.drew x3.1 x3.2 fun a31 =>
        Calls Tryz.prog 86 #[ofL a30, ofL a31] w.drew fun e33 w32 =>
        ∃ a34 : List Value, e33 = .returned (ofL a34) ∧ (
          kp w.drew x3.1 (x3.2 + 2) 32 w32 <|
          kp w.drew b26 o27 1 w32 <|
          Calls Tryz.prog 79 #[Value.pointer p28, ofL a29, ofL a34] w32 fun e36 w35 =>
          e36 = .returned (Value.tuple #[]) ∧ (
            Q (Value.tuple #[]) w35)))
      (Q (Value.tuple #[]) w))
    (Q (Value.tuple #[]) w))
def F43.k6 (Q : Value → World → Prop) : (Option Addr × (Nat × Nat) × (Nat × Nat) × Bool × Int × Bool × Unit) → World → Prop := fun s w => ∀ _ : Nat → Value, F43.k6c Q s.1 s.2.1 s.2.2.1 s.2.2.2.1 s.2.2.2.2.1 s.2.2.2.2.2.1 w
def F43.vc (x0 : Option Addr) (x1 : List Value) (w : World) (Q : Value → World → Prop) : Prop :=
  nw w x1 37 fun b1 w2 =>
  vIf x0.isNone
  (Q (Value.tuple #[]) w2)
  (dr x0 fun b3 o4 =>
    ldP w2.drew b3 o4 fun p5 =>
    ldA 32 w2.drew b1 (0 + 2) fun a6 =>
    (Calls Tryz.prog 84 #[Value.pointer p5, ofL a6] w2.drew fun e8 w7 =>
      ∃ a9 : List Value, ∃ t10 : Bool, e8 = .returned (Value.tuple #[ofL a9, Value.bool t10]) ∧ (
        nw w7 Z48 48 fun b11 w12 =>
        kp w2.drew b1 (0 + 2) 32 w12 <|
        kp w2.drew b3 o4 1 w12 <|
        gd (a9.length == 38) <|
        st w12 b11 0 a9 fun w13 =>
        ldI .i64 w13 b1 0 fun i14 =>
        vIf (i14 == 1)
        (jnC (F43.k6 Q) (x0, (b1, 0), (b11, 0), t10, (i14), (i14 == 1), ()) w13)
        (jnC (F43.k6 Q) (x0, (b1, 0), (b11, 0), t10, (i14), (i14 == 2), ()) w13))) ∧
    (nw w2.drew Z48 48 fun b37 w38 =>
      kp w2.drew b1 (0 + 2) 32 w38 <|
      kp w2.drew b3 o4 1 w38 <|
      Calls Tryz.prog 84 #[Value.pointer p5, ofL a6] w38 fun e40 w39 =>
      ∃ a41 : List Value, ∃ t42 : Bool, e40 = .returned (Value.tuple #[ofL a41, Value.bool t42]) ∧ (
        gd (a41.length == 38) <|
        st w39 b37 0 a41 fun w43 =>
        ldI .i64 w43 b1 0 fun i44 =>
        vIf (i44 == 1)
        (jnC (F43.k6 Q) (x0, (b1, 0), (b37, 0), t42, (i44), (i44 == 1), ()) w43)
        (jnC (F43.k6 Q) (x0, (b1, 0), (b37, 0), t42, (i44), (i44 == 2), ()) w43))))
def F43.an : Ann := ⟨[], [(6, [(0, .kP), (3, .kL), (4, .kL), (5, .kB), (19, .kI .i64), (20, .kB)])]⟩
theorem F43.of (x0 : Option Addr) (x1 : List Value) (w : World) {Q : Value → World → Prop} (h : F43.vc x0 x1 w Q) : Calls Tryz.prog 43 #[Value.pointer x0, ofL x1] w (fun e w' => ∃ v, e = .returned v ∧ Q v w') := vcFn_of (A := F43.an) noCount mixed h (by kernel_rfl)
/-! ### function 44: (*stillage/tags.Tags).Apply -/
def F44.vc (x0 : Option Addr) (x1 : List Value) (w : World) (Q : Value → World → Prop) : Prop :=
  nw w x1 37 fun b1 w2 =>
  vIf x0.isNone
  (Q (Value.tuple #[]) w2)
  (ldS w2 b1 (0 + 34) fun s3 =>
    Calls Tryz.prog 59 #[Value.pointer x0, Value.string s3] w2 fun e5 w4 =>
    ∃ a6 : List Value, ∃ t7 : Bool, e5 = .returned (Value.tuple #[ofL a6, Value.bool t7]) ∧ (
      nw w4 Z53 53 fun b8 w9 =>
      gd (a6.length == 38) <|
      st w9 b8 0 a6 fun w10 =>
      ldI .i64 w10 b1 0 fun i11 =>
      vIf (i11 == 3)
      (ldA 38 w10 b8 0 fun a12 =>
        ldA 39 w10 b1 0 fun a13 =>
        Calls Tryz.prog 87 #[ofL a12, ofL a13] w10 fun e15 w14 =>
        ∃ a16 : List Value, e15 = .returned (ofL a16) ∧ (
          Calls Tryz.prog 81 #[Value.pointer x0, ofL a16] w14 fun e18 w17 =>
          e18 = .returned (Value.tuple #[]) ∧ (
            Q (Value.tuple #[]) w17)))
      (vIf (i11 == 4)
        (vIf t7
          (ldA 38 w10 b8 0 fun a19 =>
            ldA 39 w10 b1 0 fun a20 =>
            Calls Tryz.prog 88 #[ofL a19, ofL a20] w10 fun e22 w21 =>
            ∃ a23 : List Value, e22 = .returned (ofL a23) ∧ (
              Calls Tryz.prog 81 #[Value.pointer x0, ofL a23] w21 fun e25 w24 =>
              e25 = .returned (Value.tuple #[]) ∧ (
                Q (Value.tuple #[]) w24)))
          (Q (Value.tuple #[]) w10))
        (Q (Value.tuple #[]) w10))))
def F44.an : Ann := ⟨[], []⟩
theorem F44.of (x0 : Option Addr) (x1 : List Value) (w : World) {Q : Value → World → Prop} (h : F44.vc x0 x1 w Q) : Calls Tryz.prog 44 #[Value.pointer x0, ofL x1] w (fun e w' => ∃ v, e = .returned v ∧ Q v w') := vcFn_of (A := F44.an) noCount mixed h (by kernel_rfl)
/-! ### function 45: (*stillage/state.State).place -/
def F45.vc (x0 : Option Addr) (x1 : Int) (w : World) (Q : Value → World → Prop) : Prop :=
  dr x0 fun b1 o2 =>
  ldSl w b1 (o2 + 1) fun A3 n4 c5 =>
  Calls Tryz.prog 89 #[Value.slice A3 n4 c5, Value.int .i64 x1, Value.func (.func 90) #[] #[]] w fun e7 w6 =>
  ∃ i8 : Int, ∃ t9 : Bool, e7 = .returned (Value.tuple #[Value.int .i64 i8, Value.bool t9]) ∧ (
    Q (Value.tuple #[Value.int .i64 i8, Value.bool t9]) w6)
def F45.an : Ann := ⟨[], []⟩
theorem F45.of (x0 : Option Addr) (x1 : Int) (w : World) {Q : Value → World → Prop} (h : F45.vc x0 x1 w Q) : Calls Tryz.prog 45 #[Value.pointer x0, Value.int .i64 x1] w (fun e w' => ∃ v, e = .returned v ∧ Q v w') := vcFn_of (A := F45.an) noCount mixed h (by kernel_rfl)
/-! ### function 46: (*stillage/index.Index).Row -/
def F46.b6c (Q : Value → World → Prop) (C6 : (Option Addr × Unit × (Option Addr × Nat × Nat) × (Option Addr × Nat × Nat) × Int × Int × Unit) → World → Prop) (x0 : Option Addr) (x3 : Unit) (x4 : (Option Addr × Nat × Nat)) (x15 : (Option Addr × Nat × Nat)) (x16 : Int) (x17 : Int) (w : World) : Prop :=
  vIf (decide (x17 < x16))
  (dr x15.1 fun b9 o10 =>
    gd (decide (0 ≤ x17)) <|
    gd (decide (x17 < ((x15.2.1 : Nat) : Int))) <|
    ldA 32 w b9 (o10 + (x17).toNat * 32) fun a11 =>
    nw w Z33 33 fun b12 w13 =>
    gd (a11.length == 32) <|
    st w13 b12 0 a11 fun w14 =>
    ldA 32 w14 b12 0 fun a15 =>
    Calls Tryz.prog 58 #[Value.pointer x0, ofL a15] w14 fun e17 w16 =>
    ∃ a18 : List Value, ∃ t19 : Bool, e17 = .returned (Value.tuple #[ofL a18, Value.bool t19]) ∧ (
      nw w16 Z48 48 fun b20 w21 =>
      gd (a18.length == 38) <|
      st w21 b20 0 a18 fun w22 =>
      ldA 38 w22 b20 0 fun a23 =>
      gd (a23.length == 38) <|
      nw w22 (a23 ++ []) 48 fun b24 w25 =>
      app w25 38 96 Z48 48 x4.1 x4.2.1 x4.2.2 (Value.slice (some ⟨b24, 0, none⟩) 1 1) fun A26 n27 c28 w29 =>
      jnC C6 (x0, (), (A26, n27, c28), (x15.1, x15.2.1, x15.2.2), (x16), ((IntKind.wrap .i64 (x17 + 1))), ()) w29))
  (Q (Value.slice x4.1 x4.2.1 x4.2.2) w)
def F46.b6 (Q : Value → World → Prop) : (Option Addr × Unit × (Option Addr × Nat × Nat) × (Option Addr × Nat × Nat) × Int × Int × Unit) → World → ((Option Addr × Unit × (Option Addr × Nat × Nat) × (Option Addr × Nat × Nat) × Int × Int × Unit) → World → Prop) → Prop := fun s w C6 => ∀ _ : Nat → Value, F46.b6c Q C6 s.1 s.2.1 s.2.2.1 s.2.2.2.1 s.2.2.2.2.1 s.2.2.2.2.2.1 w
def F46.l6 (Q : Value → World → Prop) : (Option Addr × Unit × (Option Addr × Nat × Nat) × (Option Addr × Nat × Nat) × Int × Int × Unit) → World → Prop := fun s w => ∃ n, loopC (F46.b6 Q) n s w
def F46.vc (x0 : Option Addr) (w : World) (Q : Value → World → Prop) : Prop :=
  vIf x0.isNone
  (Q (Value.slice none 0 0) w)
  (dr x0 fun b1 o2 =>
    ldP w b1 o2 fun p3 =>
    Calls Tryz.prog 91 #[Value.pointer p3] w fun e5 w4 =>
    ∃ (A6 : Option Addr) (n7 c8 : Nat), e5 = .returned (Value.slice A6 n7 c8) ∧ (
      jnC (F46.l6 Q) (x0, (), (none, 0, 0), (A6, n7, c8), (((n7 : Nat) : Int)), (0), ()) w4))
def F46.an : Ann := ⟨[(6, [(0, .kP), (3, .kF 58), (4, .kSl), (15, .kSl), (16, .kI .i64), (17, .kI .i64)])], []⟩
theorem F46.of (x0 : Option Addr) (w : World) {Q : Value → World → Prop} (h : F46.vc x0 w Q) : Calls Tryz.prog 46 #[Value.pointer x0] w (fun e w' => ∃ v, e = .returned v ∧ Q v w') := vcFn_of (A := F46.an) noCount mixed h (by kernel_rfl)
/-! ### function 47: (*stillage/tags.Tags).Row -/
def F47.b5c (Q : Value → World → Prop) (C5 : ((Option Addr × Nat × Nat) × (Option Addr × Nat × Nat) × Int × Int × Unit) → World → Prop) (x3 : (Option Addr × Nat × Nat)) (x11 : (Option Addr × Nat × Nat)) (x12 : Int) (x13 : Int) (w : World) : Prop :=
  vIf (decide (x13 < x12))
  (dr x11.1 fun b6 o7 =>
    gd (decide (0 ≤ x13)) <|
    gd (decide (x13 < ((x11.2.1 : Nat) : Int))) <|
    ldA 38 w b6 (o7 + (x13).toNat * 38) fun a8 =>
    nw w Z53 53 fun b9 w10 =>
    gd (a8.length == 38) <|
    st w10 b9 0 a8 fun w11 =>
    ldA 38 w11 b9 0 fun a12 =>
    Calls Tryz.prog 82 #[ofL a12] w11 fun e14 w13 =>
    ∃ a15 : List Value, e14 = .returned (ofL a15) ∧ (
      gd (a15.length == 38) <|
      nw w13 (a15 ++ []) 53 fun b16 w17 =>
      app w17 38 104 Z53 53 x3.1 x3.2.1 x3.2.2 (Value.slice (some ⟨b16, 0, none⟩) 1 1) fun A18 n19 c20 w21 =>
      jnC C5 ((A18, n19, c20), (x11.1, x11.2.1, x11.2.2), (x12), ((IntKind.wrap .i64 (x13 + 1))), ()) w21))
  (Q (Value.slice x3.1 x3.2.1 x3.2.2) w)
def F47.b5 (Q : Value → World → Prop) : ((Option Addr × Nat × Nat) × (Option Addr × Nat × Nat) × Int × Int × Unit) → World → (((Option Addr × Nat × Nat) × (Option Addr × Nat × Nat) × Int × Int × Unit) → World → Prop) → Prop := fun s w C5 => ∀ _ : Nat → Value, F47.b5c Q C5 s.1 s.2.1 s.2.2.1 s.2.2.2.1 w
def F47.l5 (Q : Value → World → Prop) : ((Option Addr × Nat × Nat) × (Option Addr × Nat × Nat) × Int × Int × Unit) → World → Prop := fun s w => ∃ n, loopC (F47.b5 Q) n s w
def F47.vc (x0 : Option Addr) (w : World) (Q : Value → World → Prop) : Prop :=
  vIf x0.isNone
  (Q (Value.slice none 0 0) w)
  (dr x0 fun b1 o2 =>
    ldSl w b1 o2 fun A3 n4 c5 =>
    jnC (F47.l5 Q) ((none, 0, 0), (A3, n4, c5), (((n4 : Nat) : Int)), (0), ()) w)
def F47.an : Ann := ⟨[(5, [(3, .kSl), (11, .kSl), (12, .kI .i64), (13, .kI .i64)])], []⟩
theorem F47.of (x0 : Option Addr) (w : World) {Q : Value → World → Prop} (h : F47.vc x0 w Q) : Calls Tryz.prog 47 #[Value.pointer x0] w (fun e w' => ∃ v, e = .returned v ∧ Q v w') := vcFn_of (A := F47.an) noCount mixed h (by kernel_rfl)
/-! ### function 48: stillage/entry.Alive -/
def F48.vc (x0 : List Value) (w : World) (Q : Value → World → Prop) : Prop :=
  nw w x0 48 fun b1 w2 =>
  ldI .i64 w2 b1 (0 + 32) fun i3 =>
  vIf (i3 != 5)
  (Q (Value.bool true) w2)
  (ldSl w2 b1 (0 + 37) fun A4 n5 c6 =>
    ldI .i64 w2 b1 (0 + 34) fun i7 =>
    Calls Tryz.prog 92 #[Value.slice A4 n5 c6, Value.int .i64 i7] w2 fun e9 w8 =>
    ∃ t10 : Bool, e9 = .returned (Value.bool t10) ∧ (
      Q (Value.bool t10) w8))
def F48.an : Ann := ⟨[], []⟩
theorem F48.of (x0 : List Value) (w : World) {Q : Value → World → Prop} (h : F48.vc x0 w Q) : Calls Tryz.prog 48 #[ofL x0] w (fun e w' => ∃ v, e = .returned v ∧ Q v w') := vcFn_of (A := F48.an) noCount mixed h (by kernel_rfl)
/-! ### function 49: stillage/entry.AliveTag -/
def F49.vc (x0 : List Value) (w : World) (Q : Value → World → Prop) : Prop :=
  nw w x0 53 fun b1 w2 =>
  ldB w2 b1 (0 + 33) fun t3 =>
  vIf (!t3)
  (Q (Value.bool true) w2)
  (ldSl w2 b1 (0 + 37) fun A4 n5 c6 =>
    ldI .i64 w2 b1 (0 + 34) fun i7 =>
    Calls Tryz.prog 92 #[Value.slice A4 n5 c6, Value.int .i64 i7] w2 fun e9 w8 =>
    ∃ t10 : Bool, e9 = .returned (Value.bool t10) ∧ (
      Q (Value.bool t10) w8))
def F49.an : Ann := ⟨[], []⟩
theorem F49.of (x0 : List Value) (w : World) {Q : Value → World → Prop} (h : F49.vc x0 w Q) : Calls Tryz.prog 49 #[ofL x0] w (fun e w' => ∃ v, e = .returned v ∧ Q v w') := vcFn_of (A := F49.an) noCount mixed h (by kernel_rfl)
/-! ### function 50: stillage/state.word -/
def F50.vc (x0 : List Value) (w : World) (Q : Value → World → Prop) : Prop :=
  nw w x0 53 fun b1 w2 =>
  nw w2 Z37 37 fun b3 w4 =>
  ldS w4 b1 0 fun s5 =>
  ldA 32 w4 b1 (0 + 1) fun a6 =>
  ldA 3 w4 b1 (0 + 34) fun a7 =>
  gd (a6.length == 32) <|
  gd (a7.length == 3) <|
  nw w4 Z37 37 fun b8 w9 =>
  gd (([Value.int .i64 3] ++ ([Value.int .u64 0] ++ (a6 ++ ([Value.string s5] ++ ([Value.int .i64 0] ++ (a7 ++ [])))))).length == 39) <|
  st w9 b8 0 ([Value.int .i64 3] ++ ([Value.int .u64 0] ++ (a6 ++ ([Value.string s5] ++ ([Value.int .i64 0] ++ (a7 ++ [])))))) fun w10 =>
  ldB w10 b1 (0 + 33) fun t11 =>
  vIf t11
  (st w10 b8 0 [Value.int .i64 4] fun w12 =>
    ldA 39 w12 b8 0 fun a13 =>
    gd (a13.length == 39) <|
    st w12 b3 0 a13 fun w14 =>
    ldA 39 w14 b3 0 fun a15 =>
    Q (ofL a15) w14)
  (ldA 39 w10 b8 0 fun a16 =>
    gd (a16.length == 39) <|
    st w10 b3 0 a16 fun w17 =>
    ldA 39 w17 b3 0 fun a18 =>
    Q (ofL a18) w17)
def F50.an : Ann := ⟨[], []⟩
theorem F50.of (x0 : List Value) (w : World) {Q : Value → World → Prop} (h : F50.vc x0 w Q) : Calls Tryz.prog 50 #[ofL x0] w (fun e w' => ∃ v, e = .returned v ∧ Q v w') := vcFn_of (A := F50.an) noCount mixed h (by kernel_rfl)
/-! ### function 51: slices.SortStableFunc[[]stillage/api.Word,stillage/api.Word] -/
def F51s.vc (x0A : Option Addr) (x0n x0c : Nat) (w : World) (Q : Value → World → Prop) : Prop :=
  Calls Tryz.prog 93 #[Value.slice x0A x0n x0c, Value.int .i64 ((x0n : Nat) : Int), Value.func (.func 52) #[] #[]] w fun e2 w1 =>
  e2 = .returned (Value.tuple #[]) ∧ (
    Q (Value.tuple #[]) w1)
def F51s.an : Ann := ⟨[], []⟩
theorem F51s.of (x0A : Option Addr) (x0n x0c : Nat) (w : World) {Q : Value → World → Prop} (h : F51s.vc x0A x0n x0c w Q) : Calls Tryz.prog 51 #[Value.slice x0A x0n x0c, Value.func (.func 52) #[] #[]] w (fun e w' => ∃ v, e = .returned v ∧ Q v w') := vcFn_of (A := F51s.an) noCount mixed h (by kernel_rfl)
/-! ### function 52: (*stillage/state.State).Here$1 -/
def F52.vc (x0 : List Value) (x1 : List Value) (w : World) (Q : Value → World → Prop) : Prop :=
  nw w x0 37 fun b1 w2 =>
  nw w2 x1 37 fun b3 w4 =>
  ldI .i64 w4 b1 ((0 + 36) + 1) fun i5 =>
  ldI .i64 w4 b3 ((0 + 36) + 1) fun i6 =>
  Calls Tryz.prog 53 #[Value.int .i64 i5, Value.int .i64 i6] w4 fun e8 w7 =>
  ∃ i9 : Int, e8 = .returned (Value.int .i64 i9) ∧ (
    Q (Value.int .i64 i9) w7)
def F52.an : Ann := ⟨[], []⟩
theorem F52.of (x0 : List Value) (x1 : List Value) (w : World) {Q : Value → World → Prop} (h : F52.vc x0 x1 w Q) : Calls Tryz.prog 52 #[ofL x0, ofL x1] w (fun e w' => ∃ v, e = .returned v ∧ Q v w') := vcFn_of (A := F52.an) noCount mixed h (by kernel_rfl)
/-! ### function 53: cmp.Compare[int] -/
def F53.vc (x0 : Int) (x1 : Int) (w : World) (Q : Value → World → Prop) : Prop :=
  Calls Tryz.prog 94 #[Value.int .i64 x0] w fun e2 w1 =>
  ∃ t3 : Bool, e2 = .returned (Value.bool t3) ∧ (
    Calls Tryz.prog 94 #[Value.int .i64 x1] w1 fun e5 w4 =>
    ∃ t6 : Bool, e5 = .returned (Value.bool t6) ∧ (
      vIf t3
      (vIf t6
        (Q (Value.int .i64 0) w4)
        (Q (Value.int .i64 (-1)) w4))
      (vIf t6
        (Q (Value.int .i64 1) w4)
        (vIf (decide (x0 < x1))
          (Q (Value.int .i64 (-1)) w4)
          (vIf (decide (x0 > x1))
            (Q (Value.int .i64 1) w4)
            (Q (Value.int .i64 0) w4))))))
def F53.an : Ann := ⟨[], []⟩
theorem F53.of (x0 : Int) (x1 : Int) (w : World) {Q : Value → World → Prop} (h : F53.vc x0 x1 w Q) : Calls Tryz.prog 53 #[Value.int .i64 x0, Value.int .i64 x1] w (fun e w' => ∃ v, e = .returned v ∧ Q v w') := vcFn_of (A := F53.an) noCount mixed h (by kernel_rfl)
/-! ### function 54: stillage/stillageref22.sub -/
def F54.b9c (Q : Value → World → Prop) (C9 : ((Nat × Nat) × (Nat × Nat) × Int × Unit) → World → Prop) (x2 : (Nat × Nat)) (x3 : (Nat × Nat)) (x9 : Int) (w : World) : Prop :=
  ldSl w x2.1 (x2.2 + 5) fun A33 n34 c35 =>
  vIf (decide (x9 < ((n34 : Nat) : Int)))
  (ldSl w x2.1 (x2.2 + 5) fun A36 n37 c38 =>
    dr A36 fun b39 o40 =>
    gd (decide (0 ≤ x9)) <|
    gd (decide (x9 < ((n37 : Nat) : Int))) <|
    ldA 38 w b39 (o40 + (x9).toNat * 38) fun a41 =>
    nw w Z53 53 fun b42 w43 =>
    gd (a41.length == 38) <|
    st w43 b42 0 a41 fun w44 =>
    ldSl w44 x3.1 (x3.2 + 5) fun A45 n46 c47 =>
    ldS w44 b42 0 fun s48 =>
    Calls Tryz.prog 18 #[Value.slice A45 n46 c47, Value.string s48] w44 fun e50 w49 =>
    ∃ a51 : List Value, ∃ t52 : Bool, e50 = .returned (Value.tuple #[ofL a51, Value.bool t52]) ∧ (
      nw w49 Z53 53 fun b53 w54 =>
      gd (a51.length == 38) <|
      st w54 b53 0 a51 fun w55 =>
      ldB w55 b42 (0 + 33) fun t56 =>
      vIf (!t56)
      (vIf (!t52)
        (Q (Value.bool false) w55)
        (ldB w55 b53 (0 + 33) fun t57 =>
          vIf t57
          (Q (Value.bool false) w55)
          (ldA 32 w55 b53 (0 + 1) fun a58 =>
            ldA 32 w55 b42 (0 + 1) fun a59 =>
            eqAB 32 a58 a59 fun t60 =>
            vIf (!t60)
            (Q (Value.bool false) w55)
            (jnC C9 ((x2.1, x2.2), (x3.1, x3.2), ((IntKind.wrap .i64 (x9 + 1))), ()) w55))))
      (jnC C9 ((x2.1, x2.2), (x3.1, x3.2), ((IntKind.wrap .i64 (x9 + 1))), ()) w55)))
  (Q (Value.bool true) w)
def F54.b9 (Q : Value → World → Prop) : ((Nat × Nat) × (Nat × Nat) × Int × Unit) → World → (((Nat × Nat) × (Nat × Nat) × Int × Unit) → World → Prop) → Prop := fun s w C9 => ∀ _ : Nat → Value, F54.b9c Q C9 s.1 s.2.1 s.2.2.1 w
def F54.l9 (Q : Value → World → Prop) : ((Nat × Nat) × (Nat × Nat) × Int × Unit) → World → Prop := fun s w => ∃ n, loopC (F54.b9 Q) n s w
def F54.b2c (Q : Value → World → Prop) (C2 : ((Nat × Nat) × (Nat × Nat) × Int × Unit) → World → Prop) (x2 : (Nat × Nat)) (x3 : (Nat × Nat)) (x5 : Int) (w : World) : Prop :=
  ldSl w x2.1 (x2.2 + 4) fun A5 n6 c7 =>
  vIf (decide (x5 < ((n6 : Nat) : Int)))
  (ldSl w x2.1 (x2.2 + 4) fun A8 n9 c10 =>
    dr A8 fun b11 o12 =>
    gd (decide (0 ≤ x5)) <|
    gd (decide (x5 < ((n9 : Nat) : Int))) <|
    ldA 38 w b11 (o12 + (x5).toNat * 38) fun a13 =>
    nw w Z48 48 fun b14 w15 =>
    gd (a13.length == 38) <|
    st w15 b14 0 a13 fun w16 =>
    ldSl w16 x3.1 (x3.2 + 4) fun A17 n18 c19 =>
    ldA 32 w16 b14 0 fun a20 =>
    Calls Tryz.prog 16 #[Value.slice A17 n18 c19, ofL a20] w16 fun e22 w21 =>
    ∃ a23 : List Value, ∃ t24 : Bool, e22 = .returned (Value.tuple #[ofL a23, Value.bool t24]) ∧ (
      nw w21 Z48 48 fun b25 w26 =>
      gd (a23.length == 38) <|
      st w26 b25 0 a23 fun w27 =>
      ldI .i64 w27 b14 (0 + 32) fun i28 =>
      vIf (i28 != 5)
      (ldI .i64 w27 b25 (0 + 32) fun i29 =>
        ldI .i64 w27 b14 (0 + 32) fun i30 =>
        vIf (i29 != i30)
        (Q (Value.bool false) w27)
        (ldI .i64 w27 b25 (0 + 33) fun i31 =>
          ldI .i64 w27 b14 (0 + 33) fun i32 =>
          vIf (i31 != i32)
          (Q (Value.bool false) w27)
          (jnC C2 ((x2.1, x2.2), (x3.1, x3.2), ((IntKind.wrap .i64 (x5 + 1))), ()) w27)))
      (jnC C2 ((x2.1, x2.2), (x3.1, x3.2), ((IntKind.wrap .i64 (x5 + 1))), ()) w27)))
  (jnC (F54.l9 Q) ((x2.1, x2.2), (x3.1, x3.2), (0), ()) w)
def F54.b2 (Q : Value → World → Prop) : ((Nat × Nat) × (Nat × Nat) × Int × Unit) → World → (((Nat × Nat) × (Nat × Nat) × Int × Unit) → World → Prop) → Prop := fun s w C2 => ∀ _ : Nat → Value, F54.b2c Q C2 s.1 s.2.1 s.2.2.1 w
def F54.l2 (Q : Value → World → Prop) : ((Nat × Nat) × (Nat × Nat) × Int × Unit) → World → Prop := fun s w => ∃ n, loopC (F54.b2 Q) n s w
def F54.vc (x0 : List Value) (x1 : List Value) (w : World) (Q : Value → World → Prop) : Prop :=
  nw w x0 30 fun b1 w2 =>
  nw w2 x1 30 fun b3 w4 =>
  jnC (F54.l2 Q) ((b1, 0), (b3, 0), (0), ()) w4
def F54.an : Ann := ⟨[(2, [(2, .kL), (3, .kL), (5, .kI .i64)]), (9, [(2, .kL), (3, .kL), (9, .kI .i64)])], []⟩
theorem F54.of (x0 : List Value) (x1 : List Value) (w : World) {Q : Value → World → Prop} (h : F54.vc x0 x1 w Q) : Calls Tryz.prog 54 #[ofL x0, ofL x1] w (fun e w' => ∃ v, e = .returned v ∧ Q v w') := vcFn_of (A := F54.an) noCount mixed h (by kernel_rfl)
/-! ### function 58: (*stillage/index.Index).Get -/
def F58.vc (x0 : Option Addr) (x1 : List Value) (w : World) (Q : Value → World → Prop) : Prop :=
  nw w x1 33 fun b1 w2 =>
  nw w2 Z48 48 fun b3 w4 =>
  vIf x0.isNone
  (gd (([Value.int .u8 0, Value.int .u8 0, Value.int .u8 0, Value.int .u8 0, Value.int .u8 0, Value.int .u8 0, Value.int .u8 0, Value.int .u8 0, Value.int .u8 0, Value.int .u8 0, Value.int .u8 0, Value.int .u8 0, Value.int .u8 0, Value.int .u8 0, Value.int .u8 0, Value.int .u8 0, Value.int .u8 0, Value.int .u8 0, Value.int .u8 0, Value.int .u8 0, Value.int .u8 0, Value.int .u8 0, Value.int .u8 0, Value.int .u8 0, Value.int .u8 0, Value.int .u8 0, Value.int .u8 0, Value.int .u8 0, Value.int .u8 0, Value.int .u8 0, Value.int .u8 0, Value.int .u8 0] ++ ([Value.int .i64 0] ++ ([Value.int .i64 0] ++ ([Value.int .i64 0, Value.int .i64 0, Value.int .i64 0] ++ ([Value.slice none 0 0] ++ []))))).length == 38) <|
    st w4 b3 0 ([Value.int .u8 0, Value.int .u8 0, Value.int .u8 0, Value.int .u8 0, Value.int .u8 0, Value.int .u8 0, Value.int .u8 0, Value.int .u8 0, Value.int .u8 0, Value.int .u8 0, Value.int .u8 0, Value.int .u8 0, Value.int .u8 0, Value.int .u8 0, Value.int .u8 0, Value.int .u8 0, Value.int .u8 0, Value.int .u8 0, Value.int .u8 0, Value.int .u8 0, Value.int .u8 0, Value.int .u8 0, Value.int .u8 0, Value.int .u8 0, Value.int .u8 0, Value.int .u8 0, Value.int .u8 0, Value.int .u8 0, Value.int .u8 0, Value.int .u8 0, Value.int .u8 0, Value.int .u8 0] ++ ([Value.int .i64 0] ++ ([Value.int .i64 0] ++ ([Value.int .i64 0, Value.int .i64 0, Value.int .i64 0] ++ ([Value.slice none 0 0] ++ []))))) fun w5 =>
    ldA 38 w5 b3 0 fun a6 =>
    Q (Value.tuple #[ofL a6, Value.bool false]) w5)
  (dr x0 fun b7 o8 =>
    ldP w4.drew b7 o8 fun p9 =>
    ldA 32 w4.drew b1 0 fun a10 =>
    (Calls Tryz.prog 84 #[Value.pointer p9, ofL a10] w4.drew fun e12 w11 =>
      ∃ a13 : List Value, ∃ t14 : Bool, e12 = .returned (Value.tuple #[ofL a13, Value.bool t14]) ∧ (
        nw w11 Z48 48 fun b15 w16 =>
        kp w4.drew b1 0 32 w16 <|
        kp w4.drew b7 o8 1 w16 <|
        gd (a13.length == 38) <|
        st w16 b15 0 a13 fun w17 =>
        ldA 38 w17 b15 0 fun a18 =>
        Calls Tryz.prog 80 #[ofL a18] w17 fun e20 w19 =>
        ∃ a21 : List Value, e20 = .returned (ofL a21) ∧ (
          gd (a21.length == 38) <|
          st w19 b3 0 a21 fun w22 =>
          ldA 38 w22 b3 0 fun a23 =>
          Q (Value.tuple #[ofL a23, Value.bool t14]) w22))) ∧
    (nw w4.drew Z48 48 fun b24 w25 =>
      kp w4.drew b1 0 32 w25 <|
      kp w4.drew b7 o8 1 w25 <|
      Calls Tryz.prog 84 #[Value.pointer p9, ofL a10] w25 fun e27 w26 =>
      ∃ a28 : List Value, ∃ t29 : Bool, e27 = .returned (Value.tuple #[ofL a28, Value.bool t29]) ∧ (
        gd (a28.length == 38) <|
        st w26 b24 0 a28 fun w30 =>
        ldA 38 w30 b24 0 fun a31 =>
        Calls Tryz.prog 80 #[ofL a31] w30 fun e33 w32 =>
        ∃ a34 : List Value, e33 = .returned (ofL a34) ∧ (
          gd (a34.length == 38) <|
          st w32 b3 0 a34 fun w35 =>
          ldA 38 w35 b3 0 fun a36 =>
          Q (Value.tuple #[ofL a36, Value.bool t29]) w35))))
def F58.an : Ann := ⟨[], []⟩
theorem F58.of (x0 : Option Addr) (x1 : List Value) (w : World) {Q : Value → World → Prop} (h : F58.vc x0 x1 w Q) : Calls Tryz.prog 58 #[Value.pointer x0, ofL x1] w (fun e w' => ∃ v, e = .returned v ∧ Q v w') := vcFn_of (A := F58.an) noCount mixed h (by kernel_rfl)
/-! ### function 59: (*stillage/tags.Tags).Get -/
def F59.vc (x0 : Option Addr) (x1 : ByteArray) (w : World) (Q : Value → World → Prop) : Prop :=
  nw w Z53 53 fun b1 w2 =>
  vIf x0.isNone
  (gd (([Value.string (⟨#[]⟩ : ByteArray)] ++ ([Value.int .u8 0, Value.int .u8 0, Value.int .u8 0, Value.int .u8 0, Value.int .u8 0, Value.int .u8 0, Value.int .u8 0, Value.int .u8 0, Value.int .u8 0, Value.int .u8 0, Value.int .u8 0, Value.int .u8 0, Value.int .u8 0, Value.int .u8 0, Value.int .u8 0, Value.int .u8 0, Value.int .u8 0, Value.int .u8 0, Value.int .u8 0, Value.int .u8 0, Value.int .u8 0, Value.int .u8 0, Value.int .u8 0, Value.int .u8 0, Value.int .u8 0, Value.int .u8 0, Value.int .u8 0, Value.int .u8 0, Value.int .u8 0, Value.int .u8 0, Value.int .u8 0, Value.int .u8 0] ++ ([Value.bool false] ++ ([Value.int .i64 0, Value.int .i64 0, Value.int .i64 0] ++ ([Value.slice none 0 0] ++ []))))).length == 38) <|
    st w2 b1 0 ([Value.string (⟨#[]⟩ : ByteArray)] ++ ([Value.int .u8 0, Value.int .u8 0, Value.int .u8 0, Value.int .u8 0, Value.int .u8 0, Value.int .u8 0, Value.int .u8 0, Value.int .u8 0, Value.int .u8 0, Value.int .u8 0, Value.int .u8 0, Value.int .u8 0, Value.int .u8 0, Value.int .u8 0, Value.int .u8 0, Value.int .u8 0, Value.int .u8 0, Value.int .u8 0, Value.int .u8 0, Value.int .u8 0, Value.int .u8 0, Value.int .u8 0, Value.int .u8 0, Value.int .u8 0, Value.int .u8 0, Value.int .u8 0, Value.int .u8 0, Value.int .u8 0, Value.int .u8 0, Value.int .u8 0, Value.int .u8 0, Value.int .u8 0] ++ ([Value.bool false] ++ ([Value.int .i64 0, Value.int .i64 0, Value.int .i64 0] ++ ([Value.slice none 0 0] ++ []))))) fun w3 =>
    ldA 38 w3 b1 0 fun a4 =>
    Q (Value.tuple #[ofL a4, Value.bool false]) w3)
  (Calls Tryz.prog 97 #[Value.pointer x0, Value.string x1] w2 fun e6 w5 =>
    ∃ i7 : Int, ∃ t8 : Bool, e6 = .returned (Value.tuple #[Value.int .i64 i7, Value.bool t8]) ∧ (
      vIf (!t8)
      (gd (([Value.string (⟨#[]⟩ : ByteArray)] ++ ([Value.int .u8 0, Value.int .u8 0, Value.int .u8 0, Value.int .u8 0, Value.int .u8 0, Value.int .u8 0, Value.int .u8 0, Value.int .u8 0, Value.int .u8 0, Value.int .u8 0, Value.int .u8 0, Value.int .u8 0, Value.int .u8 0, Value.int .u8 0, Value.int .u8 0, Value.int .u8 0, Value.int .u8 0, Value.int .u8 0, Value.int .u8 0, Value.int .u8 0, Value.int .u8 0, Value.int .u8 0, Value.int .u8 0, Value.int .u8 0, Value.int .u8 0, Value.int .u8 0, Value.int .u8 0, Value.int .u8 0, Value.int .u8 0, Value.int .u8 0, Value.int .u8 0, Value.int .u8 0] ++ ([Value.bool false] ++ ([Value.int .i64 0, Value.int .i64 0, Value.int .i64 0] ++ ([Value.slice none 0 0] ++ []))))).length == 38) <|
        st w5 b1 0 ([Value.string (⟨#[]⟩ : ByteArray)] ++ ([Value.int .u8 0, Value.int .u8 0, Value.int .u8 0, Value.int .u8 0, Value.int .u8 0, Value.int .u8 0, Value.int .u8 0, Value.int .u8 0, Value.int .u8 0, Value.int .u8 0, Value.int .u8 0, Value.int .u8 0, Value.int .u8 0, Value.int .u8 0, Value.int .u8 0, Value.int .u8 0, Value.int .u8 0, Value.int .u8 0, Value.int .u8 0, Value.int .u8 0, Value.int .u8 0, Value.int .u8 0, Value.int .u8 0, Value.int .u8 0, Value.int .u8 0, Value.int .u8 0, Value.int .u8 0, Value.int .u8 0, Value.int .u8 0, Value.int .u8 0, Value.int .u8 0, Value.int .u8 0] ++ ([Value.bool false] ++ ([Value.int .i64 0, Value.int .i64 0, Value.int .i64 0] ++ ([Value.slice none 0 0] ++ []))))) fun w9 =>
        ldA 38 w9 b1 0 fun a10 =>
        Q (Value.tuple #[ofL a10, Value.bool false]) w9)
      (dr x0 fun b11 o12 =>
        ldSl w5 b11 o12 fun A13 n14 c15 =>
        dr A13 fun b16 o17 =>
        gd (decide (0 ≤ i7)) <|
        gd (decide (i7 < ((n14 : Nat) : Int))) <|
        ldA 38 w5 b16 (o17 + (i7).toNat * 38) fun a18 =>
        Calls Tryz.prog 82 #[ofL a18] w5 fun e20 w19 =>
        ∃ a21 : List Value, e20 = .returned (ofL a21) ∧ (
          gd (a21.length == 38) <|
          st w19 b1 0 a21 fun w22 =>
          ldA 38 w22 b1 0 fun a23 =>
          Q (Value.tuple #[ofL a23, Value.bool true]) w22))))
def F59.an : Ann := ⟨[], []⟩
theorem F59.of (x0 : Option Addr) (x1 : ByteArray) (w : World) {Q : Value → World → Prop} (h : F59.vc x0 x1 w Q) : Calls Tryz.prog 59 #[Value.pointer x0, Value.string x1] w (fun e w' => ∃ v, e = .returned v ∧ Q v w') := vcFn_of (A := F59.an) noCount mixed h (by kernel_rfl)
end Go.Proofs.YthcclmlbkfadcaaGreat
/- PRINTED BY MY OWN gen.py out of the translation: each function as a proposition. -/
namespace Go.Proofs.YthcclmlbkfadcaaGreat
open Go.GV
set_option linter.unusedVariables false
set_option maxRecDepth 100000
/-! ### function 77: slices.Clone[[]stillage/api.Load,stillage/api.Load] -/
def F77.vc (x0A : Option Addr) (x0n x0c : Nat) (w : World) (Q : Value → World → Prop) : Prop :=
  vIf x0A.isNone
  (Q (Value.slice none 0 0) w)
  (nw w [] 98 fun b1 w2 =>
    app w2 3 24 [Value.int .i64 0, Value.int .i64 0, Value.int .i64 0] 98 (some ⟨b1, 0, none⟩) 0 0 (Value.slice x0A x0n x0c) fun A3 n4 c5 w6 =>
    Q (Value.slice A3 n4 c5) w6)
def F77.an : Ann := ⟨[], []⟩
theorem F77.of (x0A : Option Addr) (x0n x0c : Nat) (w : World) {Q : Value → World → Prop} (h : F77.vc x0A x0n x0c w Q) : Calls Tryz.prog 77 #[Value.slice x0A x0n x0c] w (fun e w' => ∃ v, e = .returned v ∧ Q v w') := vcFn_of (A := F77.an) noCount mixed h (by kernel_rfl)
/-! ### function 78: stillage/slots.New[stillage/api.Entry] -/
def F78.vc  (w : World) (Q : Value → World → Prop) : Prop :=
  nw w (zeros 8 Z157) 157 fun b1 w2 =>
  nw w2 ([Value.slice (some ⟨b1, 0, none⟩) 8 8] ++ ([Value.int .i64 0] ++ [])) 154 fun b3 w4 =>
  Q (Value.pointer (some ⟨b3, 0, none⟩)) w4
def F78.an : Ann := ⟨[], []⟩
theorem F78.of  (w : World) {Q : Value → World → Prop} (h : F78.vc  w Q) : Calls Tryz.prog 78 #[] w (fun e w' => ∃ v, e = .returned v ∧ Q v w') := vcFn_of (A := F78.an) noCount mixed h (by kernel_rfl)
/-! ### function 79: (*stillage/slots.Table[stillage/api.Entry]).Put -/
def F79.k8c (Q : Value → World → Prop) (x0 : Option Addr) (x4 : (Nat × Nat)) (x5 : (Nat × Nat)) (x6 : Int) (w : World) : Prop :=
  dr x0 fun b31 o32 =>
  ldSl w.drew b31 o32 fun A33 n34 c35 =>
  ldA 32 w.drew x4.1 x4.2 fun a36 =>
  ldA 38 w.drew x5.1 x5.2 fun a37 =>
  gd (a36.length == 32) <|
  gd (a37.length == 38) <|
  dr A33 fun b38 o39 =>
  gd (decide (0 ≤ x6)) <|
  gd (decide (x6 < ((n34 : Nat) : Int))) <|
  gd (([Value.bool true] ++ (a36 ++ (a37 ++ []))).length == 71) <|
  st w.drew b38 (o39 + (x6).toNat * 71) ([Value.bool true] ++ (a36 ++ (a37 ++ []))) fun w40 =>
  Q (Value.tuple #[]) w40
def F79.k8 (Q : Value → World → Prop) : (Option Addr × (Nat × Nat) × (Nat × Nat) × Int × Unit) → World → Prop := fun s w => ∀ _ : Nat → Value, F79.k8c Q s.1 s.2.1 s.2.2.1 s.2.2.2.1 w
def F79.k7c (Q : Value → World → Prop) (x0 : Option Addr) (x4 : (Nat × Nat)) (x5 : (Nat × Nat)) (x6 : Int) (w : World) : Prop :=
  dr x0 fun b25 o26 =>
  ldI .i64 w b25 (o26 + 1) fun i27 =>
  dr x0 fun b28 o29 =>
  st w b28 (o29 + 1) [Value.int .i64 (IntKind.wrap .i64 (i27 + 1))] fun w30 =>
  jnC (F79.k8 Q) (x0, (x4.1, x4.2), (x5.1, x5.2), (x6), ()) w30
def F79.k7 (Q : Value → World → Prop) : (Option Addr × (Nat × Nat) × (Nat × Nat) × Int × Unit) → World → Prop := fun s w => ∀ _ : Nat → Value, F79.k7c Q s.1 s.2.1 s.2.2.1 s.2.2.2.1 w
def F79.vc (x0 : Option Addr) (x1 : List Value) (x2 : List Value) (w : World) (Q : Value → World → Prop) : Prop :=
  nw w x1 33 fun b1 w2 =>
  nw w2 x2 48 fun b3 w4 =>
  vIf x0.isNone
  (Q (Value.tuple #[]) w4)
  (ldA 32 w4 b1 0 fun a5 =>
    Calls Tryz.prog 111 #[Value.pointer x0, ofL a5] w4 fun e7 w6 =>
    ∃ i8 : Int, ∃ t9 : Bool, e7 = .returned (Value.tuple #[Value.int .i64 i8, Value.bool t9]) ∧ (
      vIf (!t9)
      (dr x0 fun b10 o11 =>
        ldI .i64 w6.drew b10 (o11 + 1) fun i12 =>
        dr x0 fun b13 o14 =>
        ldSl w6.drew b13 o14 fun A15 n16 c17 =>
        vIf (decide ((IntKind.wrap .i64 (4 * (IntKind.wrap .i64 (i12 + 1)))) > (IntKind.wrap .i64 (3 * ((n16 : Nat) : Int)))))
        (Calls Tryz.prog 112 #[Value.pointer x0] w6.drew fun e19 w18 =>
          e19 = .returned (Value.tuple #[]) ∧ (
            ldA 32 w18 b1 0 fun a20 =>
            Calls Tryz.prog 111 #[Value.pointer x0, ofL a20] w18 fun e22 w21 =>
            ∃ i23 : Int, ∃ t24 : Bool, e22 = .returned (Value.tuple #[Value.int .i64 i23, Value.bool t24]) ∧ (
              jnC (F79.k7 Q) (x0, (b1, 0), (b3, 0), (i23), ()) w21)))
        (jnC (F79.k7 Q) (x0, (b1, 0), (b3, 0), (i8), ()) w6.drew))
      (jnC (F79.k8 Q) (x0, (b1, 0), (b3, 0), (i8), ()) w6)))
def F79.an : Ann := ⟨[], [(7, [(0, .kP), (4, .kL), (5, .kL), (6, .kI .i64)]), (8, [(0, .kP), (4, .kL), (5, .kL), (6, .kI .i64)])]⟩
theorem F79.of (x0 : Option Addr) (x1 : List Value) (x2 : List Value) (w : World) {Q : Value → World → Prop} (h : F79.vc x0 x1 x2 w Q) : Calls Tryz.prog 79 #[Value.pointer x0, ofL x1, ofL x2] w (fun e w' => ∃ v, e = .returned v ∧ Q v w') := vcFn_of (A := F79.an) noCount mixed h (by kernel_rfl)
/-! ### function 80: stillage/index.fresh -/
def F80.vc (x0 : List Value) (w : World) (Q : Value → World → Prop) : Prop :=
  nw w x0 48 fun b1 w2 =>
  nw w2 Z48 48 fun b3 w4 =>
  ldSl w4 b1 (0 + 37) fun A5 n6 c7 =>
  Calls Tryz.prog 113 #[Value.slice A5 n6 c7] w4 fun e9 w8 =>
  ∃ (A10 : Option Addr) (n11 c12 : Nat), e9 = .returned (Value.slice A10 n11 c12) ∧ (
    st w8 b1 (0 + 37) [Value.slice A10 n11 c12] fun w13 =>
    ldA 38 w13 b1 0 fun a14 =>
    gd (a14.length == 38) <|
    st w13 b3 0 a14 fun w15 =>
    ldA 38 w15 b3 0 fun a16 =>
    Q (ofL a16) w15)
def F80.an : Ann := ⟨[], []⟩
theorem F80.of (x0 : List Value) (w : World) {Q : Value → World → Prop} (h : F80.vc x0 w Q) : Calls Tryz.prog 80 #[ofL x0] w (fun e w' => ∃ v, e = .returned v ∧ Q v w') := vcFn_of (A := F80.an) noCount mixed h (by kernel_rfl)
/-! ### function 81: (*stillage/tags.Tags).put -/
def F81.vc (x0 : Option Addr) (x1 : List Value) (w : World) (Q : Value → World → Prop) : Prop :=
  nw w x1 53 fun b1 w2 =>
  ldS w2 b1 0 fun s3 =>
  Calls Tryz.prog 97 #[Value.pointer x0, Value.string s3] w2 fun e5 w4 =>
  ∃ i6 : Int, ∃ t7 : Bool, e5 = .returned (Value.tuple #[Value.int .i64 i6, Value.bool t7]) ∧ (
    vIf t7
    (dr x0 fun b8 o9 =>
      ldSl w4.drew b8 o9 fun A10 n11 c12 =>
      ldA 38 w4.drew b1 0 fun a13 =>
      dr A10 fun b14 o15 =>
      gd (decide (0 ≤ i6)) <|
      gd (decide (i6 < ((n11 : Nat) : Int))) <|
      gd (a13.length == 38) <|
      st w4.drew b14 (o15 + (i6).toNat * 38) a13 fun w16 =>
      Q (Value.tuple #[]) w16)
    (dr x0 fun b17 o18 =>
      ldSl w4 b17 o18 fun A19 n20 c21 =>
      gd (decide (0 ≤ i6)) <|
      gd (decide (i6 ≤ ((n20 : Nat) : Int))) <|
      Calls Tryz.prog 114 #[Value.slice (slA A19 c21 (i6).toNat 38) (n20 - (i6).toNat) (c21 - (i6).toNat)] w4 fun e23 w22 =>
      ∃ (A24 : Option Addr) (n25 c26 : Nat), e23 = .returned (Value.slice A24 n25 c26) ∧ (
        dr x0 fun b27 o28 =>
        ldSl w22.drew b27 o28 fun A29 n30 c31 =>
        gd (decide (0 ≤ i6)) <|
        gd (decide (i6 ≤ ((c31 : Nat) : Int))) <|
        gd (decide (0 ≤ i6)) <|
        gd (decide (i6 ≤ (((i6).toNat : Nat) : Int))) <|
        ldA 38 w22.drew b1 0 fun a32 =>
        gd (a32.length == 38) <|
        nw w22.drew (a32 ++ []) 53 fun b33 w34 =>
        kp w22.drew b27 o28 1 w34 <|
        app w34 38 104 Z53 53 (slA A29 (i6).toNat 0 38) ((i6).toNat) ((i6).toNat) (Value.slice (some ⟨b33, 0, none⟩) 1 1) fun A35 n36 c37 w38 =>
        app w38 38 104 Z53 53 A35 n36 c37 (Value.slice A24 n25 c26) fun A39 n40 c41 w42 =>
        dr x0 fun b43 o44 =>
        st w42 b43 o44 [Value.slice A39 n40 c41] fun w45 =>
        Q (Value.tuple #[]) w45)))
def F81.an : Ann := ⟨[], []⟩
theorem F81.of (x0 : Option Addr) (x1 : List Value) (w : World) {Q : Value → World → Prop} (h : F81.vc x0 x1 w Q) : Calls Tryz.prog 81 #[Value.pointer x0, ofL x1] w (fun e w' => ∃ v, e = .returned v ∧ Q v w') := vcFn_of (A := F81.an) noCount mixed h (by kernel_rfl)
/-! ### function 82: stillage/tags.fresh -/
def F82.vc (x0 : List Value) (w : World) (Q : Value → World → Prop) : Prop :=
  nw w x0 53 fun b1 w2 =>
  nw w2 Z53 53 fun b3 w4 =>
  ldSl w4 b1 (0 + 37) fun A5 n6 c7 =>
  Calls Tryz.prog 113 #[Value.slice A5 n6 c7] w4 fun e9 w8 =>
  ∃ (A10 : Option Addr) (n11 c12 : Nat), e9 = .returned (Value.slice A10 n11 c12) ∧ (
    st w8 b1 (0 + 37) [Value.slice A10 n11 c12] fun w13 =>
    ldA 38 w13 b1 0 fun a14 =>
    gd (a14.length == 38) <|
    st w13 b3 0 a14 fun w15 =>
    ldA 38 w15 b3 0 fun a16 =>
    Q (ofL a16) w15)
def F82.an : Ann := ⟨[], []⟩
theorem F82.of (x0 : List Value) (w : World) {Q : Value → World → Prop} (h : F82.vc x0 w Q) : Calls Tryz.prog 82 #[ofL x0] w (fun e w' => ∃ v, e = .returned v ∧ Q v w') := vcFn_of (A := F82.an) noCount mixed h (by kernel_rfl)
/-! ### function 83: slices.Insert[[]stillage/api.Load,stillage/api.Load] -/
def F83.vc (x0A : Option Addr) (x0n x0c : Nat) (x1 : Int) (x2A : Option Addr) (x2n x2c : Nat) (w : World) (Q : Value → World → Prop) : Prop :=
  gd (decide (0 ≤ x1)) <|
  gd (decide (x1 ≤ ((x0n : Nat) : Int))) <|
  vIf (((x2n : Nat) : Int) == 0)
  (Q (Value.slice x0A x0n x0c) w)
  (vIf (x1 == ((x0n : Nat) : Int))
    (app w 3 24 [Value.int .i64 0, Value.int .i64 0, Value.int .i64 0] 98 x0A x0n x0c (Value.slice x2A x2n x2c) fun A1 n2 c3 w4 =>
      Q (Value.slice A1 n2 c3) w4)
    (vIf (decide ((IntKind.wrap .i64 (((x0n : Nat) : Int) + ((x2n : Nat) : Int))) > ((x0c : Nat) : Int)))
      (gd (decide (0 ≤ x1)) <|
        gd (decide (x1 ≤ ((x0c : Nat) : Int))) <|
        appZ w 3 24 [Value.int .i64 0, Value.int .i64 0, Value.int .i64 0] 98 (slA x0A x0c 0 3) ((x1).toNat) x0c (IntKind.wrap .i64 ((IntKind.wrap .i64 (((x0n : Nat) : Int) + ((x2n : Nat) : Int))) - x1)) fun A5 n6 c7 w8 =>
        gd (decide (0 ≤ x1)) <|
        gd (decide (x1 ≤ ((n6 : Nat) : Int))) <|
        cpy w8 3 (slA A5 c7 (x1).toNat 3) (n6 - (x1).toNat) (Value.slice x2A x2n x2c) fun n9 w10 =>
        gd (decide (0 ≤ (IntKind.wrap .i64 (x1 + ((x2n : Nat) : Int))))) <|
        gd (decide ((IntKind.wrap .i64 (x1 + ((x2n : Nat) : Int))) ≤ ((n6 : Nat) : Int))) <|
        gd (decide (0 ≤ x1)) <|
        gd (decide (x1 ≤ ((x0n : Nat) : Int))) <|
        cpy w10.drew 3 (slA A5 c7 ((IntKind.wrap .i64 (x1 + ((x2n : Nat) : Int)))).toNat 3) (n6 - ((IntKind.wrap .i64 (x1 + ((x2n : Nat) : Int)))).toNat) (Value.slice (slA x0A x0c (x1).toNat 3) (x0n - (x1).toNat) (x0c - (x1).toNat)) fun n11 w12 =>
        Q (Value.slice A5 n6 c7) w12)
      (gd (decide (0 ≤ (IntKind.wrap .i64 (((x0n : Nat) : Int) + ((x2n : Nat) : Int))))) <|
        gd (decide ((IntKind.wrap .i64 (((x0n : Nat) : Int) + ((x2n : Nat) : Int))) ≤ ((x0c : Nat) : Int))) <|
        gd (decide (0 ≤ (IntKind.wrap .i64 (x1 + ((x2n : Nat) : Int))))) <|
        gd (decide ((IntKind.wrap .i64 (x1 + ((x2n : Nat) : Int))) ≤ ((((IntKind.wrap .i64 (((x0n : Nat) : Int) + ((x2n : Nat) : Int)))).toNat : Nat) : Int))) <|
        extC Tryz.prog 115 #[Value.slice x2A x2n x2c, Value.slice (slA (slA x0A x0c 0 3) x0c ((IntKind.wrap .i64 (x1 + ((x2n : Nat) : Int)))).toNat 3) (((IntKind.wrap .i64 (((x0n : Nat) : Int) + ((x2n : Nat) : Int)))).toNat - ((IntKind.wrap .i64 (x1 + ((x2n : Nat) : Int)))).toNat) (x0c - ((IntKind.wrap .i64 (x1 + ((x2n : Nat) : Int)))).toNat)] w fun v15 w13 =>
        ∃ t16 : Bool, v15 = Value.bool t16 ∧ (
          vIf (!t16)
          (gd (decide (0 ≤ (IntKind.wrap .i64 (x1 + ((x2n : Nat) : Int))))) <|
            gd (decide ((IntKind.wrap .i64 (x1 + ((x2n : Nat) : Int))) ≤ ((((IntKind.wrap .i64 (((x0n : Nat) : Int) + ((x2n : Nat) : Int)))).toNat : Nat) : Int))) <|
            gd (decide (0 ≤ x1)) <|
            gd (decide (x1 ≤ ((((IntKind.wrap .i64 (((x0n : Nat) : Int) + ((x2n : Nat) : Int)))).toNat : Nat) : Int))) <|
            cpy w13.drew 3 (slA (slA x0A x0c 0 3) x0c ((IntKind.wrap .i64 (x1 + ((x2n : Nat) : Int)))).toNat 3) (((IntKind.wrap .i64 (((x0n : Nat) : Int) + ((x2n : Nat) : Int)))).toNat - ((IntKind.wrap .i64 (x1 + ((x2n : Nat) : Int)))).toNat) (Value.slice (slA (slA x0A x0c 0 3) x0c (x1).toNat 3) (((IntKind.wrap .i64 (((x0n : Nat) : Int) + ((x2n : Nat) : Int)))).toNat - (x1).toNat) (x0c - (x1).toNat)) fun n17 w18 =>
            gd (decide (0 ≤ x1)) <|
            gd (decide (x1 ≤ ((((IntKind.wrap .i64 (((x0n : Nat) : Int) + ((x2n : Nat) : Int)))).toNat : Nat) : Int))) <|
            cpy w18 3 (slA (slA x0A x0c 0 3) x0c (x1).toNat 3) (((IntKind.wrap .i64 (((x0n : Nat) : Int) + ((x2n : Nat) : Int)))).toNat - (x1).toNat) (Value.slice x2A x2n x2c) fun n19 w20 =>
            Q (Value.slice (slA x0A x0c 0 3) ((IntKind.wrap .i64 (((x0n : Nat) : Int) + ((x2n : Nat) : Int)))).toNat x0c) w20)
          (gd (decide (0 ≤ ((x0n : Nat) : Int))) <|
            gd (decide (((x0n : Nat) : Int) ≤ ((((IntKind.wrap .i64 (((x0n : Nat) : Int) + ((x2n : Nat) : Int)))).toNat : Nat) : Int))) <|
            cpy w13 3 (slA (slA x0A x0c 0 3) x0c (((x0n : Nat) : Int)).toNat 3) (((IntKind.wrap .i64 (((x0n : Nat) : Int) + ((x2n : Nat) : Int)))).toNat - (((x0n : Nat) : Int)).toNat) (Value.slice x2A x2n x2c) fun n21 w22 =>
            gd (decide (0 ≤ x1)) <|
            gd (decide (x1 ≤ ((((IntKind.wrap .i64 (((x0n : Nat) : Int) + ((x2n : Nat) : Int)))).toNat : Nat) : Int))) <|
            Calls Tryz.prog 116 #[Value.slice (slA (slA x0A x0c 0 3) x0c (x1).toNat 3) (((IntKind.wrap .i64 (((x0n : Nat) : Int) + ((x2n : Nat) : Int)))).toNat - (x1).toNat) (x0c - (x1).toNat), Value.int .i64 ((x2n : Nat) : Int)] w22 fun e24 w23 =>
            e24 = .returned (Value.tuple #[]) ∧ (
              Q (Value.slice (slA x0A x0c 0 3) ((IntKind.wrap .i64 (((x0n : Nat) : Int) + ((x2n : Nat) : Int)))).toNat x0c) w23))))))
def F83.an : Ann := ⟨[], []⟩
theorem F83.of (x0A : Option Addr) (x0n x0c : Nat) (x1 : Int) (x2A : Option Addr) (x2n x2c : Nat) (w : World) {Q : Value → World → Prop} (h : F83.vc x0A x0n x0c x1 x2A x2n x2c w Q) : Calls Tryz.prog 83 #[Value.slice x0A x0n x0c, Value.int .i64 x1, Value.slice x2A x2n x2c] w (fun e w' => ∃ v, e = .returned v ∧ Q v w') := vcFn_of (A := F83.an) noCount mixed h (by kernel_rfl)
/-! ### function 84: (*stillage/slots.Table[stillage/api.Entry]).Get -/
def F84.vc (x0 : Option Addr) (x1 : List Value) (w : World) (Q : Value → World → Prop) : Prop :=
  nw w x1 33 fun b1 w2 =>
  nw w2 Z48 48 fun b3 w4 =>
  nw w4 Z48 48 fun b5 w6 =>
  vIf x0.isNone
  (ldA 38 w6 b5 0 fun a7 =>
    gd (a7.length == 38) <|
    st w6 b3 0 a7 fun w8 =>
    ldA 38 w8 b3 0 fun a9 =>
    Q (Value.tuple #[ofL a9, Value.bool false]) w8)
  (ldA 32 w6 b1 0 fun a10 =>
    Calls Tryz.prog 111 #[Value.pointer x0, ofL a10] w6 fun e12 w11 =>
    ∃ i13 : Int, ∃ t14 : Bool, e12 = .returned (Value.tuple #[Value.int .i64 i13, Value.bool t14]) ∧ (
      vIf (!t14)
      (ldA 38 w11 b5 0 fun a15 =>
        gd (a15.length == 38) <|
        st w11 b3 0 a15 fun w16 =>
        ldA 38 w16 b3 0 fun a17 =>
        Q (Value.tuple #[ofL a17, Value.bool false]) w16)
      (dr x0 fun b18 o19 =>
        ldSl w11 b18 o19 fun A20 n21 c22 =>
        dr A20 fun b23 o24 =>
        gd (decide (0 ≤ i13)) <|
        gd (decide (i13 < ((n21 : Nat) : Int))) <|
        ldA 38 w11 b23 ((o24 + (i13).toNat * 71) + 33) fun a25 =>
        gd (a25.length == 38) <|
        st w11 b3 0 a25 fun w26 =>
        ldA 38 w26 b3 0 fun a27 =>
        Q (Value.tuple #[ofL a27, Value.bool true]) w26)))
def F84.an : Ann := ⟨[], []⟩
theorem F84.of (x0 : Option Addr) (x1 : List Value) (w : World) {Q : Value → World → Prop} (h : F84.vc x0 x1 w Q) : Calls Tryz.prog 84 #[Value.pointer x0, ofL x1] w (fun e w' => ∃ v, e = .returned v ∧ Q v w') := vcFn_of (A := F84.an) noCount mixed h (by kernel_rfl)
/-! ### function 85: stillage/entry.Put -/
def F85.vc (x0 : List Value) (x1 : List Value) (w : World) (Q : Value → World → Prop) : Prop :=
  nw w x0 48 fun b1 w2 =>
  nw w2 x1 37 fun b3 w4 =>
  nw w4 Z48 48 fun b5 w6 =>
  ldA 32 w6.drew b3 (0 + 2) fun a7 =>
  ldI .i64 w6.drew b3 0 fun i8 =>
  ldI .i64 w6.drew b3 (0 + 35) fun i9 =>
  ldA 3 w6.drew b3 (0 + 36) fun a10 =>
  ldSl w6.drew b1 (0 + 37) fun A11 n12 c13 =>
  ldI .i64 w6.drew b3 (0 + 36) fun i14 =>
  nw w6.drew ([Value.int .i64 i14] ++ []) 3 fun b15 w16 =>
  kp w6.drew b1 (0 + 37) 1 w16 <|
  kp w6.drew b3 (0 + 36) 3 w16 <|
  kp w6.drew b3 (0 + 35) 1 w16 <|
  kp w6.drew b3 0 1 w16 <|
  kp w6.drew b3 (0 + 2) 32 w16 <|
  nw w16 ([Value.slice A11 n12 c13] ++ ([Value.slice (some ⟨b15, 0, none⟩) 1 1] ++ [])) 46 fun b17 w18 =>
  kp w6.drew b3 (0 + 36) 3 w18 <|
  kp w6.drew b3 (0 + 35) 1 w18 <|
  kp w6.drew b3 0 1 w18 <|
  kp w6.drew b3 (0 + 2) 32 w18 <|
  Calls Tryz.prog 117 #[Value.slice (some ⟨b17, 0, none⟩) 2 2] w18 fun e20 w19 =>
  ∃ (A21 : Option Addr) (n22 c23 : Nat), e20 = .returned (Value.slice A21 n22 c23) ∧ (
    kp w6.drew b3 (0 + 36) 3 w19 <|
    kp w6.drew b3 (0 + 35) 1 w19 <|
    kp w6.drew b3 0 1 w19 <|
    kp w6.drew b3 (0 + 2) 32 w19 <|
    gd (a7.length == 32) <|
    gd (a10.length == 3) <|
    gd ((a7 ++ ([Value.int .i64 i8] ++ ([Value.int .i64 i9] ++ (a10 ++ ([Value.slice A21 n22 c23] ++ []))))).length == 38) <|
    st w19 b5 0 (a7 ++ ([Value.int .i64 i8] ++ ([Value.int .i64 i9] ++ (a10 ++ ([Value.slice A21 n22 c23] ++ []))))) fun w24 =>
    ldA 38 w24 b5 0 fun a25 =>
    Q (ofL a25) w24)
def F85.an : Ann := ⟨[], []⟩
theorem F85.of (x0 : List Value) (x1 : List Value) (w : World) {Q : Value → World → Prop} (h : F85.vc x0 x1 w Q) : Calls Tryz.prog 85 #[ofL x0, ofL x1] w (fun e w' => ∃ v, e = .returned v ∧ Q v w') := vcFn_of (A := F85.an) noCount mixed h (by kernel_rfl)
/-! ### function 86: stillage/entry.Delete -/
def F86.vc (x0 : List Value) (x1 : List Value) (w : World) (Q : Value → World → Prop) : Prop :=
  nw w x0 48 fun b1 w2 =>
  nw w2 x1 37 fun b3 w4 =>
  nw w4 Z48 48 fun b5 w6 =>
  ldA 32 w6.drew b1 0 fun a7 =>
  ldA 3 w6.drew b3 (0 + 36) fun a8 =>
  ldSl w6.drew b1 (0 + 37) fun A9 n10 c11 =>
  nw w6.drew ([Value.slice A9 n10 c11] ++ []) 46 fun b12 w13 =>
  kp w6.drew b3 (0 + 36) 3 w13 <|
  kp w6.drew b1 0 32 w13 <|
  Calls Tryz.prog 117 #[Value.slice (some ⟨b12, 0, none⟩) 1 1] w13 fun e15 w14 =>
  ∃ (A16 : Option Addr) (n17 c18 : Nat), e15 = .returned (Value.slice A16 n17 c18) ∧ (
    kp w6.drew b3 (0 + 36) 3 w14 <|
    kp w6.drew b1 0 32 w14 <|
    gd (a7.length == 32) <|
    gd (a8.length == 3) <|
    gd ((a7 ++ ([Value.int .i64 5] ++ ([Value.int .i64 0] ++ (a8 ++ ([Value.slice A16 n17 c18] ++ []))))).length == 38) <|
    st w14 b5 0 (a7 ++ ([Value.int .i64 5] ++ ([Value.int .i64 0] ++ (a8 ++ ([Value.slice A16 n17 c18] ++ []))))) fun w19 =>
    ldA 38 w19 b5 0 fun a20 =>
    Q (ofL a20) w19)
def F86.an : Ann := ⟨[], []⟩
theorem F86.of (x0 : List Value) (x1 : List Value) (w : World) {Q : Value → World → Prop} (h : F86.vc x0 x1 w Q) : Calls Tryz.prog 86 #[ofL x0, ofL x1] w (fun e w' => ∃ v, e = .returned v ∧ Q v w') := vcFn_of (A := F86.an) noCount mixed h (by kernel_rfl)
/-! ### function 87: stillage/entry.Tag -/
def F87.vc (x0 : List Value) (x1 : List Value) (w : World) (Q : Value → World → Prop) : Prop :=
  nw w x0 53 fun b1 w2 =>
  nw w2 x1 37 fun b3 w4 =>
  nw w4 Z53 53 fun b5 w6 =>
  ldS w6.drew b3 (0 + 34) fun s7 =>
  ldA 32 w6.drew b3 (0 + 2) fun a8 =>
  ldA 3 w6.drew b3 (0 + 36) fun a9 =>
  ldSl w6.drew b1 (0 + 37) fun A10 n11 c12 =>
  ldI .i64 w6.drew b3 (0 + 36) fun i13 =>
  nw w6.drew ([Value.int .i64 i13] ++ []) 3 fun b14 w15 =>
  kp w6.drew b1 (0 + 37) 1 w15 <|
  kp w6.drew b3 (0 + 36) 3 w15 <|
  kp w6.drew b3 (0 + 2) 32 w15 <|
  kp w6.drew b3 (0 + 34) 1 w15 <|
  nw w15 ([Value.slice A10 n11 c12] ++ ([Value.slice (some ⟨b14, 0, none⟩) 1 1] ++ [])) 46 fun b16 w17 =>
  kp w6.drew b3 (0 + 36) 3 w17 <|
  kp w6.drew b3 (0 + 2) 32 w17 <|
  kp w6.drew b3 (0 + 34) 1 w17 <|
  Calls Tryz.prog 117 #[Value.slice (some ⟨b16, 0, none⟩) 2 2] w17 fun e19 w18 =>
  ∃ (A20 : Option Addr) (n21 c22 : Nat), e19 = .returned (Value.slice A20 n21 c22) ∧ (
    kp w6.drew b3 (0 + 36) 3 w18 <|
    kp w6.drew b3 (0 + 2) 32 w18 <|
    kp w6.drew b3 (0 + 34) 1 w18 <|
    gd (a8.length == 32) <|
    gd (a9.length == 3) <|
    gd (([Value.string s7] ++ (a8 ++ ([Value.bool false] ++ (a9 ++ ([Value.slice A20 n21 c22] ++ []))))).length == 38) <|
    st w18 b5 0 ([Value.string s7] ++ (a8 ++ ([Value.bool false] ++ (a9 ++ ([Value.slice A20 n21 c22] ++ []))))) fun w23 =>
    ldA 38 w23 b5 0 fun a24 =>
    Q (ofL a24) w23)
def F87.an : Ann := ⟨[], []⟩
theorem F87.of (x0 : List Value) (x1 : List Value) (w : World) {Q : Value → World → Prop} (h : F87.vc x0 x1 w Q) : Calls Tryz.prog 87 #[ofL x0, ofL x1] w (fun e w' => ∃ v, e = .returned v ∧ Q v w') := vcFn_of (A := F87.an) noCount mixed h (by kernel_rfl)
/-! ### function 88: stillage/entry.Untag -/
def F88.vc (x0 : List Value) (x1 : List Value) (w : World) (Q : Value → World → Prop) : Prop :=
  nw w x0 53 fun b1 w2 =>
  nw w2 x1 37 fun b3 w4 =>
  nw w4 Z53 53 fun b5 w6 =>
  ldS w6.drew b1 0 fun s7 =>
  ldA 3 w6.drew b3 (0 + 36) fun a8 =>
  ldSl w6.drew b1 (0 + 37) fun A9 n10 c11 =>
  nw w6.drew ([Value.slice A9 n10 c11] ++ []) 46 fun b12 w13 =>
  kp w6.drew b3 (0 + 36) 3 w13 <|
  kp w6.drew b1 0 1 w13 <|
  Calls Tryz.prog 117 #[Value.slice (some ⟨b12, 0, none⟩) 1 1] w13 fun e15 w14 =>
  ∃ (A16 : Option Addr) (n17 c18 : Nat), e15 = .returned (Value.slice A16 n17 c18) ∧ (
    kp w6.drew b3 (0 + 36) 3 w14 <|
    kp w6.drew b1 0 1 w14 <|
    gd (a8.length == 3) <|
    gd (([Value.string s7] ++ ([Value.int .u8 0, Value.int .u8 0, Value.int .u8 0, Value.int .u8 0, Value.int .u8 0, Value.int .u8 0, Value.int .u8 0, Value.int .u8 0, Value.int .u8 0, Value.int .u8 0, Value.int .u8 0, Value.int .u8 0, Value.int .u8 0, Value.int .u8 0, Value.int .u8 0, Value.int .u8 0, Value.int .u8 0, Value.int .u8 0, Value.int .u8 0, Value.int .u8 0, Value.int .u8 0, Value.int .u8 0, Value.int .u8 0, Value.int .u8 0, Value.int .u8 0, Value.int .u8 0, Value.int .u8 0, Value.int .u8 0, Value.int .u8 0, Value.int .u8 0, Value.int .u8 0, Value.int .u8 0] ++ ([Value.bool true] ++ (a8 ++ ([Value.slice A16 n17 c18] ++ []))))).length == 38) <|
    st w14 b5 0 ([Value.string s7] ++ ([Value.int .u8 0, Value.int .u8 0, Value.int .u8 0, Value.int .u8 0, Value.int .u8 0, Value.int .u8 0, Value.int .u8 0, Value.int .u8 0, Value.int .u8 0, Value.int .u8 0, Value.int .u8 0, Value.int .u8 0, Value.int .u8 0, Value.int .u8 0, Value.int .u8 0, Value.int .u8 0, Value.int .u8 0, Value.int .u8 0, Value.int .u8 0, Value.int .u8 0, Value.int .u8 0, Value.int .u8 0, Value.int .u8 0, Value.int .u8 0, Value.int .u8 0, Value.int .u8 0, Value.int .u8 0, Value.int .u8 0, Value.int .u8 0, Value.int .u8 0, Value.int .u8 0, Value.int .u8 0] ++ ([Value.bool true] ++ (a8 ++ ([Value.slice A16 n17 c18] ++ []))))) fun w19 =>
    ldA 38 w19 b5 0 fun a20 =>
    Q (ofL a20) w19)
def F88.an : Ann := ⟨[], []⟩
theorem F88.of (x0 : List Value) (x1 : List Value) (w : World) {Q : Value → World → Prop} (h : F88.vc x0 x1 w Q) : Calls Tryz.prog 88 #[ofL x0, ofL x1] w (fun e w' => ∃ v, e = .returned v ∧ Q v w') := vcFn_of (A := F88.an) noCount mixed h (by kernel_rfl)
/-! ### function 89: slices.BinarySearchFunc[[]stillage/api.Load,stillage/api.Load,int] -/
def F89s.b3c (Q : Value → World → Prop) (C3 : ((Option Addr × Nat × Nat) × Int × Unit × Int × Int × Int × Unit) → World → Prop) (x0 : (Option Addr × Nat × Nat)) (x1 : Int) (x2 : Unit) (x8 : Int) (x9 : Int) (x10 : Int) (w : World) : Prop :=
  vIf (decide (x9 < x10))
  (dr x0.1 fun b1 o2 =>
    gd (decide (0 ≤ (IntKind.wrap .i64 (Int.fdiv (IntKind.wrap .u64 (IntKind.wrap .i64 (x9 + x10))) (2 ^ 1))))) <|
    gd (decide ((IntKind.wrap .i64 (Int.fdiv (IntKind.wrap .u64 (IntKind.wrap .i64 (x9 + x10))) (2 ^ 1))) < ((x0.2.1 : Nat) : Int))) <|
    ldA 3 w b1 (o2 + ((IntKind.wrap .i64 (Int.fdiv (IntKind.wrap .u64 (IntKind.wrap .i64 (x9 + x10))) (2 ^ 1)))).toNat * 3) fun a3 =>
    Calls Tryz.prog 90 #[ofL a3, Value.int .i64 x1] w fun e5 w4 =>
    ∃ i6 : Int, e5 = .returned (Value.int .i64 i6) ∧ (
      vIf (decide (i6 < 0))
      (jnC C3 ((x0.1, x0.2.1, x0.2.2), (x1), (), (x8), ((IntKind.wrap .i64 ((IntKind.wrap .i64 (Int.fdiv (IntKind.wrap .u64 (IntKind.wrap .i64 (x9 + x10))) (2 ^ 1))) + 1))), (x10), ()) w4)
      (jnC C3 ((x0.1, x0.2.1, x0.2.2), (x1), (), (x8), (x9), ((IntKind.wrap .i64 (Int.fdiv (IntKind.wrap .u64 (IntKind.wrap .i64 (x9 + x10))) (2 ^ 1)))), ()) w4)))
  (vIf (decide (x9 < x8))
    (dr x0.1 fun b7 o8 =>
      gd (decide (0 ≤ x9)) <|
      gd (decide (x9 < ((x0.2.1 : Nat) : Int))) <|
      ldA 3 w b7 (o8 + (x9).toNat * 3) fun a9 =>
      Calls Tryz.prog 90 #[ofL a9, Value.int .i64 x1] w fun e11 w10 =>
      ∃ i12 : Int, e11 = .returned (Value.int .i64 i12) ∧ (
        Q (Value.tuple #[Value.int .i64 x9, Value.bool (i12 == 0)]) w10))
    (Q (Value.tuple #[Value.int .i64 x9, Value.bool false]) w))
def F89s.b3 (Q : Value → World → Prop) : ((Option Addr × Nat × Nat) × Int × Unit × Int × Int × Int × Unit) → World → (((Option Addr × Nat × Nat) × Int × Unit × Int × Int × Int × Unit) → World → Prop) → Prop := fun s w C3 => ∀ _ : Nat → Value, F89s.b3c Q C3 s.1 s.2.1 s.2.2.1 s.2.2.2.1 s.2.2.2.2.1 s.2.2.2.2.2.1 w
def F89s.l3 (Q : Value → World → Prop) : ((Option Addr × Nat × Nat) × Int × Unit × Int × Int × Int × Unit) → World → Prop := fun s w => ∃ n, loopC (F89s.b3 Q) n s w
def F89s.vc (x0A : Option Addr) (x0n x0c : Nat) (x1 : Int) (w : World) (Q : Value → World → Prop) : Prop :=
  jnC (F89s.l3 Q) ((x0A, x0n, x0c), (x1), (), (((x0n : Nat) : Int)), (0), (((x0n : Nat) : Int)), ()) w
def F89s.an : Ann := ⟨[(3, [(0, .kSl), (1, .kI .i64), (2, .kF 90), (8, .kI .i64), (9, .kI .i64), (10, .kI .i64)])], []⟩
theorem F89s.of (x0A : Option Addr) (x0n x0c : Nat) (x1 : Int) (w : World) {Q : Value → World → Prop} (h : F89s.vc x0A x0n x0c x1 w Q) : Calls Tryz.prog 89 #[Value.slice x0A x0n x0c, Value.int .i64 x1, Value.func (.func 90) #[] #[]] w (fun e w' => ∃ v, e = .returned v ∧ Q v w') := vcFn_of (A := F89s.an) noCount mixed h (by kernel_rfl)
/-! ### function 90: (*stillage/state.State).place$1 -/
def F90.vc (x0 : List Value) (x1 : Int) (w : World) (Q : Value → World → Prop) : Prop :=
  nw w x0 98 fun b1 w2 =>
  ldI .i64 w2 b1 0 fun i3 =>
  Calls Tryz.prog 53 #[Value.int .i64 i3, Value.int .i64 x1] w2 fun e5 w4 =>
  ∃ i6 : Int, e5 = .returned (Value.int .i64 i6) ∧ (
    Q (Value.int .i64 i6) w4)
def F90.an : Ann := ⟨[], []⟩
theorem F90.of (x0 : List Value) (x1 : Int) (w : World) {Q : Value → World → Prop} (h : F90.vc x0 x1 w Q) : Calls Tryz.prog 90 #[ofL x0, Value.int .i64 x1] w (fun e w' => ∃ v, e = .returned v ∧ Q v w') := vcFn_of (A := F90.an) noCount mixed h (by kernel_rfl)
/-! ### function 91: (*stillage/slots.Table[stillage/api.Entry]).Row -/
def F91.b5c (Q : Value → World → Prop) (C5 : ((Option Addr × Nat × Nat) × (Option Addr × Nat × Nat) × Int × Int × Unit) → World → Prop) (x3 : (Option Addr × Nat × Nat)) (x11 : (Option Addr × Nat × Nat)) (x12 : Int) (x13 : Int) (w : World) : Prop :=
  vIf (decide (x13 < x12))
  (dr x11.1 fun b6 o7 =>
    gd (decide (0 ≤ x13)) <|
    gd (decide (x13 < ((x11.2.1 : Nat) : Int))) <|
    ldA 71 w b6 (o7 + (x13).toNat * 71) fun a8 =>
    nw w Z157 157 fun b9 w10 =>
    gd (a8.length == 71) <|
    st w10 b9 0 a8 fun w11 =>
    ldB w11 b9 0 fun t12 =>
    vIf t12
    (ldA 32 w11 b9 (0 + 1) fun a13 =>
      gd (a13.length == 32) <|
      nw w11 (a13 ++ []) 33 fun b14 w15 =>
      app w15 32 32 Z33 33 x3.1 x3.2.1 x3.2.2 (Value.slice (some ⟨b14, 0, none⟩) 1 1) fun A16 n17 c18 w19 =>
      jnC C5 ((A16, n17, c18), (x11.1, x11.2.1, x11.2.2), (x12), ((IntKind.wrap .i64 (x13 + 1))), ()) w19)
    (jnC C5 ((x3.1, x3.2.1, x3.2.2), (x11.1, x11.2.1, x11.2.2), (x12), ((IntKind.wrap .i64 (x13 + 1))), ()) w11))
  (Calls Tryz.prog 118 #[Value.slice x3.1 x3.2.1 x3.2.2] w fun e21 w20 =>
    ∃ (A22 : Option Addr) (n23 c24 : Nat), e21 = .returned (Value.slice A22 n23 c24) ∧ (
      Q (Value.slice A22 n23 c24) w20))
def F91.b5 (Q : Value → World → Prop) : ((Option Addr × Nat × Nat) × (Option Addr × Nat × Nat) × Int × Int × Unit) → World → (((Option Addr × Nat × Nat) × (Option Addr × Nat × Nat) × Int × Int × Unit) → World → Prop) → Prop := fun s w C5 => ∀ _ : Nat → Value, F91.b5c Q C5 s.1 s.2.1 s.2.2.1 s.2.2.2.1 w
def F91.l5 (Q : Value → World → Prop) : ((Option Addr × Nat × Nat) × (Option Addr × Nat × Nat) × Int × Int × Unit) → World → Prop := fun s w => ∃ n, loopC (F91.b5 Q) n s w
def F91.vc (x0 : Option Addr) (w : World) (Q : Value → World → Prop) : Prop :=
  vIf x0.isNone
  (Q (Value.slice none 0 0) w)
  (dr x0 fun b1 o2 =>
    ldSl w b1 o2 fun A3 n4 c5 =>
    jnC (F91.l5 Q) ((none, 0, 0), (A3, n4, c5), (((n4 : Nat) : Int)), (0), ()) w)
def F91.an : Ann := ⟨[(5, [(3, .kSl), (11, .kSl), (12, .kI .i64), (13, .kI .i64)])], []⟩
theorem F91.of (x0 : Option Addr) (w : World) {Q : Value → World → Prop} (h : F91.vc x0 w Q) : Calls Tryz.prog 91 #[Value.pointer x0] w (fun e w' => ∃ v, e = .returned v ∧ Q v w') := vcFn_of (A := F91.an) noCount mixed h (by kernel_rfl)
/-! ### function 92: stillage/entry.other -/
def F92.vc (x0A : Option Addr) (x0n x0c : Nat) (x1 : Int) (w : World) (Q : Value → World → Prop) : Prop :=
  nw w [Value.int .i64 x1] 3 fun b1 w2 =>
  Calls Tryz.prog 119 #[Value.slice x0A x0n x0c, Value.func (.func 120) #[] #[Value.pointer (some ⟨b1, 0, none⟩)]] w2 fun e4 w3 =>
  ∃ t5 : Bool, e4 = .returned (Value.bool t5) ∧ (
    Q (Value.bool t5) w3)
def F92.an : Ann := ⟨[], []⟩
theorem F92.of (x0A : Option Addr) (x0n x0c : Nat) (x1 : Int) (w : World) {Q : Value → World → Prop} (h : F92.vc x0A x0n x0c x1 w Q) : Calls Tryz.prog 92 #[Value.slice x0A x0n x0c, Value.int .i64 x1] w (fun e w' => ∃ v, e = .returned v ∧ Q v w') := vcFn_of (A := F92.an) noCount mixed h (by kernel_rfl)
/-! ### function 93: slices.stableCmpFunc[stillage/api.Word] -/
def F93s.b9c (Q : Value → World → Prop) (C7 : ((Option Addr × Nat × Nat) × Int × Unit × Int × Unit) → World → Prop) (C9 : ((Option Addr × Nat × Nat) × Int × Unit × Int × Int × Int × Unit) → World → Prop) (x0 : (Option Addr × Nat × Nat)) (x1 : Int) (x2 : Unit) (x6 : Int) (x7 : Int) (x8 : Int) (w : World) : Prop :=
  vIf (decide (x8 ≤ x1))
  (Calls Tryz.prog 122 #[Value.slice x0.1 x0.2.1 x0.2.2, Value.int .i64 x7, Value.int .i64 (IntKind.wrap .i64 (x7 + x6)), Value.int .i64 x8, Value.func (.func 52) #[] #[]] w fun e6 w5 =>
    e6 = .returned (Value.tuple #[]) ∧ (
      jnC C9 ((x0.1, x0.2.1, x0.2.2), (x1), (), (x6), (x8), ((IntKind.wrap .i64 (x8 + (IntKind.wrap .i64 (2 * x6))))), ()) w5))
  (vIf (decide ((IntKind.wrap .i64 (x7 + x6)) < x1))
    (Calls Tryz.prog 122 #[Value.slice x0.1 x0.2.1 x0.2.2, Value.int .i64 x7, Value.int .i64 (IntKind.wrap .i64 (x7 + x6)), Value.int .i64 x1, Value.func (.func 52) #[] #[]] w fun e8 w7 =>
      e8 = .returned (Value.tuple #[]) ∧ (
        jnC C7 ((x0.1, x0.2.1, x0.2.2), (x1), (), ((IntKind.wrap .i64 (x6 * 2))), ()) w7))
    (jnC C7 ((x0.1, x0.2.1, x0.2.2), (x1), (), ((IntKind.wrap .i64 (x6 * 2))), ()) w))
def F93s.b9 (Q : Value → World → Prop) (C7 : ((Option Addr × Nat × Nat) × Int × Unit × Int × Unit) → World → Prop) : ((Option Addr × Nat × Nat) × Int × Unit × Int × Int × Int × Unit) → World → (((Option Addr × Nat × Nat) × Int × Unit × Int × Int × Int × Unit) → World → Prop) → Prop := fun s w C9 => ∀ _ : Nat → Value, F93s.b9c Q C7 C9 s.1 s.2.1 s.2.2.1 s.2.2.2.1 s.2.2.2.2.1 s.2.2.2.2.2.1 w
def F93s.l9 (Q : Value → World → Prop) (C7 : ((Option Addr × Nat × Nat) × Int × Unit × Int × Unit) → World → Prop) : ((Option Addr × Nat × Nat) × Int × Unit × Int × Int × Int × Unit) → World → Prop := fun s w => ∃ n, loopC (F93s.b9 Q C7) n s w
def F93s.b7c (Q : Value → World → Prop) (C7 : ((Option Addr × Nat × Nat) × Int × Unit × Int × Unit) → World → Prop) (x0 : (Option Addr × Nat × Nat)) (x1 : Int) (x2 : Unit) (x6 : Int) (w : World) : Prop :=
  vIf (decide (x6 < x1))
  (jnC (F93s.l9 Q C7) ((x0.1, x0.2.1, x0.2.2), (x1), (), (x6), (0), ((IntKind.wrap .i64 (2 * x6))), ()) w)
  (Q (Value.tuple #[]) w)
def F93s.b7 (Q : Value → World → Prop) : ((Option Addr × Nat × Nat) × Int × Unit × Int × Unit) → World → (((Option Addr × Nat × Nat) × Int × Unit × Int × Unit) → World → Prop) → Prop := fun s w C7 => ∀ _ : Nat → Value, F93s.b7c Q C7 s.1 s.2.1 s.2.2.1 s.2.2.2.1 w
def F93s.l7 (Q : Value → World → Prop) : ((Option Addr × Nat × Nat) × Int × Unit × Int × Unit) → World → Prop := fun s w => ∃ n, loopC (F93s.b7 Q) n s w
def F93s.b2c (Q : Value → World → Prop) (C2 : ((Option Addr × Nat × Nat) × Int × Unit × Int × Int × Int × Unit) → World → Prop) (x0 : (Option Addr × Nat × Nat)) (x1 : Int) (x2 : Unit) (x6 : Int) (x7 : Int) (x8 : Int) (w : World) : Prop :=
  vIf (decide (x8 ≤ x1))
  (Calls Tryz.prog 121 #[Value.slice x0.1 x0.2.1 x0.2.2, Value.int .i64 x7, Value.int .i64 x8, Value.func (.func 52) #[] #[]] w fun e2 w1 =>
    e2 = .returned (Value.tuple #[]) ∧ (
      jnC C2 ((x0.1, x0.2.1, x0.2.2), (x1), (), (x6), (x8), ((IntKind.wrap .i64 (x8 + x6))), ()) w1))
  (Calls Tryz.prog 121 #[Value.slice x0.1 x0.2.1 x0.2.2, Value.int .i64 x7, Value.int .i64 x1, Value.func (.func 52) #[] #[]] w fun e4 w3 =>
    e4 = .returned (Value.tuple #[]) ∧ (
      jnC (F93s.l7 Q) ((x0.1, x0.2.1, x0.2.2), (x1), (), (x6), ()) w3))
def F93s.b2 (Q : Value → World → Prop) : ((Option Addr × Nat × Nat) × Int × Unit × Int × Int × Int × Unit) → World → (((Option Addr × Nat × Nat) × Int × Unit × Int × Int × Int × Unit) → World → Prop) → Prop := fun s w C2 => ∀ _ : Nat → Value, F93s.b2c Q C2 s.1 s.2.1 s.2.2.1 s.2.2.2.1 s.2.2.2.2.1 s.2.2.2.2.2.1 w
def F93s.l2 (Q : Value → World → Prop) : ((Option Addr × Nat × Nat) × Int × Unit × Int × Int × Int × Unit) → World → Prop := fun s w => ∃ n, loopC (F93s.b2 Q) n s w
def F93s.vc (x0A : Option Addr) (x0n x0c : Nat) (x1 : Int) (w : World) (Q : Value → World → Prop) : Prop :=
  jnC (F93s.l2 Q) ((x0A, x0n, x0c), (x1), (), (20), (0), (20), ()) w
def F93s.an : Ann := ⟨[(2, [(0, .kSl), (1, .kI .i64), (2, .kF 52), (6, .kI .i64), (7, .kI .i64), (8, .kI .i64)]), (7, [(0, .kSl), (1, .kI .i64), (2, .kF 52), (6, .kI .i64)]), (9, [(0, .kSl), (1, .kI .i64), (2, .kF 52), (6, .kI .i64), (7, .kI .i64), (8, .kI .i64)])], []⟩
theorem F93s.of (x0A : Option Addr) (x0n x0c : Nat) (x1 : Int) (w : World) {Q : Value → World → Prop} (h : F93s.vc x0A x0n x0c x1 w Q) : Calls Tryz.prog 93 #[Value.slice x0A x0n x0c, Value.int .i64 x1, Value.func (.func 52) #[] #[]] w (fun e w' => ∃ v, e = .returned v ∧ Q v w') := vcFn_of (A := F93s.an) noCount mixed h (by kernel_rfl)
/-! ### function 94: cmp.isNaN[int] -/
def F94.vc (x0 : Int) (w : World) (Q : Value → World → Prop) : Prop :=
  Q (Value.bool (x0 != x0)) w
def F94.an : Ann := ⟨[], []⟩
theorem F94.of (x0 : Int) (w : World) {Q : Value → World → Prop} (h : F94.vc x0 w Q) : Calls Tryz.prog 94 #[Value.int .i64 x0] w (fun e w' => ∃ v, e = .returned v ∧ Q v w') := vcFn_of (A := F94.an) noCount mixed h (by kernel_rfl)
/-! ### function 97: (*stillage/tags.Tags).place -/
def F97.vc (x0 : Option Addr) (x1 : ByteArray) (w : World) (Q : Value → World → Prop) : Prop :=
  dr x0 fun b1 o2 =>
  ldSl w b1 o2 fun A3 n4 c5 =>
  Calls Tryz.prog 124 #[Value.slice A3 n4 c5, Value.string x1, Value.func (.func 125) #[] #[]] w fun e7 w6 =>
  ∃ i8 : Int, ∃ t9 : Bool, e7 = .returned (Value.tuple #[Value.int .i64 i8, Value.bool t9]) ∧ (
    Q (Value.tuple #[Value.int .i64 i8, Value.bool t9]) w6)
def F97.an : Ann := ⟨[], []⟩
theorem F97.of (x0 : Option Addr) (x1 : ByteArray) (w : World) {Q : Value → World → Prop} (h : F97.vc x0 x1 w Q) : Calls Tryz.prog 97 #[Value.pointer x0, Value.string x1] w (fun e w' => ∃ v, e = .returned v ∧ Q v w') := vcFn_of (A := F97.an) noCount mixed h (by kernel_rfl)
end Go.Proofs.YthcclmlbkfadcaaGreat
/- PRINTED BY MY OWN gen.py out of the translation: each function as a proposition. -/
namespace Go.Proofs.YthcclmlbkfadcaaGreat
open Go.GV
set_option linter.unusedVariables false
set_option maxRecDepth 100000
/-! ### function 111: (*stillage/slots.Table[stillage/api.Entry]).find -/
def F111.b2c (Q : Value → World → Prop) (C2 : (Option Addr × (Nat × Nat) × Int × Unit) → World → Prop) (x0 : Option Addr) (x3 : (Nat × Nat)) (x6 : Int) (w : World) : Prop :=
  dr x0 fun b7 o8 =>
  ldSl w b7 o8 fun A9 n10 c11 =>
  dr A9 fun b12 o13 =>
  gd (decide (0 ≤ x6)) <|
  gd (decide (x6 < ((n10 : Nat) : Int))) <|
  ldB w b12 (o13 + (x6).toNat * 71) fun t14 =>
  vIf (!t14)
  (Q (Value.tuple #[Value.int .i64 x6, Value.bool false]) w)
  (ldA 32 w.drew b12 ((o13 + (x6).toNat * 71) + 1) fun a15 =>
    ldA 32 w.drew x3.1 x3.2 fun a16 =>
    eqAB 32 a15 a16 fun t17 =>
    vIf t17
    (Q (Value.tuple #[Value.int .i64 x6, Value.bool true]) w.drew)
    (dr x0 fun b18 o19 =>
      ldSl w.drew b18 o19 fun A20 n21 c22 =>
      gd (decide (((n21 : Nat) : Int) ≠ 0)) <|
      jnC C2 (x0, (x3.1, x3.2), ((Int.tmod (IntKind.wrap .i64 (x6 + 1)) ((n21 : Nat) : Int))), ()) w.drew))
def F111.b2 (Q : Value → World → Prop) : (Option Addr × (Nat × Nat) × Int × Unit) → World → ((Option Addr × (Nat × Nat) × Int × Unit) → World → Prop) → Prop := fun s w C2 => ∀ _ : Nat → Value, F111.b2c Q C2 s.1 s.2.1 s.2.2.1 w
def F111.l2 (Q : Value → World → Prop) : (Option Addr × (Nat × Nat) × Int × Unit) → World → Prop := fun s w => ∃ n, loopC (F111.b2 Q) n s w
def F111.vc (x0 : Option Addr) (x1 : List Value) (w : World) (Q : Value → World → Prop) : Prop :=
  nw w x1 33 fun b1 w2 =>
  ldA 32 w2 b1 0 fun a3 =>
  Calls Tryz.prog 135 #[Value.pointer x0, ofL a3] w2 fun e5 w4 =>
  ∃ i6 : Int, e5 = .returned (Value.int .i64 i6) ∧ (
    jnC (F111.l2 Q) (x0, (b1, 0), (i6), ()) w4)
def F111.an : Ann := ⟨[(2, [(0, .kP), (3, .kL), (6, .kI .i64)])], []⟩
theorem F111.of (x0 : Option Addr) (x1 : List Value) (w : World) {Q : Value → World → Prop} (h : F111.vc x0 x1 w Q) : Calls Tryz.prog 111 #[Value.pointer x0, ofL x1] w (fun e w' => ∃ v, e = .returned v ∧ Q v w') := vcFn_of (A := F111.an) noCount mixed h (by kernel_rfl)
/-! ### function 112: (*stillage/slots.Table[stillage/api.Entry]).grow -/
def F112.b3c (Q : Value → World → Prop) (C3 : (Option Addr × (Option Addr × Nat × Nat) × Int × Int × Unit) → World → Prop) (x0 : Option Addr) (x18 : (Option Addr × Nat × Nat)) (x19 : Int) (x20 : Int) (w : World) : Prop :=
  vIf (decide (x20 < x19))
  (dr x18.1 fun b11 o12 =>
    gd (decide (0 ≤ x20)) <|
    gd (decide (x20 < ((x18.2.1 : Nat) : Int))) <|
    ldA 71 w b11 (o12 + (x20).toNat * 71) fun a13 =>
    nw w Z157 157 fun b14 w15 =>
    gd (a13.length == 71) <|
    st w15 b14 0 a13 fun w16 =>
    ldB w16 b14 0 fun t17 =>
    vIf t17
    (ldA 32 w16 b14 (0 + 1) fun a18 =>
      Calls Tryz.prog 111 #[Value.pointer x0, ofL a18] w16 fun e20 w19 =>
      ∃ i21 : Int, ∃ t22 : Bool, e20 = .returned (Value.tuple #[Value.int .i64 i21, Value.bool t22]) ∧ (
        dr x0 fun b23 o24 =>
        ldSl w19.drew b23 o24 fun A25 n26 c27 =>
        ldA 71 w19.drew b14 0 fun a28 =>
        dr A25 fun b29 o30 =>
        gd (decide (0 ≤ i21)) <|
        gd (decide (i21 < ((n26 : Nat) : Int))) <|
        gd (a28.length == 71) <|
        st w19.drew b29 (o30 + (i21).toNat * 71) a28 fun w31 =>
        jnC C3 (x0, (x18.1, x18.2.1, x18.2.2), (x19), ((IntKind.wrap .i64 (x20 + 1))), ()) w31))
    (jnC C3 (x0, (x18.1, x18.2.1, x18.2.2), (x19), ((IntKind.wrap .i64 (x20 + 1))), ()) w16))
  (Q (Value.tuple #[]) w)
def F112.b3 (Q : Value → World → Prop) : (Option Addr × (Option Addr × Nat × Nat) × Int × Int × Unit) → World → ((Option Addr × (Option Addr × Nat × Nat) × Int × Int × Unit) → World → Prop) → Prop := fun s w C3 => ∀ _ : Nat → Value, F112.b3c Q C3 s.1 s.2.1 s.2.2.1 s.2.2.2.1 w
def F112.l3 (Q : Value → World → Prop) : (Option Addr × (Option Addr × Nat × Nat) × Int × Int × Unit) → World → Prop := fun s w => ∃ n, loopC (F112.b3 Q) n s w
def F112.vc (x0 : Option Addr) (w : World) (Q : Value → World → Prop) : Prop :=
  dr x0 fun b1 o2 =>
  ldSl w b1 o2 fun A3 n4 c5 =>
  gd (decide (0 ≤ (IntKind.wrap .i64 (2 * ((n4 : Nat) : Int))))) <|
  gd (decide ((IntKind.wrap .i64 (2 * ((n4 : Nat) : Int))) ≤ (IntKind.wrap .i64 (2 * ((n4 : Nat) : Int))))) <|
  gd (decide ((IntKind.wrap .i64 (2 * ((n4 : Nat) : Int))) * 136 ≤ 281474976710656 ∧ (IntKind.wrap .i64 (2 * ((n4 : Nat) : Int))) ≤ 9223372036854775807)) <|
  nw w (zeros ((IntKind.wrap .i64 (2 * ((n4 : Nat) : Int)))).toNat Z157) 157 fun b6 w7 =>
  dr x0 fun b8 o9 =>
  st w7 b8 o9 [Value.slice (some ⟨b6, 0, none⟩) ((IntKind.wrap .i64 (2 * ((n4 : Nat) : Int)))).toNat ((IntKind.wrap .i64 (2 * ((n4 : Nat) : Int)))).toNat] fun w10 =>
  jnC (F112.l3 Q) (x0, (A3, n4, c5), (((n4 : Nat) : Int)), (0), ()) w10
def F112.an : Ann := ⟨[(3, [(0, .kP), (18, .kSl), (19, .kI .i64), (20, .kI .i64)])], []⟩
theorem F112.of (x0 : Option Addr) (w : World) {Q : Value → World → Prop} (h : F112.vc x0 w Q) : Calls Tryz.prog 112 #[Value.pointer x0] w (fun e w' => ∃ v, e = .returned v ∧ Q v w') := vcFn_of (A := F112.an) noCount mixed h (by kernel_rfl)
/-! ### function 113: slices.Clone[[]int,int] -/
def F113.vc (x0A : Option Addr) (x0n x0c : Nat) (w : World) (Q : Value → World → Prop) : Prop :=
  vIf x0A.isNone
  (Q (Value.slice none 0 0) w)
  (nw w [] 3 fun b1 w2 =>
    app w2 1 8 [Value.int .i64 0] 3 (some ⟨b1, 0, none⟩) 0 0 (Value.slice x0A x0n x0c) fun A3 n4 c5 w6 =>
    Q (Value.slice A3 n4 c5) w6)
def F113.an : Ann := ⟨[], []⟩
theorem F113.of (x0A : Option Addr) (x0n x0c : Nat) (w : World) {Q : Value → World → Prop} (h : F113.vc x0A x0n x0c w Q) : Calls Tryz.prog 113 #[Value.slice x0A x0n x0c] w (fun e w' => ∃ v, e = .returned v ∧ Q v w') := vcFn_of (A := F113.an) noCount mixed h (by kernel_rfl)
/-! ### function 114: slices.Clone[[]stillage/api.TagEntry,stillage/api.TagEntry] -/
def F114.vc (x0A : Option Addr) (x0n x0c : Nat) (w : World) (Q : Value → World → Prop) : Prop :=
  vIf x0A.isNone
  (Q (Value.slice none 0 0) w)
  (nw w [] 53 fun b1 w2 =>
    app w2 38 104 Z53 53 (some ⟨b1, 0, none⟩) 0 0 (Value.slice x0A x0n x0c) fun A3 n4 c5 w6 =>
    Q (Value.slice A3 n4 c5) w6)
def F114.an : Ann := ⟨[], []⟩
theorem F114.of (x0A : Option Addr) (x0n x0c : Nat) (w : World) {Q : Value → World → Prop} (h : F114.vc x0A x0n x0c w Q) : Calls Tryz.prog 114 #[Value.slice x0A x0n x0c] w (fun e w' => ∃ v, e = .returned v ∧ Q v w') := vcFn_of (A := F114.an) noCount mixed h (by kernel_rfl)
/-! ### function 117: stillage/entry.row -/
def F117.vc (x0A : Option Addr) (x0n x0c : Nat) (w : World) (Q : Value → World → Prop) : Prop :=
  Calls Tryz.prog 137 #[Value.slice x0A x0n x0c] w fun e2 w1 =>
  ∃ (A3 : Option Addr) (n4 c5 : Nat), e2 = .returned (Value.slice A3 n4 c5) ∧ (
    Calls Tryz.prog 138 #[Value.slice A3 n4 c5] w1 fun e7 w6 =>
    e7 = .returned (Value.tuple #[]) ∧ (
      Calls Tryz.prog 139 #[Value.slice A3 n4 c5] w6 fun e9 w8 =>
      ∃ (A10 : Option Addr) (n11 c12 : Nat), e9 = .returned (Value.slice A10 n11 c12) ∧ (
        Q (Value.slice A10 n11 c12) w8)))
def F117.an : Ann := ⟨[], []⟩
theorem F117.of (x0A : Option Addr) (x0n x0c : Nat) (w : World) {Q : Value → World → Prop} (h : F117.vc x0A x0n x0c w Q) : Calls Tryz.prog 117 #[Value.slice x0A x0n x0c] w (fun e w' => ∃ v, e = .returned v ∧ Q v w') := vcFn_of (A := F117.an) noCount mixed h (by kernel_rfl)
/-! ### function 118: stillage/digest.Row -/
def F118.vc (x0A : Option Addr) (x0n x0c : Nat) (w : World) (Q : Value → World → Prop) : Prop :=
  Calls Tryz.prog 140 #[Value.slice x0A x0n x0c] w fun e2 w1 =>
  ∃ (A3 : Option Addr) (n4 c5 : Nat), e2 = .returned (Value.slice A3 n4 c5) ∧ (
    Calls Tryz.prog 141 #[Value.slice A3 n4 c5, Value.func (.func 142) #[] #[]] w1 fun e7 w6 =>
    e7 = .returned (Value.tuple #[]) ∧ (
      Calls Tryz.prog 143 #[Value.slice A3 n4 c5] w6 fun e9 w8 =>
      ∃ (A10 : Option Addr) (n11 c12 : Nat), e9 = .returned (Value.slice A10 n11 c12) ∧ (
        Q (Value.slice A10 n11 c12) w8)))
def F118.an : Ann := ⟨[], []⟩
theorem F118.of (x0A : Option Addr) (x0n x0c : Nat) (w : World) {Q : Value → World → Prop} (h : F118.vc x0A x0n x0c w Q) : Calls Tryz.prog 118 #[Value.slice x0A x0n x0c] w (fun e w' => ∃ v, e = .returned v ∧ Q v w') := vcFn_of (A := F118.an) noCount mixed h (by kernel_rfl)
/-! ### function 119: slices.ContainsFunc[[]int,int] -/
def F119s.vc (x0A : Option Addr) (x0n x0c : Nat) (x1 : Nat × Nat) (w : World) (Q : Value → World → Prop) : Prop :=
  Calls Tryz.prog 144 #[Value.slice x0A x0n x0c, Value.func (.func 120) #[] #[Value.pointer (some ⟨x1.1, x1.2, none⟩)]] w fun e2 w1 =>
  ∃ i3 : Int, e2 = .returned (Value.int .i64 i3) ∧ (
    Q (Value.bool (decide (i3 ≥ 0))) w1)
def F119s.an : Ann := ⟨[], []⟩
theorem F119s.of (x0A : Option Addr) (x0n x0c : Nat) (x1 : Nat × Nat) (w : World) {Q : Value → World → Prop} (h : F119s.vc x0A x0n x0c x1 w Q) : Calls Tryz.prog 119 #[Value.slice x0A x0n x0c, Value.func (.func 120) #[] #[Value.pointer (some ⟨x1.1, x1.2, none⟩)]] w (fun e w' => ∃ v, e = .returned v ∧ Q v w') := vcFn_of (A := F119s.an) noCount mixed h (by kernel_rfl)
/-! ### function 120: stillage/entry.other$1 -/
def F120.vc (x0 : Int) (x1 : Nat × Nat) (w : World) (Q : Value → World → Prop) : Prop :=
  ldI .i64 w x1.1 x1.2 fun i1 =>
  Q (Value.bool (x0 != i1)) w
def F120.an : Ann := ⟨[], []⟩
theorem F120.of (x0 : Int) (x1 : Nat × Nat) (w : World) {Q : Value → World → Prop} (h : F120.vc x0 x1 w Q) : Calls Tryz.prog 120 #[Value.int .i64 x0, Value.pointer (some ⟨x1.1, x1.2, none⟩)] w (fun e w' => ∃ v, e = .returned v ∧ Q v w') := vcFn_of (A := F120.an) noCount mixed h (by kernel_rfl)
/-! ### function 121: slices.insertionSortCmpFunc[stillage/api.Word] -/
def F121s.k6c (Q : Value → World → Prop) (C1 : ((Option Addr × Nat × Nat) × Int × Int × Unit × Int × Unit) → World → Prop) (C4 : ((Option Addr × Nat × Nat) × Int × Int × Unit × Int × Int × Unit) → World → Prop) (x0 : (Option Addr × Nat × Nat)) (x1 : Int) (x2 : Int) (x3 : Unit) (x8 : Int) (x9 : Int) (w : World) : Prop :=
  dr x0.1 fun b10 o11 =>
  gd (decide (0 ≤ (IntKind.wrap .i64 (x9 - 1)))) <|
  gd (decide ((IntKind.wrap .i64 (x9 - 1)) < ((x0.2.1 : Nat) : Int))) <|
  ldA 39 w.drew b10 (o11 + ((IntKind.wrap .i64 (x9 - 1))).toNat * 39) fun a12 =>
  dr x0.1 fun b13 o14 =>
  gd (decide (0 ≤ x9)) <|
  gd (decide (x9 < ((x0.2.1 : Nat) : Int))) <|
  ldA 39 w.drew b13 (o14 + (x9).toNat * 39) fun a15 =>
  dr x0.1 fun b16 o17 =>
  gd (decide (0 ≤ x9)) <|
  gd (decide (x9 < ((x0.2.1 : Nat) : Int))) <|
  gd (a12.length == 39) <|
  st w.drew b16 (o17 + (x9).toNat * 39) a12 fun w18 =>
  dr x0.1 fun b19 o20 =>
  gd (decide (0 ≤ (IntKind.wrap .i64 (x9 - 1)))) <|
  gd (decide ((IntKind.wrap .i64 (x9 - 1)) < ((x0.2.1 : Nat) : Int))) <|
  gd (a15.length == 39) <|
  st w18 b19 (o20 + ((IntKind.wrap .i64 (x9 - 1))).toNat * 39) a15 fun w21 =>
  jnC C4 ((x0.1, x0.2.1, x0.2.2), (x1), (x2), (), (x8), ((IntKind.wrap .i64 (x9 - 1))), ()) w21
def F121s.k6 (Q : Value → World → Prop) (C1 : ((Option Addr × Nat × Nat) × Int × Int × Unit × Int × Unit) → World → Prop) (C4 : ((Option Addr × Nat × Nat) × Int × Int × Unit × Int × Int × Unit) → World → Prop) : ((Option Addr × Nat × Nat) × Int × Int × Unit × Int × Int × Unit) → World → Prop := fun s w => ∀ _ : Nat → Value, F121s.k6c Q C1 C4 s.1 s.2.1 s.2.2.1 s.2.2.2.1 s.2.2.2.2.1 s.2.2.2.2.2.1 w
def F121s.b4c (Q : Value → World → Prop) (C1 : ((Option Addr × Nat × Nat) × Int × Int × Unit × Int × Unit) → World → Prop) (C4 : ((Option Addr × Nat × Nat) × Int × Int × Unit × Int × Int × Unit) → World → Prop) (x0 : (Option Addr × Nat × Nat)) (x1 : Int) (x2 : Int) (x3 : Unit) (x8 : Int) (x9 : Int) (w : World) : Prop :=
  vIf (decide (x9 > x1))
  (dr x0.1 fun b1 o2 =>
    gd (decide (0 ≤ x9)) <|
    gd (decide (x9 < ((x0.2.1 : Nat) : Int))) <|
    ldA 39 w.drew b1 (o2 + (x9).toNat * 39) fun a3 =>
    dr x0.1 fun b4 o5 =>
    gd (decide (0 ≤ (IntKind.wrap .i64 (x9 - 1)))) <|
    gd (decide ((IntKind.wrap .i64 (x9 - 1)) < ((x0.2.1 : Nat) : Int))) <|
    ldA 39 w.drew b4 (o5 + ((IntKind.wrap .i64 (x9 - 1))).toNat * 39) fun a6 =>
    Calls Tryz.prog 52 #[ofL a3, ofL a6] w.drew fun e8 w7 =>
    ∃ i9 : Int, e8 = .returned (Value.int .i64 i9) ∧ (
      vIf (decide (i9 < 0))
      (jnC (F121s.k6 Q C1 C4) ((x0.1, x0.2.1, x0.2.2), (x1), (x2), (), (x8), (x9), ()) w7)
      (jnC C1 ((x0.1, x0.2.1, x0.2.2), (x1), (x2), (), ((IntKind.wrap .i64 (x8 + 1))), ()) w7)))
  (jnC C1 ((x0.1, x0.2.1, x0.2.2), (x1), (x2), (), ((IntKind.wrap .i64 (x8 + 1))), ()) w.drew)
def F121s.b4 (Q : Value → World → Prop) (C1 : ((Option Addr × Nat × Nat) × Int × Int × Unit × Int × Unit) → World → Prop) : ((Option Addr × Nat × Nat) × Int × Int × Unit × Int × Int × Unit) → World → (((Option Addr × Nat × Nat) × Int × Int × Unit × Int × Int × Unit) → World → Prop) → Prop := fun s w C4 => ∀ _ : Nat → Value, F121s.b4c Q C1 C4 s.1 s.2.1 s.2.2.1 s.2.2.2.1 s.2.2.2.2.1 s.2.2.2.2.2.1 w
def F121s.l4 (Q : Value → World → Prop) (C1 : ((Option Addr × Nat × Nat) × Int × Int × Unit × Int × Unit) → World → Prop) : ((Option Addr × Nat × Nat) × Int × Int × Unit × Int × Int × Unit) → World → Prop := fun s w => ∃ n, loopC (F121s.b4 Q C1) n s w
def F121s.b1c (Q : Value → World → Prop) (C1 : ((Option Addr × Nat × Nat) × Int × Int × Unit × Int × Unit) → World → Prop) (x0 : (Option Addr × Nat × Nat)) (x1 : Int) (x2 : Int) (x3 : Unit) (x8 : Int) (w : World) : Prop :=
  vIf (decide (x8 < x2))
  (jnC (F121s.l4 Q C1) ((x0.1, x0.2.1, x0.2.2), (x1), (x2), (), (x8), (x8), ()) w)
  (Q (Value.tuple #[]) w)
def F121s.b1 (Q : Value → World → Prop) : ((Option Addr × Nat × Nat) × Int × Int × Unit × Int × Unit) → World → (((Option Addr × Nat × Nat) × Int × Int × Unit × Int × Unit) → World → Prop) → Prop := fun s w C1 => ∀ _ : Nat → Value, F121s.b1c Q C1 s.1 s.2.1 s.2.2.1 s.2.2.2.1 s.2.2.2.2.1 w
def F121s.l1 (Q : Value → World → Prop) : ((Option Addr × Nat × Nat) × Int × Int × Unit × Int × Unit) → World → Prop := fun s w => ∃ n, loopC (F121s.b1 Q) n s w
def F121s.vc (x0A : Option Addr) (x0n x0c : Nat) (x1 : Int) (x2 : Int) (w : World) (Q : Value → World → Prop) : Prop :=
  jnC (F121s.l1 Q) ((x0A, x0n, x0c), (x1), (x2), (), ((IntKind.wrap .i64 (x1 + 1))), ()) w
def F121s.an : Ann := ⟨[(1, [(0, .kSl), (1, .kI .i64), (2, .kI .i64), (3, .kF 52), (8, .kI .i64)]), (4, [(0, .kSl), (1, .kI .i64), (2, .kI .i64), (3, .kF 52), (8, .kI .i64), (9, .kI .i64)])], [(6, [(0, .kSl), (1, .kI .i64), (2, .kI .i64), (3, .kF 52), (8, .kI .i64), (9, .kI .i64)])]⟩
theorem F121s.of (x0A : Option Addr) (x0n x0c : Nat) (x1 : Int) (x2 : Int) (w : World) {Q : Value → World → Prop} (h : F121s.vc x0A x0n x0c x1 x2 w Q) : Calls Tryz.prog 121 #[Value.slice x0A x0n x0c, Value.int .i64 x1, Value.int .i64 x2, Value.func (.func 52) #[] #[]] w (fun e w' => ∃ v, e = .returned v ∧ Q v w') := vcFn_of (A := F121s.an) noCount mixed h (by kernel_rfl)
/-! ### function 122: slices.symMergeCmpFunc[stillage/api.Word] -/
def F122s.b9c (Q : Value → World → Prop) (C9 : ((Option Addr × Nat × Nat) × Int × Int × Unit) → World → Prop) (x0 : (Option Addr × Nat × Nat)) (x10 : Int) (x13 : Int) (w : World) : Prop :=
  vIf (decide (x13 < (IntKind.wrap .i64 (x10 - 1))))
  (dr x0.1 fun b10 o11 =>
    gd (decide (0 ≤ (IntKind.wrap .i64 (x13 + 1)))) <|
    gd (decide ((IntKind.wrap .i64 (x13 + 1)) < ((x0.2.1 : Nat) : Int))) <|
    ldA 39 w.drew b10 (o11 + ((IntKind.wrap .i64 (x13 + 1))).toNat * 39) fun a12 =>
    dr x0.1 fun b13 o14 =>
    gd (decide (0 ≤ x13)) <|
    gd (decide (x13 < ((x0.2.1 : Nat) : Int))) <|
    ldA 39 w.drew b13 (o14 + (x13).toNat * 39) fun a15 =>
    dr x0.1 fun b16 o17 =>
    gd (decide (0 ≤ x13)) <|
    gd (decide (x13 < ((x0.2.1 : Nat) : Int))) <|
    gd (a12.length == 39) <|
    st w.drew b16 (o17 + (x13).toNat * 39) a12 fun w18 =>
    dr x0.1 fun b19 o20 =>
    gd (decide (0 ≤ (IntKind.wrap .i64 (x13 + 1)))) <|
    gd (decide ((IntKind.wrap .i64 (x13 + 1)) < ((x0.2.1 : Nat) : Int))) <|
    gd (a15.length == 39) <|
    st w18 b19 (o20 + ((IntKind.wrap .i64 (x13 + 1))).toNat * 39) a15 fun w21 =>
    jnC C9 ((x0.1, x0.2.1, x0.2.2), (x10), ((IntKind.wrap .i64 (x13 + 1))), ()) w21)
  (Q (Value.tuple #[]) w)
def F122s.b9 (Q : Value → World → Prop) : ((Option Addr × Nat × Nat) × Int × Int × Unit) → World → (((Option Addr × Nat × Nat) × Int × Int × Unit) → World → Prop) → Prop := fun s w C9 => ∀ _ : Nat → Value, F122s.b9c Q C9 s.1 s.2.1 s.2.2.1 w
def F122s.l9 (Q : Value → World → Prop) : ((Option Addr × Nat × Nat) × Int × Int × Unit) → World → Prop := fun s w => ∃ n, loopC (F122s.b9 Q) n s w
def F122s.b3c (Q : Value → World → Prop) (C3 : ((Option Addr × Nat × Nat) × Int × Unit × Int × Int × Unit) → World → Prop) (x0 : (Option Addr × Nat × Nat)) (x1 : Int) (x4 : Unit) (x10 : Int) (x11 : Int) (w : World) : Prop :=
  vIf (decide (x10 < x11))
  (dr x0.1 fun b1 o2 =>
    gd (decide (0 ≤ (IntKind.wrap .i64 (Int.fdiv (IntKind.wrap .u64 (IntKind.wrap .i64 (x10 + x11))) (2 ^ 1))))) <|
    gd (decide ((IntKind.wrap .i64 (Int.fdiv (IntKind.wrap .u64 (IntKind.wrap .i64 (x10 + x11))) (2 ^ 1))) < ((x0.2.1 : Nat) : Int))) <|
    ldA 39 w.drew b1 (o2 + ((IntKind.wrap .i64 (Int.fdiv (IntKind.wrap .u64 (IntKind.wrap .i64 (x10 + x11))) (2 ^ 1)))).toNat * 39) fun a3 =>
    dr x0.1 fun b4 o5 =>
    gd (decide (0 ≤ x1)) <|
    gd (decide (x1 < ((x0.2.1 : Nat) : Int))) <|
    ldA 39 w.drew b4 (o5 + (x1).toNat * 39) fun a6 =>
    Calls Tryz.prog 52 #[ofL a3, ofL a6] w.drew fun e8 w7 =>
    ∃ i9 : Int, e8 = .returned (Value.int .i64 i9) ∧ (
      vIf (decide (i9 < 0))
      (jnC C3 ((x0.1, x0.2.1, x0.2.2), (x1), (), ((IntKind.wrap .i64 ((IntKind.wrap .i64 (Int.fdiv (IntKind.wrap .u64 (IntKind.wrap .i64 (x10 + x11))) (2 ^ 1))) + 1))), (x11), ()) w7)
      (jnC C3 ((x0.1, x0.2.1, x0.2.2), (x1), (), (x10), ((IntKind.wrap .i64 (Int.fdiv (IntKind.wrap .u64 (IntKind.wrap .i64 (x10 + x11))) (2 ^ 1)))), ()) w7)))
  (jnC (F122s.l9 Q) ((x0.1, x0.2.1, x0.2.2), (x10), (x1), ()) w)
def F122s.b3 (Q : Value → World → Prop) : ((Option Addr × Nat × Nat) × Int × Unit × Int × Int × Unit) → World → (((Option Addr × Nat × Nat) × Int × Unit × Int × Int × Unit) → World → Prop) → Prop := fun s w C3 => ∀ _ : Nat → Value, F122s.b3c Q C3 s.1 s.2.1 s.2.2.1 s.2.2.2.1 s.2.2.2.2.1 w
def F122s.l3 (Q : Value → World → Prop) : ((Option Addr × Nat × Nat) × Int × Unit × Int × Int × Unit) → World → Prop := fun s w => ∃ n, loopC (F122s.b3 Q) n s w
def F122s.b21c (Q : Value → World → Prop) (C21 : ((Option Addr × Nat × Nat) × Int × Int × Unit) → World → Prop) (x0 : (Option Addr × Nat × Nat)) (x14 : Int) (x17 : Int) (w : World) : Prop :=
  vIf (decide (x17 > x14))
  (dr x0.1 fun b31 o32 =>
    gd (decide (0 ≤ (IntKind.wrap .i64 (x17 - 1)))) <|
    gd (decide ((IntKind.wrap .i64 (x17 - 1)) < ((x0.2.1 : Nat) : Int))) <|
    ldA 39 w.drew b31 (o32 + ((IntKind.wrap .i64 (x17 - 1))).toNat * 39) fun a33 =>
    dr x0.1 fun b34 o35 =>
    gd (decide (0 ≤ x17)) <|
    gd (decide (x17 < ((x0.2.1 : Nat) : Int))) <|
    ldA 39 w.drew b34 (o35 + (x17).toNat * 39) fun a36 =>
    dr x0.1 fun b37 o38 =>
    gd (decide (0 ≤ x17)) <|
    gd (decide (x17 < ((x0.2.1 : Nat) : Int))) <|
    gd (a33.length == 39) <|
    st w.drew b37 (o38 + (x17).toNat * 39) a33 fun w39 =>
    dr x0.1 fun b40 o41 =>
    gd (decide (0 ≤ (IntKind.wrap .i64 (x17 - 1)))) <|
    gd (decide ((IntKind.wrap .i64 (x17 - 1)) < ((x0.2.1 : Nat) : Int))) <|
    gd (a36.length == 39) <|
    st w39 b40 (o41 + ((IntKind.wrap .i64 (x17 - 1))).toNat * 39) a36 fun w42 =>
    jnC C21 ((x0.1, x0.2.1, x0.2.2), (x14), ((IntKind.wrap .i64 (x17 - 1))), ()) w42)
  (Q (Value.tuple #[]) w)
def F122s.b21 (Q : Value → World → Prop) : ((Option Addr × Nat × Nat) × Int × Int × Unit) → World → (((Option Addr × Nat × Nat) × Int × Int × Unit) → World → Prop) → Prop := fun s w C21 => ∀ _ : Nat → Value, F122s.b21c Q C21 s.1 s.2.1 s.2.2.1 w
def F122s.l21 (Q : Value → World → Prop) : ((Option Addr × Nat × Nat) × Int × Int × Unit) → World → Prop := fun s w => ∃ n, loopC (F122s.b21 Q) n s w
def F122s.b15c (Q : Value → World → Prop) (C15 : ((Option Addr × Nat × Nat) × Int × Unit × Int × Int × Unit) → World → Prop) (x0 : (Option Addr × Nat × Nat)) (x2 : Int) (x4 : Unit) (x14 : Int) (x15 : Int) (w : World) : Prop :=
  vIf (decide (x14 < x15))
  (dr x0.1 fun b22 o23 =>
    gd (decide (0 ≤ x2)) <|
    gd (decide (x2 < ((x0.2.1 : Nat) : Int))) <|
    ldA 39 w.drew b22 (o23 + (x2).toNat * 39) fun a24 =>
    dr x0.1 fun b25 o26 =>
    gd (decide (0 ≤ (IntKind.wrap .i64 (Int.fdiv (IntKind.wrap .u64 (IntKind.wrap .i64 (x14 + x15))) (2 ^ 1))))) <|
    gd (decide ((IntKind.wrap .i64 (Int.fdiv (IntKind.wrap .u64 (IntKind.wrap .i64 (x14 + x15))) (2 ^ 1))) < ((x0.2.1 : Nat) : Int))) <|
    ldA 39 w.drew b25 (o26 + ((IntKind.wrap .i64 (Int.fdiv (IntKind.wrap .u64 (IntKind.wrap .i64 (x14 + x15))) (2 ^ 1)))).toNat * 39) fun a27 =>
    Calls Tryz.prog 52 #[ofL a24, ofL a27] w.drew fun e29 w28 =>
    ∃ i30 : Int, e29 = .returned (Value.int .i64 i30) ∧ (
      vIf (!(decide (i30 < 0)))
      (jnC C15 ((x0.1, x0.2.1, x0.2.2), (x2), (), ((IntKind.wrap .i64 ((IntKind.wrap .i64 (Int.fdiv (IntKind.wrap .u64 (IntKind.wrap .i64 (x14 + x15))) (2 ^ 1))) + 1))), (x15), ()) w28)
      (jnC C15 ((x0.1, x0.2.1, x0.2.2), (x2), (), (x14), ((IntKind.wrap .i64 (Int.fdiv (IntKind.wrap .u64 (IntKind.wrap .i64 (x14 + x15))) (2 ^ 1)))), ()) w28)))
  (jnC (F122s.l21 Q) ((x0.1, x0.2.1, x0.2.2), (x14), (x2), ()) w)
def F122s.b15 (Q : Value → World → Prop) : ((Option Addr × Nat × Nat) × Int × Unit × Int × Int × Unit) → World → (((Option Addr × Nat × Nat) × Int × Unit × Int × Int × Unit) → World → Prop) → Prop := fun s w C15 => ∀ _ : Nat → Value, F122s.b15c Q C15 s.1 s.2.1 s.2.2.1 s.2.2.2.1 s.2.2.2.2.1 w
def F122s.l15 (Q : Value → World → Prop) : ((Option Addr × Nat × Nat) × Int × Unit × Int × Int × Unit) → World → Prop := fun s w => ∃ n, loopC (F122s.b15 Q) n s w
def F122s.k44c (Q : Value → World → Prop) (x0 : (Option Addr × Nat × Nat)) (x3 : Int) (x4 : Unit) (x18 : Int) (x24 : Int) (x213 : Bool) (w : World) : Prop :=
  vIf x213
  (Calls Tryz.prog 122 #[Value.slice x0.1 x0.2.1 x0.2.2, Value.int .i64 x18, Value.int .i64 x24, Value.int .i64 x3, Value.func (.func 52) #[] #[]] w fun e57 w56 =>
    e57 = .returned (Value.tuple #[]) ∧ (
      Q (Value.tuple #[]) w56))
  (Q (Value.tuple #[]) w)
def F122s.k44 (Q : Value → World → Prop) : ((Option Addr × Nat × Nat) × Int × Unit × Int × Int × Bool × Unit) → World → Prop := fun s w => ∀ _ : Nat → Value, F122s.k44c Q s.1 s.2.1 s.2.2.1 s.2.2.2.1 s.2.2.2.2.1 s.2.2.2.2.2.1 w
def F122s.k43c (Q : Value → World → Prop) (x0 : (Option Addr × Nat × Nat)) (x3 : Int) (x4 : Unit) (x18 : Int) (x24 : Int) (w : World) : Prop :=
  vIf (decide (x18 < x24))
  (jnC (F122s.k44 Q) ((x0.1, x0.2.1, x0.2.2), (x3), (), (x18), (x24), (decide (x24 < x3)), ()) w)
  (jnC (F122s.k44 Q) ((x0.1, x0.2.1, x0.2.2), (x3), (), (x18), (x24), false, ()) w)
def F122s.k43 (Q : Value → World → Prop) : ((Option Addr × Nat × Nat) × Int × Unit × Int × Int × Unit) → World → Prop := fun s w => ∀ _ : Nat → Value, F122s.k43c Q s.1 s.2.1 s.2.2.1 s.2.2.2.1 s.2.2.2.2.1 w
def F122s.k42c (Q : Value → World → Prop) (x0 : (Option Addr × Nat × Nat)) (x1 : Int) (x3 : Int) (x4 : Unit) (x18 : Int) (x20 : Int) (x24 : Int) (x199 : Bool) (w : World) : Prop :=
  vIf x199
  (Calls Tryz.prog 122 #[Value.slice x0.1 x0.2.1 x0.2.2, Value.int .i64 x1, Value.int .i64 x20, Value.int .i64 x18, Value.func (.func 52) #[] #[]] w fun e55 w54 =>
    e55 = .returned (Value.tuple #[]) ∧ (
      jnC (F122s.k43 Q) ((x0.1, x0.2.1, x0.2.2), (x3), (), (x18), (x24), ()) w54))
  (jnC (F122s.k43 Q) ((x0.1, x0.2.1, x0.2.2), (x3), (), (x18), (x24), ()) w)
def F122s.k42 (Q : Value → World → Prop) : ((Option Addr × Nat × Nat) × Int × Int × Unit × Int × Int × Int × Bool × Unit) → World → Prop := fun s w => ∀ _ : Nat → Value, F122s.k42c Q s.1 s.2.1 s.2.2.1 s.2.2.2.1 s.2.2.2.2.1 s.2.2.2.2.2.1 s.2.2.2.2.2.2.1 s.2.2.2.2.2.2.2.1 w
def F122s.k41c (Q : Value → World → Prop) (x0 : (Option Addr × Nat × Nat)) (x1 : Int) (x3 : Int) (x4 : Unit) (x18 : Int) (x20 : Int) (x24 : Int) (w : World) : Prop :=
  vIf (decide (x1 < x20))
  (jnC (F122s.k42 Q) ((x0.1, x0.2.1, x0.2.2), (x1), (x3), (), (x18), (x20), (x24), (decide (x20 < x18)), ()) w)
  (jnC (F122s.k42 Q) ((x0.1, x0.2.1, x0.2.2), (x1), (x3), (), (x18), (x20), (x24), false, ()) w)
def F122s.k41 (Q : Value → World → Prop) : ((Option Addr × Nat × Nat) × Int × Int × Unit × Int × Int × Int × Unit) → World → Prop := fun s w => ∀ _ : Nat → Value, F122s.k41c Q s.1 s.2.1 s.2.2.1 s.2.2.2.1 s.2.2.2.2.1 s.2.2.2.2.2.1 s.2.2.2.2.2.2.1 w
def F122s.k40c (Q : Value → World → Prop) (x0 : (Option Addr × Nat × Nat)) (x1 : Int) (x2 : Int) (x3 : Int) (x4 : Unit) (x18 : Int) (x20 : Int) (x24 : Int) (x185 : Bool) (w : World) : Prop :=
  vIf x185
  (Calls Tryz.prog 145 #[Value.slice x0.1 x0.2.1 x0.2.2, Value.int .i64 x20, Value.int .i64 x2, Value.int .i64 x24, Value.func (.func 52) #[] #[]] w fun e53 w52 =>
    e53 = .returned (Value.tuple #[]) ∧ (
      jnC (F122s.k41 Q) ((x0.1, x0.2.1, x0.2.2), (x1), (x3), (), (x18), (x20), (x24), ()) w52))
  (jnC (F122s.k41 Q) ((x0.1, x0.2.1, x0.2.2), (x1), (x3), (), (x18), (x20), (x24), ()) w)
def F122s.k40 (Q : Value → World → Prop) : ((Option Addr × Nat × Nat) × Int × Int × Int × Unit × Int × Int × Int × Bool × Unit) → World → Prop := fun s w => ∀ _ : Nat → Value, F122s.k40c Q s.1 s.2.1 s.2.2.1 s.2.2.2.1 s.2.2.2.2.1 s.2.2.2.2.2.1 s.2.2.2.2.2.2.1 s.2.2.2.2.2.2.2.1 s.2.2.2.2.2.2.2.2.1 w
def F122s.b33c (Q : Value → World → Prop) (C33 : ((Option Addr × Nat × Nat) × Int × Int × Int × Unit × Int × Int × Int × Int × Int × Unit) → World → Prop) (x0 : (Option Addr × Nat × Nat)) (x1 : Int) (x2 : Int) (x3 : Int) (x4 : Unit) (x18 : Int) (x19 : Int) (x20 : Int) (x21 : Int) (x22 : Int) (w : World) : Prop :=
  vIf (decide (x20 < x21))
  (dr x0.1 fun b43 o44 =>
    gd (decide (0 ≤ (IntKind.wrap .i64 (x22 - (IntKind.wrap .i64 (Int.fdiv (IntKind.wrap .u64 (IntKind.wrap .i64 (x20 + x21))) (2 ^ 1))))))) <|
    gd (decide ((IntKind.wrap .i64 (x22 - (IntKind.wrap .i64 (Int.fdiv (IntKind.wrap .u64 (IntKind.wrap .i64 (x20 + x21))) (2 ^ 1))))) < ((x0.2.1 : Nat) : Int))) <|
    ldA 39 w.drew b43 (o44 + ((IntKind.wrap .i64 (x22 - (IntKind.wrap .i64 (Int.fdiv (IntKind.wrap .u64 (IntKind.wrap .i64 (x20 + x21))) (2 ^ 1)))))).toNat * 39) fun a45 =>
    dr x0.1 fun b46 o47 =>
    gd (decide (0 ≤ (IntKind.wrap .i64 (Int.fdiv (IntKind.wrap .u64 (IntKind.wrap .i64 (x20 + x21))) (2 ^ 1))))) <|
    gd (decide ((IntKind.wrap .i64 (Int.fdiv (IntKind.wrap .u64 (IntKind.wrap .i64 (x20 + x21))) (2 ^ 1))) < ((x0.2.1 : Nat) : Int))) <|
    ldA 39 w.drew b46 (o47 + ((IntKind.wrap .i64 (Int.fdiv (IntKind.wrap .u64 (IntKind.wrap .i64 (x20 + x21))) (2 ^ 1)))).toNat * 39) fun a48 =>
    Calls Tryz.prog 52 #[ofL a45, ofL a48] w.drew fun e50 w49 =>
    ∃ i51 : Int, e50 = .returned (Value.int .i64 i51) ∧ (
      vIf (!(decide (i51 < 0)))
      (jnC C33 ((x0.1, x0.2.1, x0.2.2), (x1), (x2), (x3), (), (x18), (x19), ((IntKind.wrap .i64 ((IntKind.wrap .i64 (Int.fdiv (IntKind.wrap .u64 (IntKind.wrap .i64 (x20 + x21))) (2 ^ 1))) + 1))), (x21), (x22), ()) w49)
      (jnC C33 ((x0.1, x0.2.1, x0.2.2), (x1), (x2), (x3), (), (x18), (x19), (x20), ((IntKind.wrap .i64 (Int.fdiv (IntKind.wrap .u64 (IntKind.wrap .i64 (x20 + x21))) (2 ^ 1)))), (x22), ()) w49)))
  (vIf (decide (x20 < x2))
    (jnC (F122s.k40 Q) ((x0.1, x0.2.1, x0.2.2), (x1), (x2), (x3), (), (x18), (x20), ((IntKind.wrap .i64 (x19 - x20))), (decide (x2 < (IntKind.wrap .i64 (x19 - x20)))), ()) w)
    (jnC (F122s.k40 Q) ((x0.1, x0.2.1, x0.2.2), (x1), (x2), (x3), (), (x18), (x20), ((IntKind.wrap .i64 (x19 - x20))), false, ()) w))
def F122s.b33 (Q : Value → World → Prop) : ((Option Addr × Nat × Nat) × Int × Int × Int × Unit × Int × Int × Int × Int × Int × Unit) → World → (((Option Addr × Nat × Nat) × Int × Int × Int × Unit × Int × Int × Int × Int × Int × Unit) → World → Prop) → Prop := fun s w C33 => ∀ _ : Nat → Value, F122s.b33c Q C33 s.1 s.2.1 s.2.2.1 s.2.2.2.1 s.2.2.2.2.1 s.2.2.2.2.2.1 s.2.2.2.2.2.2.1 s.2.2.2.2.2.2.2.1 s.2.2.2.2.2.2.2.2.1 s.2.2.2.2.2.2.2.2.2.1 w
def F122s.l33 (Q : Value → World → Prop) : ((Option Addr × Nat × Nat) × Int × Int × Int × Unit × Int × Int × Int × Int × Int × Unit) → World → Prop := fun s w => ∃ n, loopC (F122s.b33 Q) n s w
def F122s.k32c (Q : Value → World → Prop) (x0 : (Option Addr × Nat × Nat)) (x1 : Int) (x2 : Int) (x3 : Int) (x4 : Unit) (x18 : Int) (x19 : Int) (x20 : Int) (x21 : Int) (w : World) : Prop :=
  jnC (F122s.l33 Q) ((x0.1, x0.2.1, x0.2.2), (x1), (x2), (x3), (), (x18), (x19), (x20), (x21), ((IntKind.wrap .i64 (x19 - 1))), ()) w
def F122s.k32 (Q : Value → World → Prop) : ((Option Addr × Nat × Nat) × Int × Int × Int × Unit × Int × Int × Int × Int × Unit) → World → Prop := fun s w => ∀ _ : Nat → Value, F122s.k32c Q s.1 s.2.1 s.2.2.1 s.2.2.2.1 s.2.2.2.2.1 s.2.2.2.2.2.1 s.2.2.2.2.2.2.1 s.2.2.2.2.2.2.2.1 s.2.2.2.2.2.2.2.2.1 w
def F122s.vc (x0A : Option Addr) (x0n x0c : Nat) (x1 : Int) (x2 : Int) (x3 : Int) (w : World) (Q : Value → World → Prop) : Prop :=
  vIf ((IntKind.wrap .i64 (x2 - x1)) == 1)
  (jnC (F122s.l3 Q) ((x0A, x0n, x0c), (x1), (), (x2), (x3), ()) w)
  (vIf ((IntKind.wrap .i64 (x3 - x2)) == 1)
    (jnC (F122s.l15 Q) ((x0A, x0n, x0c), (x2), (), (x1), (x2), ()) w)
    (vIf (decide (x2 > (IntKind.wrap .i64 (Int.fdiv (IntKind.wrap .u64 (IntKind.wrap .i64 (x1 + x3))) (2 ^ 1)))))
      (jnC (F122s.k32 Q) ((x0A, x0n, x0c), (x1), (x2), (x3), (), ((IntKind.wrap .i64 (Int.fdiv (IntKind.wrap .u64 (IntKind.wrap .i64 (x1 + x3))) (2 ^ 1)))), ((IntKind.wrap .i64 ((IntKind.wrap .i64 (Int.fdiv (IntKind.wrap .u64 (IntKind.wrap .i64 (x1 + x3))) (2 ^ 1))) + x2))), ((IntKind.wrap .i64 ((IntKind.wrap .i64 ((IntKind.wrap .i64 (Int.fdiv (IntKind.wrap .u64 (IntKind.wrap .i64 (x1 + x3))) (2 ^ 1))) + x2)) - x3))), ((IntKind.wrap .i64 (Int.fdiv (IntKind.wrap .u64 (IntKind.wrap .i64 (x1 + x3))) (2 ^ 1)))), ()) w)
      (jnC (F122s.k32 Q) ((x0A, x0n, x0c), (x1), (x2), (x3), (), ((IntKind.wrap .i64 (Int.fdiv (IntKind.wrap .u64 (IntKind.wrap .i64 (x1 + x3))) (2 ^ 1)))), ((IntKind.wrap .i64 ((IntKind.wrap .i64 (Int.fdiv (IntKind.wrap .u64 (IntKind.wrap .i64 (x1 + x3))) (2 ^ 1))) + x2))), (x1), (x2), ()) w)))
def F122s.an : Ann := ⟨[(3, [(0, .kSl), (1, .kI .i64), (4, .kF 52), (10, .kI .i64), (11, .kI .i64)]), (9, [(0, .kSl), (10, .kI .i64), (13, .kI .i64)]), (15, [(0, .kSl), (2, .kI .i64), (4, .kF 52), (14, .kI .i64), (15, .kI .i64)]), (21, [(0, .kSl), (14, .kI .i64), (17, .kI .i64)]), (33, [(0, .kSl), (1, .kI .i64), (2, .kI .i64), (3, .kI .i64), (4, .kF 52), (18, .kI .i64), (19, .kI .i64), (20, .kI .i64), (21, .kI .i64), (22, .kI .i64)])], [(32, [(0, .kSl), (1, .kI .i64), (2, .kI .i64), (3, .kI .i64), (4, .kF 52), (18, .kI .i64), (19, .kI .i64), (20, .kI .i64), (21, .kI .i64)]), (40, [(0, .kSl), (1, .kI .i64), (2, .kI .i64), (3, .kI .i64), (4, .kF 52), (18, .kI .i64), (20, .kI .i64), (24, .kI .i64), (185, .kB)]), (41, [(0, .kSl), (1, .kI .i64), (3, .kI .i64), (4, .kF 52), (18, .kI .i64), (20, .kI .i64), (24, .kI .i64)]), (42, [(0, .kSl), (1, .kI .i64), (3, .kI .i64), (4, .kF 52), (18, .kI .i64), (20, .kI .i64), (24, .kI .i64), (199, .kB)]), (43, [(0, .kSl), (3, .kI .i64), (4, .kF 52), (18, .kI .i64), (24, .kI .i64)]), (44, [(0, .kSl), (3, .kI .i64), (4, .kF 52), (18, .kI .i64), (24, .kI .i64), (213, .kB)])]⟩
theorem F122s.of (x0A : Option Addr) (x0n x0c : Nat) (x1 : Int) (x2 : Int) (x3 : Int) (w : World) {Q : Value → World → Prop} (h : F122s.vc x0A x0n x0c x1 x2 x3 w Q) : Calls Tryz.prog 122 #[Value.slice x0A x0n x0c, Value.int .i64 x1, Value.int .i64 x2, Value.int .i64 x3, Value.func (.func 52) #[] #[]] w (fun e w' => ∃ v, e = .returned v ∧ Q v w') := vcFn_of (A := F122s.an) noCount mixed h (by kernel_rfl)
end Go.Proofs.YthcclmlbkfadcaaGreat
/- PRINTED BY MY OWN gen.py out of the translation: each function as a proposition. -/
namespace Go.Proofs.YthcclmlbkfadcaaGreat
open Go.GV
set_option linter.unusedVariables false
set_option maxRecDepth 100000
/-! ### function 124: slices.BinarySearchFunc[[]stillage/api.TagEntry,stillage/api.TagEntry,string] -/
def F124s.b3c (Q : Value → World → Prop) (C3 : ((Option Addr × Nat × Nat) × ByteArray × Unit × Int × Int × Int × Unit) → World → Prop) (x0 : (Option Addr × Nat × Nat)) (x1 : ByteArray) (x2 : Unit) (x8 : Int) (x9 : Int) (x10 : Int) (w : World) : Prop :=
  vIf (decide (x9 < x10))
  (dr x0.1 fun b1 o2 =>
    gd (decide (0 ≤ (IntKind.wrap .i64 (Int.fdiv (IntKind.wrap .u64 (IntKind.wrap .i64 (x9 + x10))) (2 ^ 1))))) <|
    gd (decide ((IntKind.wrap .i64 (Int.fdiv (IntKind.wrap .u64 (IntKind.wrap .i64 (x9 + x10))) (2 ^ 1))) < ((x0.2.1 : Nat) : Int))) <|
    ldA 38 w b1 (o2 + ((IntKind.wrap .i64 (Int.fdiv (IntKind.wrap .u64 (IntKind.wrap .i64 (x9 + x10))) (2 ^ 1)))).toNat * 38) fun a3 =>
    Calls Tryz.prog 125 #[ofL a3, Value.string x1] w fun e5 w4 =>
    ∃ i6 : Int, e5 = .returned (Value.int .i64 i6) ∧ (
      vIf (decide (i6 < 0))
      (jnC C3 ((x0.1, x0.2.1, x0.2.2), x1, (), (x8), ((IntKind.wrap .i64 ((IntKind.wrap .i64 (Int.fdiv (IntKind.wrap .u64 (IntKind.wrap .i64 (x9 + x10))) (2 ^ 1))) + 1))), (x10), ()) w4)
      (jnC C3 ((x0.1, x0.2.1, x0.2.2), x1, (), (x8), (x9), ((IntKind.wrap .i64 (Int.fdiv (IntKind.wrap .u64 (IntKind.wrap .i64 (x9 + x10))) (2 ^ 1)))), ()) w4)))
  (vIf (decide (x9 < x8))
    (dr x0.1 fun b7 o8 =>
      gd (decide (0 ≤ x9)) <|
      gd (decide (x9 < ((x0.2.1 : Nat) : Int))) <|
      ldA 38 w b7 (o8 + (x9).toNat * 38) fun a9 =>
      Calls Tryz.prog 125 #[ofL a9, Value.string x1] w fun e11 w10 =>
      ∃ i12 : Int, e11 = .returned (Value.int .i64 i12) ∧ (
        Q (Value.tuple #[Value.int .i64 x9, Value.bool (i12 == 0)]) w10))
    (Q (Value.tuple #[Value.int .i64 x9, Value.bool false]) w))
def F124s.b3 (Q : Value → World → Prop) : ((Option Addr × Nat × Nat) × ByteArray × Unit × Int × Int × Int × Unit) → World → (((Option Addr × Nat × Nat) × ByteArray × Unit × Int × Int × Int × Unit) → World → Prop) → Prop := fun s w C3 => ∀ _ : Nat → Value, F124s.b3c Q C3 s.1 s.2.1 s.2.2.1 s.2.2.2.1 s.2.2.2.2.1 s.2.2.2.2.2.1 w
def F124s.l3 (Q : Value → World → Prop) : ((Option Addr × Nat × Nat) × ByteArray × Unit × Int × Int × Int × Unit) → World → Prop := fun s w => ∃ n, loopC (F124s.b3 Q) n s w
def F124s.vc (x0A : Option Addr) (x0n x0c : Nat) (x1 : ByteArray) (w : World) (Q : Value → World → Prop) : Prop :=
  jnC (F124s.l3 Q) ((x0A, x0n, x0c), x1, (), (((x0n : Nat) : Int)), (0), (((x0n : Nat) : Int)), ()) w
def F124s.an : Ann := ⟨[(3, [(0, .kSl), (1, .kS), (2, .kF 125), (8, .kI .i64), (9, .kI .i64), (10, .kI .i64)])], []⟩
theorem F124s.of (x0A : Option Addr) (x0n x0c : Nat) (x1 : ByteArray) (w : World) {Q : Value → World → Prop} (h : F124s.vc x0A x0n x0c x1 w Q) : Calls Tryz.prog 124 #[Value.slice x0A x0n x0c, Value.string x1, Value.func (.func 125) #[] #[]] w (fun e w' => ∃ v, e = .returned v ∧ Q v w') := vcFn_of (A := F124s.an) noCount mixed h (by kernel_rfl)
/-! ### function 125: (*stillage/tags.Tags).place$1 -/
def F125.vc (x0 : List Value) (x1 : ByteArray) (w : World) (Q : Value → World → Prop) : Prop :=
  nw w x0 53 fun b1 w2 =>
  ldS w2 b1 0 fun s3 =>
  Calls Tryz.prog 126 #[Value.string s3, Value.string x1] w2 fun e5 w4 =>
  ∃ i6 : Int, e5 = .returned (Value.int .i64 i6) ∧ (
    Q (Value.int .i64 i6) w4)
def F125.an : Ann := ⟨[], []⟩
theorem F125.of (x0 : List Value) (x1 : ByteArray) (w : World) {Q : Value → World → Prop} (h : F125.vc x0 x1 w Q) : Calls Tryz.prog 125 #[ofL x0, Value.string x1] w (fun e w' => ∃ v, e = .returned v ∧ Q v w') := vcFn_of (A := F125.an) noCount mixed h (by kernel_rfl)
/-! ### function 126: strings.Compare -/
def F126.vc (x0 : ByteArray) (x1 : ByteArray) (w : World) (Q : Value → World → Prop) : Prop :=
  Calls Tryz.prog 146 #[Value.string x0, Value.string x1] w fun e2 w1 =>
  ∃ i3 : Int, e2 = .returned (Value.int .i64 i3) ∧ (
    Q (Value.int .i64 i3) w1)
def F126.an : Ann := ⟨[], []⟩
theorem F126.of (x0 : ByteArray) (x1 : ByteArray) (w : World) {Q : Value → World → Prop} (h : F126.vc x0 x1 w Q) : Calls Tryz.prog 126 #[Value.string x0, Value.string x1] w (fun e w' => ∃ v, e = .returned v ∧ Q v w') := vcFn_of (A := F126.an) noCount mixed h (by kernel_rfl)
/-! ### function 135: (*stillage/slots.Table[stillage/api.Entry]).home -/
def F135.vc (x0 : Option Addr) (x1 : List Value) (w : World) (Q : Value → World → Prop) : Prop :=
  nw w x1 33 fun b1 w2 =>
  ldI .u8 w2.drew b1 0 fun i3 =>
  ldI .u8 w2.drew b1 (0 + 1) fun i4 =>
  dr x0 fun b5 o6 =>
  ldSl w2.drew b5 o6 fun A7 n8 c9 =>
  gd (decide (((n8 : Nat) : Int) ≠ 0)) <|
  Q (Value.int .i64 (Int.tmod (iOr .i64 (IntKind.wrap .i64 i3) (IntKind.wrap .i64 ((IntKind.wrap .i64 i4) * 2 ^ 8))) ((n8 : Nat) : Int))) w2.drew
def F135.an : Ann := ⟨[], []⟩
theorem F135.of (x0 : Option Addr) (x1 : List Value) (w : World) {Q : Value → World → Prop} (h : F135.vc x0 x1 w Q) : Calls Tryz.prog 135 #[Value.pointer x0, ofL x1] w (fun e w' => ∃ v, e = .returned v ∧ Q v w') := vcFn_of (A := F135.an) noCount mixed h (by kernel_rfl)
/-! ### function 137: slices.Concat[[]int,int] -/
def F137.b11c (Q : Value → World → Prop) (C11 : ((Option Addr × Nat × Nat) × (Option Addr × Nat × Nat) × Int × Int × Unit) → World → Prop) (x6 : (Option Addr × Nat × Nat)) (x25 : (Option Addr × Nat × Nat)) (x26 : Int) (x27 : Int) (w : World) : Prop :=
  vIf (decide (x27 < x26))
  (dr x25.1 fun b11 o12 =>
    gd (decide (0 ≤ x27)) <|
    gd (decide (x27 < ((x25.2.1 : Nat) : Int))) <|
    ldSl w b11 (o12 + (x27).toNat * 1) fun A13 n14 c15 =>
    app w 1 8 [Value.int .i64 0] 3 x6.1 x6.2.1 x6.2.2 (Value.slice A13 n14 c15) fun A16 n17 c18 w19 =>
    jnC C11 ((A16, n17, c18), (x25.1, x25.2.1, x25.2.2), (x26), ((IntKind.wrap .i64 (x27 + 1))), ()) w19)
  (Q (Value.slice x6.1 x6.2.1 x6.2.2) w)
def F137.b11 (Q : Value → World → Prop) : ((Option Addr × Nat × Nat) × (Option Addr × Nat × Nat) × Int × Int × Unit) → World → (((Option Addr × Nat × Nat) × (Option Addr × Nat × Nat) × Int × Int × Unit) → World → Prop) → Prop := fun s w C11 => ∀ _ : Nat → Value, F137.b11c Q C11 s.1 s.2.1 s.2.2.1 s.2.2.2.1 w
def F137.l11 (Q : Value → World → Prop) : ((Option Addr × Nat × Nat) × (Option Addr × Nat × Nat) × Int × Int × Unit) → World → Prop := fun s w => ∃ n, loopC (F137.b11 Q) n s w
def F137.b3c (Q : Value → World → Prop) (C3 : ((Option Addr × Nat × Nat) × Int × (Option Addr × Nat × Nat) × Int × Int × Unit) → World → Prop) (x0 : (Option Addr × Nat × Nat)) (x3 : Int) (x9 : (Option Addr × Nat × Nat)) (x10 : Int) (x11 : Int) (w : World) : Prop :=
  vIf (decide (x11 < x10))
  (dr x9.1 fun b1 o2 =>
    gd (decide (0 ≤ x11)) <|
    gd (decide (x11 < ((x9.2.1 : Nat) : Int))) <|
    ldSl w b1 (o2 + (x11).toNat * 1) fun A3 n4 c5 =>
    vIf (decide ((IntKind.wrap .i64 (x3 + ((n4 : Nat) : Int))) < 0))
    (False)
    (jnC C3 ((x0.1, x0.2.1, x0.2.2), ((IntKind.wrap .i64 (x3 + ((n4 : Nat) : Int)))), (x9.1, x9.2.1, x9.2.2), (x10), ((IntKind.wrap .i64 (x11 + 1))), ()) w))
  (Calls Tryz.prog 151 #[Value.slice none 0 0, Value.int .i64 x3] w fun e7 w6 =>
    ∃ (A8 : Option Addr) (n9 c10 : Nat), e7 = .returned (Value.slice A8 n9 c10) ∧ (
      jnC (F137.l11 Q) ((A8, n9, c10), (x0.1, x0.2.1, x0.2.2), (((x0.2.1 : Nat) : Int)), (0), ()) w6))
def F137.b3 (Q : Value → World → Prop) : ((Option Addr × Nat × Nat) × Int × (Option Addr × Nat × Nat) × Int × Int × Unit) → World → (((Option Addr × Nat × Nat) × Int × (Option Addr × Nat × Nat) × Int × Int × Unit) → World → Prop) → Prop := fun s w C3 => ∀ _ : Nat → Value, F137.b3c Q C3 s.1 s.2.1 s.2.2.1 s.2.2.2.1 s.2.2.2.2.1 w
def F137.l3 (Q : Value → World → Prop) : ((Option Addr × Nat × Nat) × Int × (Option Addr × Nat × Nat) × Int × Int × Unit) → World → Prop := fun s w => ∃ n, loopC (F137.b3 Q) n s w
def F137.vc (x0A : Option Addr) (x0n x0c : Nat) (w : World) (Q : Value → World → Prop) : Prop :=
  jnC (F137.l3 Q) ((x0A, x0n, x0c), (0), (x0A, x0n, x0c), (((x0n : Nat) : Int)), (0), ()) w
def F137.an : Ann := ⟨[(3, [(0, .kSl), (3, .kI .i64), (9, .kSl), (10, .kI .i64), (11, .kI .i64)]), (11, [(6, .kSl), (25, .kSl), (26, .kI .i64), (27, .kI .i64)])], []⟩
theorem F137.of (x0A : Option Addr) (x0n x0c : Nat) (w : World) {Q : Value → World → Prop} (h : F137.vc x0A x0n x0c w Q) : Calls Tryz.prog 137 #[Value.slice x0A x0n x0c] w (fun e w' => ∃ v, e = .returned v ∧ Q v w') := vcFn_of (A := F137.an) noCount mixed h (by kernel_rfl)
/-! ### function 139: slices.Compact[[]int,int] -/
def F139.k15c (Q : Value → World → Prop) (C4 : ((Option Addr × Nat × Nat) × Int × Unit) → World → Prop) (x0 : (Option Addr × Nat × Nat)) (x3 : Int) (w : World) : Prop :=
  gd (decide (0 ≤ x3)) <|
  gd (decide (x3 ≤ ((x0.2.2 : Nat) : Int))) <|
  Q (Value.slice (slA x0.1 x0.2.2 0 1) (x3).toNat x0.2.2) w
def F139.k15 (Q : Value → World → Prop) (C4 : ((Option Addr × Nat × Nat) × Int × Unit) → World → Prop) : ((Option Addr × Nat × Nat) × Int × Unit) → World → Prop := fun s w => ∀ _ : Nat → Value, F139.k15c Q C4 s.1 s.2.1 w
def F139.b9c (Q : Value → World → Prop) (C4 : ((Option Addr × Nat × Nat) × Int × Unit) → World → Prop) (C9 : ((Option Addr × Nat × Nat) × Int × (Option Addr × Nat × Nat) × Int × Unit) → World → Prop) (x0 : (Option Addr × Nat × Nat)) (x3 : Int) (x4 : (Option Addr × Nat × Nat)) (x5 : Int) (w : World) : Prop :=
  vIf (decide (x5 < ((x4.2.1 : Nat) : Int)))
  (dr x4.1 fun b7 o8 =>
    gd (decide (0 ≤ x5)) <|
    gd (decide (x5 < ((x4.2.1 : Nat) : Int))) <|
    ldI .i64 w.drew b7 (o8 + (x5).toNat * 1) fun i9 =>
    dr x4.1 fun b10 o11 =>
    gd (decide (0 ≤ (IntKind.wrap .i64 (x5 - 1)))) <|
    gd (decide ((IntKind.wrap .i64 (x5 - 1)) < ((x4.2.1 : Nat) : Int))) <|
    ldI .i64 w.drew b10 (o11 + ((IntKind.wrap .i64 (x5 - 1))).toNat * 1) fun i12 =>
    vIf (i9 != i12)
    (dr x4.1 fun b13 o14 =>
      gd (decide (0 ≤ x5)) <|
      gd (decide (x5 < ((x4.2.1 : Nat) : Int))) <|
      ldI .i64 w.drew b13 (o14 + (x5).toNat * 1) fun i15 =>
      dr x0.1 fun b16 o17 =>
      gd (decide (0 ≤ x3)) <|
      gd (decide (x3 < ((x0.2.1 : Nat) : Int))) <|
      st w.drew b16 (o17 + (x3).toNat * 1) [Value.int .i64 i15] fun w18 =>
      jnC C9 ((x0.1, x0.2.1, x0.2.2), ((IntKind.wrap .i64 (x3 + 1))), (x4.1, x4.2.1, x4.2.2), ((IntKind.wrap .i64 (x5 + 1))), ()) w18)
    (jnC C9 ((x0.1, x0.2.1, x0.2.2), (x3), (x4.1, x4.2.1, x4.2.2), ((IntKind.wrap .i64 (x5 + 1))), ()) w.drew))
  (gd (decide (0 ≤ x3)) <|
    gd (decide (x3 ≤ ((x0.2.1 : Nat) : Int))) <|
    vIf ((x0.2.1 - (x3).toNat) == 0)
    (jnC (F139.k15 Q C4) ((x0.1, x0.2.1, x0.2.2), (x3), ()) w)
    (dr (slA x0.1 x0.2.2 (x3).toNat 1) fun b20 o21 =>
      st w b20 o21 (zeros (x0.2.1 - (x3).toNat) [Value.int .i64 0]) fun w19 =>
      jnC (F139.k15 Q C4) ((x0.1, x0.2.1, x0.2.2), (x3), ()) w19))
def F139.b9 (Q : Value → World → Prop) (C4 : ((Option Addr × Nat × Nat) × Int × Unit) → World → Prop) : ((Option Addr × Nat × Nat) × Int × (Option Addr × Nat × Nat) × Int × Unit) → World → (((Option Addr × Nat × Nat) × Int × (Option Addr × Nat × Nat) × Int × Unit) → World → Prop) → Prop := fun s w C9 => ∀ _ : Nat → Value, F139.b9c Q C4 C9 s.1 s.2.1 s.2.2.1 s.2.2.2.1 w
def F139.l9 (Q : Value → World → Prop) (C4 : ((Option Addr × Nat × Nat) × Int × Unit) → World → Prop) : ((Option Addr × Nat × Nat) × Int × (Option Addr × Nat × Nat) × Int × Unit) → World → Prop := fun s w => ∃ n, loopC (F139.b9 Q C4) n s w
def F139.b4c (Q : Value → World → Prop) (C4 : ((Option Addr × Nat × Nat) × Int × Unit) → World → Prop) (x0 : (Option Addr × Nat × Nat)) (x3 : Int) (w : World) : Prop :=
  vIf (decide (x3 < ((x0.2.1 : Nat) : Int)))
  (dr x0.1 fun b1 o2 =>
    gd (decide (0 ≤ x3)) <|
    gd (decide (x3 < ((x0.2.1 : Nat) : Int))) <|
    ldI .i64 w.drew b1 (o2 + (x3).toNat * 1) fun i3 =>
    dr x0.1 fun b4 o5 =>
    gd (decide (0 ≤ (IntKind.wrap .i64 (x3 - 1)))) <|
    gd (decide ((IntKind.wrap .i64 (x3 - 1)) < ((x0.2.1 : Nat) : Int))) <|
    ldI .i64 w.drew b4 (o5 + ((IntKind.wrap .i64 (x3 - 1))).toNat * 1) fun i6 =>
    vIf (i3 == i6)
    (gd (decide (0 ≤ x3)) <|
      gd (decide (x3 ≤ ((x0.2.1 : Nat) : Int))) <|
      jnC (F139.l9 Q C4) ((x0.1, x0.2.1, x0.2.2), (x3), ((slA x0.1 x0.2.2 (x3).toNat 1), (x0.2.1 - (x3).toNat), (x0.2.2 - (x3).toNat)), (1), ()) w.drew)
    (jnC C4 ((x0.1, x0.2.1, x0.2.2), ((IntKind.wrap .i64 (x3 + 1))), ()) w.drew))
  (Q (Value.slice x0.1 x0.2.1 x0.2.2) w)
def F139.b4 (Q : Value → World → Prop) : ((Option Addr × Nat × Nat) × Int × Unit) → World → (((Option Addr × Nat × Nat) × Int × Unit) → World → Prop) → Prop := fun s w C4 => ∀ _ : Nat → Value, F139.b4c Q C4 s.1 s.2.1 w
def F139.l4 (Q : Value → World → Prop) : ((Option Addr × Nat × Nat) × Int × Unit) → World → Prop := fun s w => ∃ n, loopC (F139.b4 Q) n s w
def F139.vc (x0A : Option Addr) (x0n x0c : Nat) (w : World) (Q : Value → World → Prop) : Prop :=
  vIf (decide (((x0n : Nat) : Int) < 2))
  (Q (Value.slice x0A x0n x0c) w)
  (jnC (F139.l4 Q) ((x0A, x0n, x0c), (1), ()) w)
def F139.an : Ann := ⟨[(4, [(0, .kSl), (3, .kI .i64)]), (9, [(0, .kSl), (3, .kI .i64), (4, .kSl), (5, .kI .i64)])], [(15, [(0, .kSl), (3, .kI .i64)])]⟩
theorem F139.of (x0A : Option Addr) (x0n x0c : Nat) (w : World) {Q : Value → World → Prop} (h : F139.vc x0A x0n x0c w Q) : Calls Tryz.prog 139 #[Value.slice x0A x0n x0c] w (fun e w' => ∃ v, e = .returned v ∧ Q v w') := vcFn_of (A := F139.an) noCount mixed h (by kernel_rfl)
/-! ### function 140: slices.Clone[[]stillage/api.Digest,stillage/api.Digest] -/
def F140.vc (x0A : Option Addr) (x0n x0c : Nat) (w : World) (Q : Value → World → Prop) : Prop :=
  vIf x0A.isNone
  (Q (Value.slice none 0 0) w)
  (nw w [] 33 fun b1 w2 =>
    app w2 32 32 Z33 33 (some ⟨b1, 0, none⟩) 0 0 (Value.slice x0A x0n x0c) fun A3 n4 c5 w6 =>
    Q (Value.slice A3 n4 c5) w6)
def F140.an : Ann := ⟨[], []⟩
theorem F140.of (x0A : Option Addr) (x0n x0c : Nat) (w : World) {Q : Value → World → Prop} (h : F140.vc x0A x0n x0c w Q) : Calls Tryz.prog 140 #[Value.slice x0A x0n x0c] w (fun e w' => ∃ v, e = .returned v ∧ Q v w') := vcFn_of (A := F140.an) noCount mixed h (by kernel_rfl)
/-! ### function 142: stillage/digest.Cmp -/
def F142.vc (x0 : List Value) (x1 : List Value) (w : World) (Q : Value → World → Prop) : Prop :=
  nw w x0 33 fun b1 w2 =>
  nw w2 x1 33 fun b3 w4 =>
  ldA 32 w4 b1 0 fun a5 =>
  ldA 32 w4 b3 0 fun a6 =>
  eqAB 32 a5 a6 fun t7 =>
  vIf t7
  (Q (Value.int .i64 0) w4)
  (Calls Tryz.prog 155 #[Value.slice (some ⟨b1, 0, none⟩) 32 32, Value.slice (some ⟨b3, 0, none⟩) 32 32] w4.drew fun e9 w8 =>
    ∃ i10 : Int, e9 = .returned (Value.int .i64 i10) ∧ (
      Q (Value.int .i64 i10) w8))
def F142.an : Ann := ⟨[], []⟩
theorem F142.of (x0 : List Value) (x1 : List Value) (w : World) {Q : Value → World → Prop} (h : F142.vc x0 x1 w Q) : Calls Tryz.prog 142 #[ofL x0, ofL x1] w (fun e w' => ∃ v, e = .returned v ∧ Q v w') := vcFn_of (A := F142.an) noCount mixed h (by kernel_rfl)
/-! ### function 143: slices.Compact[[]stillage/api.Digest,stillage/api.Digest] -/
def F143.k15c (Q : Value → World → Prop) (C4 : ((Option Addr × Nat × Nat) × Int × Unit) → World → Prop) (x0 : (Option Addr × Nat × Nat)) (x3 : Int) (w : World) : Prop :=
  gd (decide (0 ≤ x3)) <|
  gd (decide (x3 ≤ ((x0.2.2 : Nat) : Int))) <|
  Q (Value.slice (slA x0.1 x0.2.2 0 32) (x3).toNat x0.2.2) w
def F143.k15 (Q : Value → World → Prop) (C4 : ((Option Addr × Nat × Nat) × Int × Unit) → World → Prop) : ((Option Addr × Nat × Nat) × Int × Unit) → World → Prop := fun s w => ∀ _ : Nat → Value, F143.k15c Q C4 s.1 s.2.1 w
def F143.b9c (Q : Value → World → Prop) (C4 : ((Option Addr × Nat × Nat) × Int × Unit) → World → Prop) (C9 : ((Option Addr × Nat × Nat) × Int × (Option Addr × Nat × Nat) × Int × Unit) → World → Prop) (x0 : (Option Addr × Nat × Nat)) (x3 : Int) (x4 : (Option Addr × Nat × Nat)) (x5 : Int) (w : World) : Prop :=
  vIf (decide (x5 < ((x4.2.1 : Nat) : Int)))
  (dr x4.1 fun b8 o9 =>
    gd (decide (0 ≤ x5)) <|
    gd (decide (x5 < ((x4.2.1 : Nat) : Int))) <|
    ldA 32 w.drew b8 (o9 + (x5).toNat * 32) fun a10 =>
    dr x4.1 fun b11 o12 =>
    gd (decide (0 ≤ (IntKind.wrap .i64 (x5 - 1)))) <|
    gd (decide ((IntKind.wrap .i64 (x5 - 1)) < ((x4.2.1 : Nat) : Int))) <|
    ldA 32 w.drew b11 (o12 + ((IntKind.wrap .i64 (x5 - 1))).toNat * 32) fun a13 =>
    eqAB 32 a10 a13 fun t14 =>
    vIf (!t14)
    (dr x4.1 fun b15 o16 =>
      gd (decide (0 ≤ x5)) <|
      gd (decide (x5 < ((x4.2.1 : Nat) : Int))) <|
      ldA 32 w.drew b15 (o16 + (x5).toNat * 32) fun a17 =>
      dr x0.1 fun b18 o19 =>
      gd (decide (0 ≤ x3)) <|
      gd (decide (x3 < ((x0.2.1 : Nat) : Int))) <|
      gd (a17.length == 32) <|
      st w.drew b18 (o19 + (x3).toNat * 32) a17 fun w20 =>
      jnC C9 ((x0.1, x0.2.1, x0.2.2), ((IntKind.wrap .i64 (x3 + 1))), (x4.1, x4.2.1, x4.2.2), ((IntKind.wrap .i64 (x5 + 1))), ()) w20)
    (jnC C9 ((x0.1, x0.2.1, x0.2.2), (x3), (x4.1, x4.2.1, x4.2.2), ((IntKind.wrap .i64 (x5 + 1))), ()) w.drew))
  (gd (decide (0 ≤ x3)) <|
    gd (decide (x3 ≤ ((x0.2.1 : Nat) : Int))) <|
    vIf ((x0.2.1 - (x3).toNat) == 0)
    (jnC (F143.k15 Q C4) ((x0.1, x0.2.1, x0.2.2), (x3), ()) w)
    (dr (slA x0.1 x0.2.2 (x3).toNat 32) fun b22 o23 =>
      st w b22 o23 (zeros (x0.2.1 - (x3).toNat) Z33) fun w21 =>
      jnC (F143.k15 Q C4) ((x0.1, x0.2.1, x0.2.2), (x3), ()) w21))
def F143.b9 (Q : Value → World → Prop) (C4 : ((Option Addr × Nat × Nat) × Int × Unit) → World → Prop) : ((Option Addr × Nat × Nat) × Int × (Option Addr × Nat × Nat) × Int × Unit) → World → (((Option Addr × Nat × Nat) × Int × (Option Addr × Nat × Nat) × Int × Unit) → World → Prop) → Prop := fun s w C9 => ∀ _ : Nat → Value, F143.b9c Q C4 C9 s.1 s.2.1 s.2.2.1 s.2.2.2.1 w
def F143.l9 (Q : Value → World → Prop) (C4 : ((Option Addr × Nat × Nat) × Int × Unit) → World → Prop) : ((Option Addr × Nat × Nat) × Int × (Option Addr × Nat × Nat) × Int × Unit) → World → Prop := fun s w => ∃ n, loopC (F143.b9 Q C4) n s w
def F143.b4c (Q : Value → World → Prop) (C4 : ((Option Addr × Nat × Nat) × Int × Unit) → World → Prop) (x0 : (Option Addr × Nat × Nat)) (x3 : Int) (w : World) : Prop :=
  vIf (decide (x3 < ((x0.2.1 : Nat) : Int)))
  (dr x0.1 fun b1 o2 =>
    gd (decide (0 ≤ x3)) <|
    gd (decide (x3 < ((x0.2.1 : Nat) : Int))) <|
    ldA 32 w.drew b1 (o2 + (x3).toNat * 32) fun a3 =>
    dr x0.1 fun b4 o5 =>
    gd (decide (0 ≤ (IntKind.wrap .i64 (x3 - 1)))) <|
    gd (decide ((IntKind.wrap .i64 (x3 - 1)) < ((x0.2.1 : Nat) : Int))) <|
    ldA 32 w.drew b4 (o5 + ((IntKind.wrap .i64 (x3 - 1))).toNat * 32) fun a6 =>
    eqAB 32 a3 a6 fun t7 =>
    vIf t7
    (gd (decide (0 ≤ x3)) <|
      gd (decide (x3 ≤ ((x0.2.1 : Nat) : Int))) <|
      jnC (F143.l9 Q C4) ((x0.1, x0.2.1, x0.2.2), (x3), ((slA x0.1 x0.2.2 (x3).toNat 32), (x0.2.1 - (x3).toNat), (x0.2.2 - (x3).toNat)), (1), ()) w.drew)
    (jnC C4 ((x0.1, x0.2.1, x0.2.2), ((IntKind.wrap .i64 (x3 + 1))), ()) w.drew))
  (Q (Value.slice x0.1 x0.2.1 x0.2.2) w)
def F143.b4 (Q : Value → World → Prop) : ((Option Addr × Nat × Nat) × Int × Unit) → World → (((Option Addr × Nat × Nat) × Int × Unit) → World → Prop) → Prop := fun s w C4 => ∀ _ : Nat → Value, F143.b4c Q C4 s.1 s.2.1 w
def F143.l4 (Q : Value → World → Prop) : ((Option Addr × Nat × Nat) × Int × Unit) → World → Prop := fun s w => ∃ n, loopC (F143.b4 Q) n s w
def F143.vc (x0A : Option Addr) (x0n x0c : Nat) (w : World) (Q : Value → World → Prop) : Prop :=
  vIf (decide (((x0n : Nat) : Int) < 2))
  (Q (Value.slice x0A x0n x0c) w)
  (jnC (F143.l4 Q) ((x0A, x0n, x0c), (1), ()) w)
def F143.an : Ann := ⟨[(4, [(0, .kSl), (3, .kI .i64)]), (9, [(0, .kSl), (3, .kI .i64), (4, .kSl), (5, .kI .i64)])], [(15, [(0, .kSl), (3, .kI .i64)])]⟩
theorem F143.of (x0A : Option Addr) (x0n x0c : Nat) (w : World) {Q : Value → World → Prop} (h : F143.vc x0A x0n x0c w Q) : Calls Tryz.prog 143 #[Value.slice x0A x0n x0c] w (fun e w' => ∃ v, e = .returned v ∧ Q v w') := vcFn_of (A := F143.an) noCount mixed h (by kernel_rfl)
/-! ### function 144: slices.IndexFunc[[]int,int] -/
def F144s.b2c (Q : Value → World → Prop) (C2 : ((Option Addr × Nat × Nat) × (Nat × Nat) × Int × Int × Unit) → World → Prop) (x0 : (Option Addr × Nat × Nat)) (x1 : (Nat × Nat)) (x7 : Int) (x8 : Int) (w : World) : Prop :=
  vIf (decide (x8 < x7))
  (dr x0.1 fun b1 o2 =>
    gd (decide (0 ≤ x8)) <|
    gd (decide (x8 < ((x0.2.1 : Nat) : Int))) <|
    ldI .i64 w b1 (o2 + (x8).toNat * 1) fun i3 =>
    Calls Tryz.prog 120 #[Value.int .i64 i3, Value.pointer (some ⟨x1.1, x1.2, none⟩)] w fun e5 w4 =>
    ∃ t6 : Bool, e5 = .returned (Value.bool t6) ∧ (
      vIf t6
      (Q (Value.int .i64 x8) w4)
      (jnC C2 ((x0.1, x0.2.1, x0.2.2), (x1.1, x1.2), (x7), ((IntKind.wrap .i64 (x8 + 1))), ()) w4)))
  (Q (Value.int .i64 (-1)) w)
def F144s.b2 (Q : Value → World → Prop) : ((Option Addr × Nat × Nat) × (Nat × Nat) × Int × Int × Unit) → World → (((Option Addr × Nat × Nat) × (Nat × Nat) × Int × Int × Unit) → World → Prop) → Prop := fun s w C2 => ∀ _ : Nat → Value, F144s.b2c Q C2 s.1 s.2.1 s.2.2.1 s.2.2.2.1 w
def F144s.l2 (Q : Value → World → Prop) : ((Option Addr × Nat × Nat) × (Nat × Nat) × Int × Int × Unit) → World → Prop := fun s w => ∃ n, loopC (F144s.b2 Q) n s w
def F144s.vc (x0A : Option Addr) (x0n x0c : Nat) (x1 : Nat × Nat) (w : World) (Q : Value → World → Prop) : Prop :=
  jnC (F144s.l2 Q) ((x0A, x0n, x0c), (x1.1, x1.2), (((x0n : Nat) : Int)), (0), ()) w
def F144s.an : Ann := ⟨[(2, [(0, .kSl), (1, .kG 120), (7, .kI .i64), (8, .kI .i64)])], []⟩
theorem F144s.of (x0A : Option Addr) (x0n x0c : Nat) (x1 : Nat × Nat) (w : World) {Q : Value → World → Prop} (h : F144s.vc x0A x0n x0c x1 w Q) : Calls Tryz.prog 144 #[Value.slice x0A x0n x0c, Value.func (.func 120) #[] #[Value.pointer (some ⟨x1.1, x1.2, none⟩)]] w (fun e w' => ∃ v, e = .returned v ∧ Q v w') := vcFn_of (A := F144s.an) noCount mixed h (by kernel_rfl)
/-! ### function 145: slices.rotateCmpFunc[stillage/api.Word] -/
def F145s.b2c (Q : Value → World → Prop) (C2 : ((Option Addr × Nat × Nat) × Int × Unit × Int × Int × Unit) → World → Prop) (x0 : (Option Addr × Nat × Nat)) (x2 : Int) (x4 : Unit) (x10 : Int) (x11 : Int) (w : World) : Prop :=
  vIf (x10 != x11)
  (vIf (decide (x10 > x11))
    (Calls Tryz.prog 156 #[Value.slice x0.1 x0.2.1 x0.2.2, Value.int .i64 (IntKind.wrap .i64 (x2 - x10)), Value.int .i64 x2, Value.int .i64 x11, Value.func (.func 52) #[] #[]] w fun e2 w1 =>
      e2 = .returned (Value.tuple #[]) ∧ (
        jnC C2 ((x0.1, x0.2.1, x0.2.2), (x2), (), ((IntKind.wrap .i64 (x10 - x11))), (x11), ()) w1))
    (Calls Tryz.prog 156 #[Value.slice x0.1 x0.2.1 x0.2.2, Value.int .i64 (IntKind.wrap .i64 (x2 - x10)), Value.int .i64 (IntKind.wrap .i64 ((IntKind.wrap .i64 (x2 + x11)) - x10)), Value.int .i64 x10, Value.func (.func 52) #[] #[]] w fun e4 w3 =>
      e4 = .returned (Value.tuple #[]) ∧ (
        jnC C2 ((x0.1, x0.2.1, x0.2.2), (x2), (), (x10), ((IntKind.wrap .i64 (x11 - x10))), ()) w3)))
  (Calls Tryz.prog 156 #[Value.slice x0.1 x0.2.1 x0.2.2, Value.int .i64 (IntKind.wrap .i64 (x2 - x10)), Value.int .i64 x2, Value.int .i64 x10, Value.func (.func 52) #[] #[]] w fun e6 w5 =>
    e6 = .returned (Value.tuple #[]) ∧ (
      Q (Value.tuple #[]) w5))
def F145s.b2 (Q : Value → World → Prop) : ((Option Addr × Nat × Nat) × Int × Unit × Int × Int × Unit) → World → (((Option Addr × Nat × Nat) × Int × Unit × Int × Int × Unit) → World → Prop) → Prop := fun s w C2 => ∀ _ : Nat → Value, F145s.b2c Q C2 s.1 s.2.1 s.2.2.1 s.2.2.2.1 s.2.2.2.2.1 w
def F145s.l2 (Q : Value → World → Prop) : ((Option Addr × Nat × Nat) × Int × Unit × Int × Int × Unit) → World → Prop := fun s w => ∃ n, loopC (F145s.b2 Q) n s w
def F145s.vc (x0A : Option Addr) (x0n x0c : Nat) (x1 : Int) (x2 : Int) (x3 : Int) (w : World) (Q : Value → World → Prop) : Prop :=
  jnC (F145s.l2 Q) ((x0A, x0n, x0c), (x2), (), ((IntKind.wrap .i64 (x2 - x1))), ((IntKind.wrap .i64 (x3 - x2))), ()) w
def F145s.an : Ann := ⟨[(2, [(0, .kSl), (2, .kI .i64), (4, .kF 52), (10, .kI .i64), (11, .kI .i64)])], []⟩
theorem F145s.of (x0A : Option Addr) (x0n x0c : Nat) (x1 : Int) (x2 : Int) (x3 : Int) (w : World) {Q : Value → World → Prop} (h : F145s.vc x0A x0n x0c x1 x2 x3 w Q) : Calls Tryz.prog 145 #[Value.slice x0A x0n x0c, Value.int .i64 x1, Value.int .i64 x2, Value.int .i64 x3, Value.func (.func 52) #[] #[]] w (fun e w' => ∃ v, e = .returned v ∧ Q v w') := vcFn_of (A := F145s.an) noCount mixed h (by kernel_rfl)
/-! ### function 146: internal/bytealg.CompareString -/
def F146.vc (x0 : ByteArray) (x1 : ByteArray) (w : World) (Q : Value → World → Prop) : Prop :=
  extC Tryz.prog 157 #[Value.string x0, Value.string x1] w fun v3 w1 =>
  ∃ i4 : Int, v3 = Value.int .i64 i4 ∧ (
    Q (Value.int .i64 i4) w1)
def F146.an : Ann := ⟨[], []⟩
theorem F146.of (x0 : ByteArray) (x1 : ByteArray) (w : World) {Q : Value → World → Prop} (h : F146.vc x0 x1 w Q) : Calls Tryz.prog 146 #[Value.string x0, Value.string x1] w (fun e w' => ∃ v, e = .returned v ∧ Q v w') := vcFn_of (A := F146.an) noCount mixed h (by kernel_rfl)
/-! ### function 151: slices.Grow[[]int,int] -/
def F151.k3c (Q : Value → World → Prop) (x0 : (Option Addr × Nat × Nat)) (x1 : Int) (w : World) : Prop :=
  vIf (decide ((IntKind.wrap .i64 (x1 - (IntKind.wrap .i64 (((x0.2.2 : Nat) : Int) - ((x0.2.1 : Nat) : Int))))) > 0))
  (gd (decide (0 ≤ ((x0.2.2 : Nat) : Int))) <|
    gd (decide (((x0.2.2 : Nat) : Int) ≤ ((x0.2.2 : Nat) : Int))) <|
    appZ w 1 8 [Value.int .i64 0] 3 (slA x0.1 x0.2.2 0 1) ((((x0.2.2 : Nat) : Int)).toNat) x0.2.2 (IntKind.wrap .i64 (x1 - (IntKind.wrap .i64 (((x0.2.2 : Nat) : Int) - ((x0.2.1 : Nat) : Int))))) fun A1 n2 c3 w4 =>
    gd (decide (0 ≤ ((x0.2.1 : Nat) : Int))) <|
    gd (decide (((x0.2.1 : Nat) : Int) ≤ ((c3 : Nat) : Int))) <|
    Q (Value.slice (slA A1 c3 0 1) (((x0.2.1 : Nat) : Int)).toNat c3) w4)
  (Q (Value.slice x0.1 x0.2.1 x0.2.2) w)
def F151.k3 (Q : Value → World → Prop) : ((Option Addr × Nat × Nat) × Int × Unit) → World → Prop := fun s w => ∀ _ : Nat → Value, F151.k3c Q s.1 s.2.1 w
def F151.vc (x0A : Option Addr) (x0n x0c : Nat) (x1 : Int) (w : World) (Q : Value → World → Prop) : Prop :=
  vIf (decide (x1 < 0))
  (False)
  (jnC (F151.k3 Q) ((x0A, x0n, x0c), (x1), ()) w)
def F151.an : Ann := ⟨[], [(3, [(0, .kSl), (1, .kI .i64)])]⟩
theorem F151.of (x0A : Option Addr) (x0n x0c : Nat) (x1 : Int) (w : World) {Q : Value → World → Prop} (h : F151.vc x0A x0n x0c x1 w Q) : Calls Tryz.prog 151 #[Value.slice x0A x0n x0c, Value.int .i64 x1] w (fun e w' => ∃ v, e = .returned v ∧ Q v w') := vcFn_of (A := F151.an) noCount mixed h (by kernel_rfl)
/-! ### function 155: bytes.Compare -/
def F155.vc (x0A : Option Addr) (x0n x0c : Nat) (x1A : Option Addr) (x1n x1c : Nat) (w : World) (Q : Value → World → Prop) : Prop :=
  extC Tryz.prog 177 #[Value.slice x0A x0n x0c, Value.slice x1A x1n x1c] w fun v3 w1 =>
  ∃ i4 : Int, v3 = Value.int .i64 i4 ∧ (
    Q (Value.int .i64 i4) w1)
def F155.an : Ann := ⟨[], []⟩
theorem F155.of (x0A : Option Addr) (x0n x0c : Nat) (x1A : Option Addr) (x1n x1c : Nat) (w : World) {Q : Value → World → Prop} (h : F155.vc x0A x0n x0c x1A x1n x1c w Q) : Calls Tryz.prog 155 #[Value.slice x0A x0n x0c, Value.slice x1A x1n x1c] w (fun e w' => ∃ v, e = .returned v ∧ Q v w') := vcFn_of (A := F155.an) noCount mixed h (by kernel_rfl)
/-! ### function 156: slices.swapRangeCmpFunc[stillage/api.Word] -/
def F156s.b1c (Q : Value → World → Prop) (C1 : ((Option Addr × Nat × Nat) × Int × Int × Int × Int × Unit) → World → Prop) (x0 : (Option Addr × Nat × Nat)) (x1 : Int) (x2 : Int) (x3 : Int) (x10 : Int) (w : World) : Prop :=
  vIf (decide (x10 < x3))
  (dr x0.1 fun b1 o2 =>
    gd (decide (0 ≤ (IntKind.wrap .i64 (x2 + x10)))) <|
    gd (decide ((IntKind.wrap .i64 (x2 + x10)) < ((x0.2.1 : Nat) : Int))) <|
    ldA 39 w.drew b1 (o2 + ((IntKind.wrap .i64 (x2 + x10))).toNat * 39) fun a3 =>
    dr x0.1 fun b4 o5 =>
    gd (decide (0 ≤ (IntKind.wrap .i64 (x1 + x10)))) <|
    gd (decide ((IntKind.wrap .i64 (x1 + x10)) < ((x0.2.1 : Nat) : Int))) <|
    ldA 39 w.drew b4 (o5 + ((IntKind.wrap .i64 (x1 + x10))).toNat * 39) fun a6 =>
    dr x0.1 fun b7 o8 =>
    gd (decide (0 ≤ (IntKind.wrap .i64 (x1 + x10)))) <|
    gd (decide ((IntKind.wrap .i64 (x1 + x10)) < ((x0.2.1 : Nat) : Int))) <|
    gd (a3.length == 39) <|
    st w.drew b7 (o8 + ((IntKind.wrap .i64 (x1 + x10))).toNat * 39) a3 fun w9 =>
    dr x0.1 fun b10 o11 =>
    gd (decide (0 ≤ (IntKind.wrap .i64 (x2 + x10)))) <|
    gd (decide ((IntKind.wrap .i64 (x2 + x10)) < ((x0.2.1 : Nat) : Int))) <|
    gd (a6.length == 39) <|
    st w9 b10 (o11 + ((IntKind.wrap .i64 (x2 + x10))).toNat * 39) a6 fun w12 =>
    jnC C1 ((x0.1, x0.2.1, x0.2.2), (x1), (x2), (x3), ((IntKind.wrap .i64 (x10 + 1))), ()) w12)
  (Q (Value.tuple #[]) w)
def F156s.b1 (Q : Value → World → Prop) : ((Option Addr × Nat × Nat) × Int × Int × Int × Int × Unit) → World → (((Option Addr × Nat × Nat) × Int × Int × Int × Int × Unit) → World → Prop) → Prop := fun s w C1 => ∀ _ : Nat → Value, F156s.b1c Q C1 s.1 s.2.1 s.2.2.1 s.2.2.2.1 s.2.2.2.2.1 w
def F156s.l1 (Q : Value → World → Prop) : ((Option Addr × Nat × Nat) × Int × Int × Int × Int × Unit) → World → Prop := fun s w => ∃ n, loopC (F156s.b1 Q) n s w
def F156s.vc (x0A : Option Addr) (x0n x0c : Nat) (x1 : Int) (x2 : Int) (x3 : Int) (w : World) (Q : Value → World → Prop) : Prop :=
  jnC (F156s.l1 Q) ((x0A, x0n, x0c), (x1), (x2), (x3), (0), ()) w
def F156s.an : Ann := ⟨[(1, [(0, .kSl), (1, .kI .i64), (2, .kI .i64), (3, .kI .i64), (10, .kI .i64)])], []⟩
theorem F156s.of (x0A : Option Addr) (x0n x0c : Nat) (x1 : Int) (x2 : Int) (x3 : Int) (w : World) {Q : Value → World → Prop} (h : F156s.vc x0A x0n x0c x1 x2 x3 w Q) : Calls Tryz.prog 156 #[Value.slice x0A x0n x0c, Value.int .i64 x1, Value.int .i64 x2, Value.int .i64 x3, Value.func (.func 52) #[] #[]] w (fun e w' => ∃ v, e = .returned v ∧ Q v w') := vcFn_of (A := F156s.an) noCount mixed h (by kernel_rfl)
end Go.Proofs.YthcclmlbkfadcaaGreat
/- the print of chapter 22 -/
/- rows of ints: how they lie; Contains, in, Ints -/
namespace Go.Proofs.YthcclmlbkfadcaaGreat
open Go.GV Go.RowKit Go.Lib
set_option linter.unusedVariables false
set_option linter.unusedSimpArgs false
def ivs (l : List Int) : List Value := l.map (Value.int .i64)
theorem ivs_len (l : List Int) : (ivs l).length = l.length := by simp [ivs]
theorem ivs_app (a b : List Int) : ivs (a ++ b) = ivs a ++ ivs b := by simp [ivs]
theorem ivs_one (l : List Int) : ∀ v ∈ ivs l, v.oneCell' = true := by
  intro v hv
  simp only [ivs, List.mem_map] at hv
  obtain ⟨x, _, rfl⟩ := hv
  rfl
theorem ivs_at {l : List Int} {i : Nat} {x : Int} (h : l[i]? = some x) : (ivs l)[i]? = some (.int .i64 x) := by simp [ivs, h]
theorem ivs_take (l : List Int) (k : Nat) : (ivs l).take k = ivs (l.take k) := by simp [ivs]
theorem ei (i : Nat) (h : i < 1099511627776) : IntKind.wrap .i64 ((i : Int) + 1) = ((i + 1 : Nat) : Int) := by rw [i64_id (by omega) (by omega)]; rfl
theorem sl_n {w : World} {A : Option Addr} {n : Nat} {l : List Int} (h : Sl w 1 A n (ivs l)) : l.length = n := by
  have := h.1
  rw [ivs_len] at this
  omega
theorem sl_at {w : World} {A : Option Addr} {n : Nat} {l : List Int} (h : Sl w 1 A n (ivs l)) {i : Nat} (hi : i < n) {x : Int} (hx : l[i]? = some x) : ∃ b o, A = some ⟨b, o, none⟩ ∧ ∀ j y, l[j]? = some y → cellAt w b (o + j * 1) = some (.int .i64 y) := by
  obtain ⟨b, o, hA, hc⟩ := h.2 (by omega)
  exact ⟨b, o, hA, fun j y hj => by rw [Nat.mul_one]; exact hc j _ (ivs_at hj)⟩
/-- a step of a loop over a row of ints -/
theorem sl_rd {w : World} {A : Option Addr} {n : Nat} {l : List Int} (h : Sl w 1 A n (ivs l)) {i : Nat} (hi : i < n) {x : Int} (hx : l[i]? = some x) {K : Int → Prop} (hK : K x) :
    dr A fun b o => gd (decide (0 ≤ (i : Int))) (gd (decide ((i : Int) < ((n : Nat) : Int))) (ldI .i64 w b (o + ((i : Int)).toNat * 1) K)) := by
  obtain ⟨b, o, rfl, hc⟩ := sl_at h hi hx
  refine dr_mk (gd_mk (decide_eq_true (by omega)) (gd_mk (decide_eq_true (by omega)) ⟨x, ?_, hK⟩))
  rw [Int.toNat_natCast]
  exact hc i x hx
theorem row_low {u : World} {B B' : Nat} {e : TypeId} {sz : Nat} {A : Option Addr} {k c : Nat} {vs : List Value} (hB : B' ≤ B) (hr : Row u B e sz A k c vs) : Row u B' e sz A k c vs := by
  refine ⟨hr.len, hr.le, ?_⟩
  rcases hr.at_ with h' | ⟨b', cs', q1, q2, q3⟩
  · exact .inl h'
  · exact .inr ⟨b', cs', q1, by omega, q3⟩
theorem mem_of_at {l : List Int} {i : Nat} {x : Int} (h : l[i]? = some x) : x ∈ l := List.mem_of_getElem? h
theorem take_succ_at {l : List Int} {i : Nat} {x : Int} (h : l[i]? = some x) : l.take (i + 1) = l.take i ++ [x] := by rw [List.take_add_one, h]; rfl
theorem at_lt {l : List Int} {i : Nat} (h : i < l.length) : l[i]? = some (l[i]'h) := List.getElem?_eq_getElem h
/-! ### in, Contains -/
/-! ### Ints: are two rows the same? -/
end Go.Proofs.YthcclmlbkfadcaaGreat
/- ints: Add, Row, both, as plain functions -/
namespace Go.Proofs.YthcclmlbkfadcaaGreat
open Go.GV Go.RowKit Go.Lib
set_option linter.unusedVariables false
set_option linter.unusedSimpArgs false
/-! ### the plain functions -/
def addS (n : Int) (s : List Int × Bool) (x : Int) : List Int × Bool :=
  if !s.2 && decide (n ≤ x) then ((if n < x then s.1 ++ [n] else s.1) ++ [x], true) else (s.1 ++ [x], s.2)
def addI (l : List Int) (n : Int) : List Int :=
  if (l.foldl (addS n) ([], false)).2 then (l.foldl (addS n) ([], false)).1 else (l.foldl (addS n) ([], false)).1 ++ [n]
def addR (n : Int) : List Int → List Int
  | [] => [n]
  | x :: xs => if n ≤ x then (if n < x then n :: x :: xs else x :: xs) else x :: addR n xs
theorem addS_done (n : Int) : ∀ (l o : List Int), l.foldl (addS n) (o, true) = (o ++ l, true)
  | [], o => by simp
  | x :: xs, o => by
    show xs.foldl (addS n) (addS n (o, true) x) = _
    have : addS n (o, true) x = (o ++ [x], true) := by simp [addS]
    rw [this, addS_done n xs (o ++ [x])]
    simp
theorem addS_fold (n : Int) : ∀ (l o : List Int), (if (l.foldl (addS n) (o, false)).2 then (l.foldl (addS n) (o, false)).1 else (l.foldl (addS n) (o, false)).1 ++ [n]) = o ++ addR n l
  | [], o => by simp [addR]
  | x :: xs, o => by
    show (if (xs.foldl (addS n) (addS n (o, false) x)).2 then (xs.foldl (addS n) (addS n (o, false) x)).1 else (xs.foldl (addS n) (addS n (o, false) x)).1 ++ [n]) = _
    unfold addR
    by_cases h : n ≤ x
    · have e : addS n (o, false) x = ((if n < x then o ++ [n] else o) ++ [x], true) := by simp [addS, h]
      rw [e, addS_done]
      rw [if_pos rfl, if_pos h]
      by_cases h2 : n < x
      · rw [if_pos h2, if_pos h2]; simp
      · rw [if_neg h2, if_neg h2]; simp
    · have e : addS n (o, false) x = (o ++ [x], false) := by simp [addS, h]
      rw [e, addS_fold n xs (o ++ [x]), if_neg h]
      simp
theorem addI_eq (l : List Int) (n : Int) : addI l n = addR n l := addS_fold n l []
theorem addR_mem (n : Int) : ∀ (l : List Int) (y : Int), y ∈ addR n l ↔ y = n ∨ y ∈ l
  | [], y => by simp [addR]
  | x :: xs, y => by
    unfold addR
    by_cases h : n ≤ x
    · rw [if_pos h]
      by_cases h2 : n < x
      · rw [if_pos h2]; simp
      · rw [if_neg h2]
        have : n = x := by omega
        subst this
        simp
    · rw [if_neg h]
      simp only [List.mem_cons, addR_mem n xs y]
      constructor
      · rintro (h1 | h1 | h1)
        · exact .inr (.inl h1)
        · exact .inl h1
        · exact .inr (.inr h1)
      · rintro (h1 | h1 | h1)
        · exact .inr (.inl h1)
        · exact .inl h1
        · exact .inr (.inr h1)
def AscI (l : List Int) : Prop := l.Pairwise (· < ·)
theorem addR_asc (n : Int) : ∀ {l : List Int}, AscI l → AscI (addR n l)
  | [], _ => List.pairwise_singleton _ _
  | x :: xs, h => by
    unfold addR
    have hc := List.pairwise_cons.1 h
    by_cases h1 : n ≤ x
    · rw [if_pos h1]
      by_cases h2 : n < x
      · rw [if_pos h2]
        refine List.pairwise_cons.2 ⟨fun y hy => ?_, h⟩
        rcases List.mem_cons.1 hy with rfl | hy
        · exact h2
        · have := hc.1 y hy; omega
      · rw [if_neg h2]; exact h
    · rw [if_neg h1]
      refine List.pairwise_cons.2 ⟨fun y hy => ?_, addR_asc n hc.2⟩
      rcases (addR_mem n xs y).1 hy with rfl | hy
      · omega
      · exact hc.1 y hy
theorem AscI.unique : ∀ {a b : List Int}, AscI a → AscI b → (∀ x, x ∈ a ↔ x ∈ b) → a = b
  | [], [], _, _, _ => rfl
  | [], y :: ys, _, _, h => absurd ((h y).2 (List.mem_cons_self ..)) (by simp)
  | x :: xs, [], _, _, h => absurd ((h x).1 (List.mem_cons_self ..)) (by simp)
  | x :: xs, y :: ys, ha, hb, h => by
    have ha' := List.pairwise_cons.1 ha
    have hb' := List.pairwise_cons.1 hb
    have hxy : x = y := by
      rcases List.mem_cons.1 ((h x).1 (List.mem_cons_self ..)) with e | e
      · exact e
      · rcases List.mem_cons.1 ((h y).2 (List.mem_cons_self ..)) with e' | e'
        · exact e'.symm
        · have := hb'.1 x e; have := ha'.1 y e'; omega
    subst hxy
    congr 1
    refine AscI.unique ha'.2 hb'.2 (fun z => ?_)
    constructor
    · intro hz
      rcases List.mem_cons.1 ((h z).1 (List.mem_cons_of_mem _ hz)) with e | e
      · subst e; have := ha'.1 z hz; omega
      · exact e
    · intro hz
      rcases List.mem_cons.1 ((h z).2 (List.mem_cons_of_mem _ hz)) with e | e
      · subst e; have := hb'.1 z hz; omega
      · exact e
/-- a row, rising, each once -/
def norm (l : List Int) : List Int := l.foldl addI []
theorem norm_both : ∀ (l : List Int) (acc : List Int), AscI acc → AscI (l.foldl addI acc) ∧ ∀ y, y ∈ l.foldl addI acc ↔ y ∈ acc ∨ y ∈ l
  | [], acc, h => ⟨h, by simp⟩
  | x :: xs, acc, h => by
    obtain ⟨h1, h2⟩ := norm_both xs (addI acc x) (by rw [addI_eq]; exact addR_asc x h)
    refine ⟨h1, fun y => ?_⟩
    show y ∈ xs.foldl addI (addI acc x) ↔ _
    rw [h2, addI_eq, addR_mem, List.mem_cons]
    constructor
    · rintro ((h3 | h3) | h3)
      · exact .inr (.inl h3)
      · exact .inl h3
      · exact .inr (.inr h3)
    · rintro (h3 | h3 | h3)
      · exact .inl (.inr h3)
      · exact .inl (.inl h3)
      · exact .inr h3
theorem norm_asc (l : List Int) : AscI (norm l) := (norm_both l [] List.Pairwise.nil).1
theorem norm_mem (l : List Int) (y : Int) : y ∈ norm l ↔ y ∈ l := by rw [norm, (norm_both l [] List.Pairwise.nil).2]; simp
theorem norm_eq {l r : List Int} (h : AscI r) (hm : ∀ y, y ∈ r ↔ y ∈ l) : r = norm l := h.unique (norm_asc l) (fun y => by rw [hm, norm_mem])
theorem addR_len (n : Int) : ∀ l : List Int, (addR n l).length ≤ l.length + 1
  | [] => by simp [addR]
  | x :: xs => by
    unfold addR
    split
    · split <;> simp
    · have := addR_len n xs; simp; omega
theorem norm_len (l : List Int) : (norm l).length ≤ l.length := by
  have h : ∀ (l acc : List Int), (l.foldl addI acc).length ≤ acc.length + l.length := by
    intro l
    induction l with
    | nil => intro acc; simp
    | cons x xs ih =>
      intro acc
      have h1 := ih (addI acc x)
      have h2 := addR_len x acc
      rw [← addI_eq] at h2
      show (xs.foldl addI (addI acc x)).length ≤ _
      simp; omega
  have := h l []
  simp only [List.length_nil, Nat.zero_add] at this
  exact this
/-! ### Add -/
/-! ### Row -/
/-! ### both -/
def both (a b : List Int) : List Int := norm (a.filter (fun x => decide (x ∈ b)))
end Go.Proofs.YthcclmlbkfadcaaGreat
/- Laid by the shelf's tools (plain mode): slices.Sort at this program's ints lies as the shelf's does. -/
namespace Go.Proofs
open Go.Shelf
def Tryz.sortI_ren : Go.Shelf.Ren := ⟨fun | 189 => 138 | 125 => 153 | 257 => 152 | 128 => 167 | 129 => 168 | 294 => 158 | 295 => 159 | 296 => 160 | 297 => 161 | 298 => 162 | 299 => 163 | 216 => 164 | 300 => 165 | 301 => 166 | 328 => 178 | 329 => 179 | 330 => 180 | 331 => 181 | 332 => 182 | 215 => 94 | 343 => 186 | n => n, fun | 28 => 46 | 3 => 3 | 46 => 161 | 0 => 0 | 51 => 196 | 53 => 25 | 4 => 4 | 183 => 190 | 182 => 189 | 131 => 100 | 5 => 5 | 9 => 9 | 218 => 203 | 222 => 207 | 228 => 211 | 229 => 59 | n => n, fun | n => n⟩
theorem Tryz.sortI : Go.Proofs.Lays.n189 Tryz.prog Tryz.sortI_ren := {
  mixed := by kernel_rfl
  f125 := Tryz.func153.trans (congrArg some (by kernel_rfl))
  f128 := Tryz.func167.trans (congrArg some (by kernel_rfl))
  f129 := Tryz.func168.trans (congrArg some (by kernel_rfl))
  f189 := Tryz.func138.trans (congrArg some (by kernel_rfl))
  f215 := Tryz.func94.trans (congrArg some (by kernel_rfl))
  f216 := Tryz.func164.trans (congrArg some (by kernel_rfl))
  f257 := Tryz.func152.trans (congrArg some (by kernel_rfl))
  f294 := Tryz.func158.trans (congrArg some (by kernel_rfl))
  f295 := Tryz.func159.trans (congrArg some (by kernel_rfl))
  f296 := Tryz.func160.trans (congrArg some (by kernel_rfl))
  f297 := Tryz.func161.trans (congrArg some (by kernel_rfl))
  f298 := Tryz.func162.trans (congrArg some (by kernel_rfl))
  f299 := Tryz.func163.trans (congrArg some (by kernel_rfl))
  f300 := Tryz.func165.trans (congrArg some (by kernel_rfl))
  f301 := Tryz.func166.trans (congrArg some (by kernel_rfl))
  f328 := Tryz.func178.trans (congrArg some (by kernel_rfl))
  f329 := Tryz.func179.trans (congrArg some (by kernel_rfl))
  f330 := Tryz.func180.trans (congrArg some (by kernel_rfl))
  f331 := Tryz.func181.trans (congrArg some (by kernel_rfl))
  f332 := Tryz.func182.trans (congrArg some (by kernel_rfl))
  f343 := Tryz.func186.trans (congrArg some (by kernel_rfl))
  t0 := Tryz.underlying0
  a0 := Tryz.isAgg0
  z0 := Tryz.sizeOf0
  v0 := Tryz.zeroValue0
  t3 := Tryz.underlying3
  a3 := Tryz.isAgg3
  z3 := Tryz.sizeOf3
  v3 := Tryz.zeroValue3
  t4 := Tryz.underlying4
  a4 := Tryz.isAgg4
  z4 := Tryz.sizeOf4
  v4 := Tryz.zeroValue4
  t5 := Tryz.underlying5
  a5 := Tryz.isAgg5
  z5 := Tryz.sizeOf5
  v5 := Tryz.zeroValue5
  t9 := Tryz.underlying9
  a9 := Tryz.isAgg9
  z9 := Tryz.sizeOf9
  v9 := Tryz.zeroValue9
  t28 := Tryz.underlying46
  a28 := Tryz.isAgg46
  z28 := Tryz.sizeOf46
  v28 := Tryz.zeroValue46
  t46 := Tryz.underlying161
  a46 := Tryz.isAgg161
  z46 := Tryz.sizeOf161
  v46 := Tryz.zeroValue161
  t51 := Tryz.underlying196
  a51 := Tryz.isAgg196
  z51 := Tryz.sizeOf196
  v51 := Tryz.zeroValue196
  t53 := Tryz.underlying25
  a53 := Tryz.isAgg25
  z53 := Tryz.sizeOf25
  v53 := Tryz.zeroValue25
  t131 := Tryz.underlying100
  a131 := Tryz.isAgg100
  z131 := Tryz.sizeOf100
  v131 := Tryz.zeroValue100
  t182 := Tryz.underlying189
  a182 := Tryz.isAgg189
  z182 := Tryz.sizeOf189
  v182 := Tryz.zeroValue189
  t183 := Tryz.underlying190
  a183 := Tryz.isAgg190
  z183 := Tryz.sizeOf190
  v183 := Tryz.zeroValue190
  t218 := Tryz.underlying203
  a218 := Tryz.isAgg203
  z218 := Tryz.sizeOf203
  v218 := Tryz.zeroValue203
  t222 := Tryz.underlying207
  a222 := Tryz.isAgg207
  z222 := Tryz.sizeOf207
  v222 := Tryz.zeroValue207
  t228 := Tryz.underlying211
  a228 := Tryz.isAgg211
  z228 := Tryz.sizeOf211
  v228 := Tryz.zeroValue211
  t229 := Tryz.underlying59
  a229 := Tryz.isAgg59
  z229 := Tryz.sizeOf59
  v229 := Tryz.zeroValue59 }
end Go.Proofs
/- ints: Grow, Concat, Sort -/
namespace Go.Proofs.YthcclmlbkfadcaaGreat
open Go.GV Go.RowKit Go.Lib
set_option linter.unusedVariables false
set_option linter.unusedSimpArgs false
theorem grow_calls (m : Nat) (w : World) (hm : m ≤ 1099511627776) :
    Calls Tryz.prog 151 #[.slice none 0 0, .int .i64 m] w fun e w' => Fr (fun _ => False) w w' ∧ ∃ A' c', e = .returned (.slice A' 0 c') ∧ Row w' w.heap.size 3 1 A' 0 c' [] := by
  refine (F151.of none 0 0 m w (Q := fun v w' => Fr (fun _ => False) w w' ∧ ∃ A' c', v = .slice A' 0 c' ∧ Row w' w.heap.size 3 1 A' 0 c' []) ?_).mono (fun e w' ⟨v, he, hf, A', c', hv, h⟩ => ⟨hf, A', c', by rw [he, hv], h⟩)
  refine vIf_f (decide_eq_false (by omega)) (jnC_mk (fun _ => ?_))
  have e0 : IntKind.wrap .i64 ((m : Int) - IntKind.wrap .i64 (((0 : Nat) : Int) - ((0 : Nat) : Int))) = m := by
    rw [i64_id (n := ((0 : Nat) : Int) - ((0 : Nat) : Int)) (by omega) (by omega), i64_id (by omega) (by omega)]; omega
  show vIf (decide (IntKind.wrap .i64 ((m : Int) - IntKind.wrap .i64 (((0 : Nat) : Int) - ((0 : Nat) : Int))) > 0)) _ _
  refine vIf_mk (fun h0 => ?_) (fun h0 => ⟨Fr.refl _ _, none, 0, rfl, Row.nil _ _ _ _⟩)
  refine gd_mk rfl (gd_mk rfl ?_)
  show appZ w 1 8 [Value.int .i64 0] 3 none 0 0 (IntKind.wrap .i64 ((m : Int) - IntKind.wrap .i64 (((0 : Nat) : Int) - ((0 : Nat) : Int)))) _
  refine appZ_row (Row.nil w w.heap.size 3 1) (m := m) (by rw [e0, i64_id (by omega) (by omega)]) (by omega) (by intro v hv; simp only [List.mem_singleton] at hv; subst hv; rfl) rfl (by omega) (by omega) (Nat.le_refl _) ?_
  intro A' c' w2 r2 f2
  refine gd_mk rfl (gd_mk (decide_eq_true (by show ((0 : Nat) : Int) ≤ (c' : Int); omega)) ⟨f2.mono (fun _ _ h => by simp [blkOf] at h), _, c', rfl, ?_⟩)
  have hsl : slA A' c' 0 1 = A' := by
    unfold slA
    split
    · rfl
    · cases A' with
      | none => rfl
      | some a => simp [Addr.add]
  show Row w2 w.heap.size 3 1 (slA A' c' 0 1) 0 c' []
  rw [hsl]
  refine ⟨rfl, Nat.zero_le _, ?_⟩
  rcases r2.at_ with ⟨h1, h2, h3⟩ | ⟨b, cs, h1, h2, h3, h4, h5⟩
  · exact .inl ⟨h1, rfl, h3⟩
  · exact .inr ⟨b, cs, h1, h2, h3, h4, by simp⟩
/-- Concat of rows of ints that stay as they are -/
theorem concat_calls (A : Option Addr) (n c : Nat) (vs : List Value) (ls : List (List Int)) (w : World) (h : Sl w 1 A n vs) (hn : n = ls.length) (hs : ∀ (i : Nat) (l : List Int), ls[i]? = some l → ∃ (B : Option Addr) (m k : Nat), vs[i]? = some (Value.slice B m k) ∧ Sl w 1 B m (ivs l))
    (hm : ls.flatten.length ≤ 1099511627776) (hn2 : n ≤ 1099511627776) :
    Calls Tryz.prog 137 #[.slice A n c] w fun e w' => Fr (fun _ => False) w w' ∧ ∃ A' c', e = .returned (.slice A' ls.flatten.length c') ∧ Row w' w.heap.size 3 1 A' ls.flatten.length c' (ivs ls.flatten) := by
  refine (F137.of A n c w (Q := fun v w' => Fr (fun _ => False) w w' ∧ ∃ A' c', v = .slice A' ls.flatten.length c' ∧ Row w' w.heap.size 3 1 A' ls.flatten.length c' (ivs ls.flatten)) ?_).mono (fun e w' ⟨v, he, hf, A', c', hv, h⟩ => ⟨hf, A', c', by rw [he, hv], h⟩)
  have tk : ∀ i l, ls[i]? = some l → (ls.take (i + 1)).flatten = (ls.take i).flatten ++ l := fun i l hi => by rw [List.take_add_one, hi]; simp
  have le : ∀ i, (ls.take i).flatten.length ≤ ls.flatten.length := fun i => by
    have := congrArg (fun x => x.flatten.length) (List.take_append_drop i ls)
    simp only [List.flatten_append, List.length_append] at this
    omega
  refine jnC_mk ?_
  refine loop_rule (fun s u => u = w ∧ ∃ i : Nat, i ≤ n ∧ s = ((A, n, c), (((ls.take i).flatten.length : Nat) : Int), (A, n, c), (n : Int), (i : Int), ()))
    (fun s _ => (n - s.2.2.2.2.1).toNat) ?_ _ _ ⟨rfl, 0, by omega, rfl⟩
  rintro s u C ⟨rfl, i, hi, rfl⟩ hC _
  refine vIf_mk (fun hlt => ?_) (fun hge => ?_)
  · have hlt2 : (i : Int) < n := of_decide_eq_true hlt
    obtain ⟨l, hl⟩ : ∃ l, ls[i]? = some l := ⟨_, List.getElem?_eq_getElem (by omega)⟩
    obtain ⟨B, m, k, hv, hB⟩ := hs i l hl
    obtain ⟨b, o, hA', hc⟩ := h.get (i := i) (by omega) hv
    subst hA'
    have hml : l.length = m := sl_n hB
    have h1 := le (i + 1)
    rw [tk i l hl, List.length_append] at h1
    have e1 : IntKind.wrap .i64 ((((ls.take i).flatten.length : Nat) : Int) + (m : Int)) = (((ls.take (i + 1)).flatten.length : Nat) : Int) := by
      rw [i64_id (by omega) (by omega), tk i l hl, List.length_append]; omega
    refine dr_mk (gd_mk (decide_eq_true (Int.natCast_nonneg i)) (gd_mk (decide_eq_true hlt2) ⟨B, m, k, hc, vIf_f (decide_eq_false ?_) (jnC_mk (hC _ _ ⟨rfl, i + 1, by omega, ?_⟩ ?_))⟩))
    · show ¬ (IntKind.wrap .i64 ((((ls.take i).flatten.length : Nat) : Int) + (m : Int)) < 0)
      rw [e1]; omega
    · show ((_, n, c), IntKind.wrap .i64 ((((ls.take i).flatten.length : Nat) : Int) + (m : Int)), (_, n, c), (n : Int), IntKind.wrap .i64 ((i : Int) + 1), ()) = _
      rw [e1, i64_id (by omega) (by omega)]; rfl
    · show ((n : Int) - IntKind.wrap .i64 ((i : Int) + 1)).toNat < ((n : Int) - i).toNat
      rw [i64_id (by omega) (by omega)]; omega
  · have hge2 : ¬ ((i : Int) < n) := of_decide_eq_false hge
    have hin : i = ls.length := by omega
    subst hin
    show Calls Tryz.prog 151 #[.slice none 0 0, .int .i64 (((ls.take ls.length).flatten.length : Nat) : Int)] u _
    rw [List.take_length]
    refine (grow_calls _ u hm).mono ?_
    rintro e w1 ⟨f1, R, rc, rfl, r1⟩
    refine ⟨R, 0, rc, rfl, jnC_mk ?_⟩
    refine loop_rule (fun s x => Fr (fun _ => False) u x ∧ ∃ (i : Nat) (R : Option Addr) (rc : Nat), i ≤ n ∧ s = ((R, (ls.take i).flatten.length, rc), (A, n, c), (n : Int), (i : Int), ()) ∧ Row x u.heap.size 3 1 R (ls.take i).flatten.length rc (ivs (ls.take i).flatten))
      (fun s _ => (n - s.2.2.2.1).toNat) ?_ _ _ ⟨f1, 0, R, rc, by omega, rfl, r1⟩
    rintro s x C2 ⟨hf, i, R, rc, hi, rfl, hr⟩ hC2 _
    have hRb : ∀ k, k < u.heap.size → blkOf R = some k → False := fun k hk hb => by have := (hr.blt hb).1; omega
    refine vIf_mk (fun hlt => ?_) (fun hge => ?_)
    · have hlt2 : (i : Int) < n := of_decide_eq_true hlt
      obtain ⟨l, hl⟩ : ∃ l, ls[i]? = some l := ⟨_, List.getElem?_eq_getElem (by omega)⟩
      obtain ⟨B, m, k, hv, hB⟩ := hs i l hl
      obtain ⟨b, o, hA', hc⟩ := (hf.sl h (fun _ _ _ h => h)).get (i := i) (by omega) hv
      subst hA'
      have hml : l.length = m := sl_n hB
      have h1 := le (i + 1)
      rw [tk i l hl, List.length_append] at h1
      refine dr_mk (gd_mk (decide_eq_true (Int.natCast_nonneg i)) (gd_mk (decide_eq_true hlt2) ⟨B, m, k, hc, ?_⟩))
      refine app_row hr (hf.sl hB (fun _ _ _ h => h)).src (ivs_one l) rfl (by show ((ls.take i).flatten.length + m) * 8 ≤ _; omega) (by show (ls.take i).flatten.length + m ≤ _; omega) hf.size ?_
      intro R' rc' w4 r4 f4
      have e2 : (ls.take i).flatten.length + m = (ls.take (i + 1)).flatten.length := by rw [tk i l hl, List.length_append, hml]
      refine jnC_mk (hC2 _ _ ⟨hf.trans f4 (fun _ _ h => h) (fun k hk h => hRb k hk h), i + 1, R', rc', by omega, ?_, ?_⟩ ?_)
      · show ((R', (ls.take i).flatten.length + m, rc'), (_, n, c), (n : Int), IntKind.wrap .i64 ((i : Int) + 1), ()) = _
        rw [i64_id (by omega) (by omega), e2]; rfl
      · rw [← e2, tk i l hl, ivs_app]
        exact r4
      · show ((n : Int) - IntKind.wrap .i64 ((i : Int) + 1)).toNat < ((n : Int) - i).toNat
        rw [i64_id (by omega) (by omega)]; omega
    · have hge2 : ¬ ((i : Int) < n) := of_decide_eq_false hge
      have hin : i = ls.length := by omega
      subst hin
      rw [List.take_length] at hr ⊢
      exact ⟨hf, R, rc, rfl, hr⟩
/-! ### the sort -/
theorem sort_nil (c : Nat) (w : World) : Calls Tryz.prog 138 #[.slice none 0 c] w fun e w' => e = .returned (.tuple #[]) ∧ w' = w :=
  Any.slices_Sort_int_none Tryz.sortI none c w
open Go.Sort in
theorem sort_int (B : Nat) (e : TypeId) (b c : Nat) (l : List Int) (n : Nat) (w : World) (h : Row w B e 1 (some ⟨b, 0, none⟩) n c (ivs l)) (hn : n < 4611686018427387904) :
    Calls Tryz.prog 138 #[.slice (some ⟨b, 0, none⟩) n c] w fun e' w' => e' = .returned (.tuple #[]) ∧ Fr (fun k => k = b) w w' ∧ ∃ r, Row w' B e 1 (some ⟨b, 0, none⟩) n c (ivs r) ∧ r.Perm l ∧ r.Pairwise (· ≤ ·) := by
  have hrl := sl_n h.sl
  have hlen := h.len
  rcases h.at_ with ⟨h', _⟩ | ⟨b', cs, hA, hB, hh, hs, ht⟩
  · cases h'
  injection hA with hA
  injection hA with hA
  subst hA
  have hH : Holds (Value.int .i64) w b 0 l.toArray := by
    intro j hj
    have hj2 : j < l.length := by simpa using hj
    have e1 : l.toArray[j]! = l[j]'hj2 := by
      rw [getElem!_pos l.toArray j hj]; simp
    rw [e1]
    constructor
    · exact cellsAt_take hh ht j _ (ivs_at (at_lt hj2))
    · simp [World.frozen?, hh]
  have hcon := Any.slices_Sort_int Tryz.sortI b 0 c l w hH (heap_lt hh) (by omega)
  rw [hrl] at hcon
  refine Calls.mono hcon ?_
  rintro e' w' ⟨rfl, q, os, rfl⟩
  generalize hd : l.mergeSort (fun x y => decide (x ≤ y)) = d
  have hperm : d.Perm l := by rw [← hd]; exact List.mergeSort_perm _ _
  have hsrt : d.Pairwise (· ≤ ·) := by
    have h1 := List.pairwise_mergeSort (le := fun x y : Int => decide (x ≤ y)) (fun a b c h1 h2 => by simp at *; omega) (fun a b => by simp; omega) l
    rw [hd] at h1
    exact h1.imp (fun h => of_decide_eq_true h)
  have hdl : d.length = n := by rw [hperm.length_eq, hrl]
  have hle := h.le
  have heap : ∀ k, k < w.heap.size → (grow (putRow (Value.int .i64) (Go.Sort.ahead w q) b 0 d.toArray) os).heap[k]? = if k = b then some (.cells (putCells (Value.int .i64) 0 d.toArray cs) e) else w.heap[k]? := by
    intro k hk
    show ((putRow (Value.int .i64) (Go.Sort.ahead w q) b 0 d.toArray).heap ++ os)[k]? = _
    have hsz : k < (putRow (Value.int .i64) (Go.Sort.ahead w q) b 0 d.toArray).heap.size := by
      show k < ((Go.Sort.ahead w q).heap.modify b _).size
      rw [Array.size_modify]; exact hk
    rw [Array.getElem?_append_left hsz]
    show ((Go.Sort.ahead w q).heap.modify b (onCells (putCells (Value.int .i64) 0 d.toArray)))[k]? = _
    rw [Array.getElem?_modify]
    by_cases hkb : k = b
    · subst hkb
      rw [if_pos rfl, if_pos rfl]
      show Option.map _ w.heap[k]? = _
      rw [hh]; rfl
    · rw [if_neg (fun h => hkb h.symm), if_neg hkb]; rfl
  refine ⟨rfl, ⟨rfl, rfl, rfl, ?_, fun k hk hn' => ?_⟩, d, ⟨?_, hle, .inr ⟨b, putCells (Value.int .i64) 0 d.toArray cs, rfl, hB, ?_, ?_, ?_⟩⟩, hperm, hsrt⟩
  · show w.heap.size ≤ ((putRow (Value.int .i64) (Go.Sort.ahead w q) b 0 d.toArray).heap ++ os).size
    have : (putRow (Value.int .i64) (Go.Sort.ahead w q) b 0 d.toArray).heap.size = w.heap.size := by
      show ((Go.Sort.ahead w q).heap.modify b _).size = _
      rw [Array.size_modify]; rfl
    rw [Array.size_append]; omega
  · rw [heap k hk, if_neg hn']
  · rw [ivs_len, hdl]; omega
  · rw [heap b (heap_lt hh), if_pos rfl]
  · simp [putCells, hs]
  · apply List.ext_getElem?
    intro j
    have hcsz : n ≤ cs.size := by rw [hs]; omega
    by_cases hj : j < n
    · rw [List.getElem?_take, if_pos (by omega), Array.getElem?_toList]
      unfold putCells
      rw [Array.getElem?_mapIdx, Array.getElem?_eq_getElem (show j < cs.size by omega), Option.map_some, if_pos ⟨Nat.zero_le _, by simp; omega⟩]
      rw [Nat.sub_zero, getElem!_pos d.toArray j (by simp; omega), ivs_at (at_lt (by omega))]
      simp
    · rw [List.getElem?_take, if_neg (by omega), List.getElem?_eq_none (by rw [ivs_len, hdl]; omega)]
/-! ### writing into a row of ints -/
theorem row_put {w : World} {B : Nat} {e : TypeId} {sz : Nat} {A : Option Addr} {n c : Nat} {vs us : List Value} {o' : Nat} {K : World → Prop} (hr : Row w B e sz A n c vs) (hn : n ≠ 0) (hfit : o' + us.length ≤ n * sz) (h1 : ∀ v ∈ us, v.oneCell' = true)
    (hK : ∀ w', Row w' B e sz A n c (splice vs o' us) → Fr (fun k => blkOf A = some k) w w' → K w') : dr A fun b o => st w b (o + o') us K := by
  rcases hr.at_ with ⟨_, h0, _⟩ | ⟨b, cs, rfl, hB, hh, hs, ht⟩
  · exact absurd h0 hn
  · have hle := hr.le
    have hl := hr.len
    have hmul : n * sz ≤ c * sz := Nat.mul_le_mul_right _ hle
    show st w b (0 + o') us K
    rw [Nat.zero_add]
    have hfit2 : o' + us.length ≤ cs.toList.length := by simp; omega
    refine ⟨⟨cs, e, 0, 0, hh, by simpa using hfit2, .inl (Nat.zero_le _)⟩, h1, hK _ ⟨by rw [splice_length (by omega)]; exact hl, hle, .inr ⟨b, _, rfl, hB, stB_heap hh, ?_, ?_⟩⟩ (Fr.st (fun _ => rfl))⟩
    · simp only [List.size_toArray]; rw [splice_length hfit2]; simpa using hs
    · apply List.ext_getElem?
      intro j
      simp only [List.getElem?_take]
      by_cases hj : j < n * sz
      · rw [if_pos hj, splice_get hfit2, splice_get (by omega), ← ht]
        simp only [List.getElem?_take]
        by_cases h2 : j < o'
        · rw [if_pos h2, if_pos h2, if_pos hj]
        · rw [if_neg h2, if_neg h2]
          split
          · rfl
          · first | rfl | rw [if_pos hj]
      · rw [if_neg hj, List.getElem?_eq_none (by rw [splice_length (by omega)]; omega)]
theorem row_cut {w : World} {B : Nat} {e : TypeId} {sz : Nat} {A : Option Addr} {n c k : Nat} {vs : List Value} (hr : Row w B e sz A n c vs) (hk : k ≤ n) : Row w B e sz A k c (vs.take (k * sz)) := by
  have hl := hr.len
  have hle := hr.le
  have hmul : k * sz ≤ n * sz := Nat.mul_le_mul_right _ hk
  refine ⟨by rw [List.length_take]; omega, by omega, ?_⟩
  rcases hr.at_ with ⟨h1, h2, h3⟩ | ⟨b, cs, h1, h2, h3, h4, h5⟩
  · exact .inl ⟨h1, by omega, h3⟩
  · refine .inr ⟨b, cs, h1, h2, h3, h4, ?_⟩
    rw [← h5, List.take_take, Nat.min_eq_left hmul]
theorem ivs_set {P : List Int} {k : Nat} {x : Int} (hk : k < P.length) : ivs (P.set k x) = splice (ivs P) (k * 1) [.int .i64 x] := by
  have hfit : k * 1 + [Value.int .i64 x].length ≤ (ivs P).length := by rw [ivs_len]; simp; omega
  apply List.ext_getElem?
  intro t
  rw [splice_get hfit]
  simp only [Nat.mul_one, List.length_singleton, ivs, List.map_set]
  by_cases h1 : t < k
  · rw [if_pos h1, List.getElem?_set_ne (by omega)]
  · rw [if_neg h1]
    by_cases h2 : t < k + 1
    · have : t = k := by omega
      subst this
      rw [if_pos h2, List.getElem?_set_self (by simpa using hk)]
      simp
    · rw [if_neg h2, List.getElem?_set_ne (by omega)]
/-- the tail of a row is cleared -/
theorem row_clear {w : World} {B : Nat} {e : TypeId} {b n c k : Nat} {P : List Int} {K : World → Prop} (hr : Row w B e 1 (some ⟨b, 0, none⟩) n c (ivs P)) (hk : k < n)
    (hK : ∀ w', Row w' B e 1 (some ⟨b, 0, none⟩) k c (ivs (P.take k)) → Fr (fun j => j = b) w w' → K w') : dr (slA (some (⟨b, 0, none⟩ : Addr)) c k 1) fun b o => st w b o (zeros (n - k) [Value.int .i64 0]) K := by
  have hle := hr.le
  have hPl := sl_n hr.sl
  have hsk : slA (some (⟨b, 0, none⟩ : Addr)) c k 1 = some ⟨b, 0 + k * 1, none⟩ := by
    unfold slA
    rw [if_neg (by omega), Option.map_some, add_none]
  rw [hsk]
  refine row_put (A := some ⟨b, 0, none⟩) (o' := k * 1) hr (by omega) (by rw [zeros_length]; simp; omega) (fun v hv => ?_) (fun u2 hr2 f2 => hK u2 ?_ (f2.mono (fun j _ hj => by simpa [blkOf] using hj.symm)))
  · simp only [zeros, List.mem_flatten, List.mem_replicate] at hv
    obtain ⟨l, ⟨_, rfl⟩, hv⟩ := hv
    simp at hv; subst hv; rfl
  · have hcut := row_cut hr2 (k := k) (by omega)
    have e : (splice (ivs P) (k * 1) (zeros (n - k) [Value.int .i64 0])).take (k * 1) = ivs (P.take k) := by
      unfold splice
      rw [List.append_assoc, List.take_append_of_le_length (by rw [List.length_take, ivs_len]; omega), List.take_take, Nat.min_self, Nat.mul_one, ivs_take]
    rw [e] at hcut
    exact hcut
theorem slA_zero (b c : Nat) : slA (some (⟨b, 0, none⟩ : Addr)) c 0 1 = some ⟨b, 0, none⟩ := by
  unfold slA
  split
  · rfl
  · simp [Addr.add]
end Go.Proofs.YthcclmlbkfadcaaGreat
/- ints: Compact; the program row -/
namespace Go.Proofs.YthcclmlbkfadcaaGreat
open Go.GV Go.RowKit Go.Lib
set_option linter.unusedVariables false
set_option linter.unusedSimpArgs false
/-- without neighbours that are one -/
def cpt (r : List Int) : Nat → List Int
  | 0 => []
  | n + 1 => cpt r n ++ (if n ≠ 0 ∧ r[n]? = r[n - 1]? then [] else r[n]?.toList)
theorem cpt_len (r : List Int) : ∀ n, (cpt r n).length ≤ n
  | 0 => Nat.le_refl _
  | n + 1 => by
    have := cpt_len r n
    simp only [cpt, List.length_append]
    split
    · simp; omega
    · cases r[n]? <;> simp <;> omega
theorem cpt_mem (r : List Int) : ∀ n d, d ∈ cpt r n ↔ d ∈ r.take n
  | 0, d => by simp [cpt]
  | n + 1, d => by
    have ih := cpt_mem r n d
    rw [cpt, List.take_add_one, List.mem_append, List.mem_append, ih]
    by_cases h : n ≠ 0 ∧ r[n]? = r[n - 1]?
    · rw [if_pos h]
      constructor
      · intro h'; exact h'.elim .inl (fun h => by cases h)
      · rintro (h' | h')
        · exact .inl h'
        · left
          rw [h.2] at h'
          cases hr : r[n - 1]? with
          | none => rw [hr] at h'; cases h'
          | some x =>
            rw [hr] at h'
            simp at h'
            subst h'
            exact List.mem_of_getElem? (i := n - 1) (by rw [List.getElem?_take, if_pos (by omega)]; exact hr)
    · rw [if_neg h]
theorem cpt_asc {r : List Int} (h : r.Pairwise (· ≤ ·)) : ∀ n, n ≤ r.length → AscI (cpt r n)
  | 0, _ => List.Pairwise.nil
  | n + 1, hn => by
    have ih := cpt_asc h n (by omega)
    rw [cpt]
    by_cases hc : n ≠ 0 ∧ r[n]? = r[n - 1]?
    · rw [if_pos hc, List.append_nil]; exact ih
    · rw [if_neg hc, List.getElem?_eq_getElem (by omega)]
      refine List.pairwise_append.2 ⟨ih, by simp, fun a ha b hb => ?_⟩
      simp at hb
      subst hb
      have ha' := (cpt_mem r n a).1 ha
      obtain ⟨i, hi, hai⟩ := List.mem_iff_getElem.1 ha'
      rw [List.length_take] at hi
      rw [List.getElem_take] at hai
      have hn0 : n ≠ 0 := by omega
      have hprev : r[n - 1]'(by omega) ≠ r[n]'(by omega) := by
        intro he
        apply hc
        refine ⟨hn0, ?_⟩
        rw [List.getElem?_eq_getElem (by omega), List.getElem?_eq_getElem (by omega), he]
      have hp := List.pairwise_iff_getElem.1 h
      have h2 := hp (n - 1) n (by omega) (by omega) (by omega)
      subst hai
      by_cases hin : i = n - 1
      · subst hin; omega
      · have h3 := hp i (n - 1) (by omega) (by omega) (by omega)
        omega
set_option maxHeartbeats 1000000 in
theorem compact_int (B : Nat) (e : TypeId) (A : Option Addr) (c : Nat) (r : List Int) (n : Nat) (w : World) (h : Row w B e 1 A n c (ivs r)) (hn : n ≤ 1099511627776) :
    Calls Tryz.prog 139 #[.slice A n c] w fun e' w' => e' = .returned (.slice A (cpt r n).length c) ∧ Fr (fun k => blkOf A = some k) w w' ∧ Row w' B e 1 A (cpt r n).length c (ivs (cpt r n)) := by
  refine (F139.of A n c w (Q := fun v w' => v = .slice A (cpt r n).length c ∧ Fr (fun k => blkOf A = some k) w w' ∧ Row w' B e 1 A (cpt r n).length c (ivs (cpt r n))) ?_).mono (fun e w' ⟨v, he, hv, h⟩ => ⟨by rw [he, hv], h⟩)
  have hrl := sl_n h.sl
  have whole : ∀ i, i ≤ n → cpt r i = r.take i → i = n → ∀ u, Fr (fun k => blkOf A = some k) w u → Row u B e 1 A n c (ivs r) → (Value.slice A n c = .slice A (cpt r n).length c ∧ Fr (fun k => blkOf A = some k) w u ∧ Row u B e 1 A (cpt r n).length c (ivs (cpt r n))) := by
    intro i hi hc he u hf hr
    subst he
    rw [hc, List.take_of_length_le (by omega), hrl]
    exact ⟨rfl, hf, hr⟩
  refine vIf_mk (fun h2 => ?_) (fun h2 => jnC_mk ?_)
  · have h2 : (n : Int) < 2 := of_decide_eq_true h2
    refine whole n (Nat.le_refl _) ?_ rfl w (Fr.refl _ _) h
    match n, h2 with
    | 0, _ => rfl
    | 1, _ => simp [cpt, List.take_one, List.head?_eq_getElem?]
    | n + 2, h2 => omega
  have h2 : ¬ (n : Int) < 2 := of_decide_eq_false h2
  have hle := h.le
  obtain ⟨b, hA⟩ : ∃ b, A = some ⟨b, 0, none⟩ := by
    rcases h.at_ with ⟨_, h0, _⟩ | ⟨b, _, hA, _⟩
    · omega
    · exact ⟨b, hA⟩
  subst hA
  refine loop_rule (fun s u => Fr (fun k => blkOf (some (⟨b, 0, none⟩ : Addr)) = some k) w u ∧ Row u B e 1 (some ⟨b, 0, none⟩) n c (ivs r) ∧ ∃ i : Nat, 1 ≤ i ∧ i ≤ n ∧ s = ((some ⟨b, 0, none⟩, n, c), (i : Int), ()) ∧ cpt r i = r.take i)
    (fun s _ => (n - s.2.1).toNat) ?_ _ _ ⟨Fr.refl _ _, h, 1, by omega, by omega, rfl, by simp [cpt, List.take_one, List.head?_eq_getElem?]⟩
  rintro s u C4 ⟨hf, hr, i, hi1, hi, rfl, hc⟩ hC4 _
  refine vIf_mk (fun hlt => ?_) (fun hge => ?_)
  · have hlt2 : (i : Int) < (n : Int) := of_decide_eq_true hlt
    have hrd := (Fr.drew (fun _ => False) u).row hr (fun _ _ h => h)
    have ei1 : IntKind.wrap .i64 ((i : Int) - 1) = ((i - 1 : Nat) : Int) := by rw [i64_id (by omega) (by omega)]; omega
    have gi := at_lt (l := r) (i := i) (by omega)
    have gp := at_lt (l := r) (i := i - 1) (by omega)
    dsimp only
    rw [ei1]
    refine sl_rd hrd.sl (by omega) gi (sl_rd hrd.sl (by omega) gp ?_)
    refine vIf_mk (fun he => ?_) (fun hne => ?_)
    · have he : r[i]'(by omega) = r[i - 1]'(by omega) := by simpa using he
      have hsame : cpt r (i + 1) = r.take i := by
        rw [cpt, if_pos ⟨by omega, by rw [gi, gp, he]⟩, List.append_nil, hc]
      refine gd_mk (decide_eq_true (by omega)) (gd_mk (decide_eq_true (by omega)) (jnC_mk ?_))
      rw [Int.toNat_natCast]
      have hsl : slA (some (⟨b, 0, none⟩ : Addr)) c i 1 = some ⟨b, 0 + i * 1, none⟩ := by
        unfold slA
        rw [if_neg (by omega), Option.map_some, add_none]
      rw [hsl]
      refine loop_rule (fun s u => Fr (fun k => blkOf (some (⟨b, 0, none⟩ : Addr)) = some k) w u ∧ ∃ (j : Nat) (P : List Int), 1 ≤ j ∧ i + j ≤ n ∧ P.length = n ∧ Row u B e 1 (some ⟨b, 0, none⟩) n c (ivs P) ∧ (cpt r (i + j)).length < i + j ∧ P.take (cpt r (i + j)).length = cpt r (i + j) ∧ P.drop (cpt r (i + j)).length = r.drop (cpt r (i + j)).length ∧
          s = ((some ⟨b, 0, none⟩, n, c), (((cpt r (i + j)).length : Nat) : Int), (some ⟨b, 0 + i * 1, none⟩, n - i, c - i), (j : Int), ()))
        (fun s _ => (n - s.2.2.2.1).toNat) ?_ _ _ ⟨hf.trans (Fr.drew (fun _ => False) u) (fun _ _ h => h) (fun _ _ h => h.elim), 1, r, by omega, by omega, hrl, hrd, ?_, ?_, ?_, ?_⟩
      rotate_left
      · rw [hsame, List.length_take]; omega
      · rw [hsame, List.length_take, Nat.min_eq_left (by omega)]
      · rfl
      · rw [hsame, List.length_take, Nat.min_eq_left (by omega)]; rfl
      clear hC4 hf hr hrd
      rintro s u C9 ⟨hf, j, P, hj1, hjn, hPl, hr, hk, htk, hdp, rfl⟩ hC9 _
      generalize hkk : (cpt r (i + j)).length = k at hk htk hdp
      have hrd := (Fr.drew (fun _ => False) u).row hr (fun _ _ h => h)
      have hget : ∀ q, k ≤ q → P[q]? = r[q]? := by
        intro q hq
        have h1 : (P.drop k)[q - k]? = (r.drop k)[q - k]? := by rw [hdp]
        rw [List.getElem?_drop, List.getElem?_drop, show k + (q - k) = q by omega] at h1
        exact h1
      -- the tail of the row, as a slice
      have tail : Sl u.drew 1 (some (⟨b, 0 + i * 1, none⟩ : Addr)) (n - i) (ivs (P.drop i)) := by
        refine ⟨by rw [ivs_len, List.length_drop]; omega, fun _ => ⟨b, 0 + i * 1, rfl, fun q v hq => ?_⟩⟩
        obtain ⟨b', o', hA, hcell⟩ := hrd.sl.2 (by omega)
        cases hA
        have := hcell (i + q) v (by
          unfold ivs at hq ⊢
          rw [List.getElem?_map, List.getElem?_drop] at hq
          rw [List.getElem?_map]; exact hq)
        rw [show 0 + i * 1 + q = 0 + (i + q) by omega]; exact this
      refine vIf_mk (fun hlt => ?_) (fun hge => ?_)
      · have hlt3 : (j : Int) < ((n - i : Nat) : Int) := of_decide_eq_true hlt
        have ej : IntKind.wrap .i64 ((j : Int) - 1) = ((j - 1 : Nat) : Int) := by rw [i64_id (by omega) (by omega)]; omega
        have gi := at_lt (l := r) (i := i + j) (by omega)
        have gp := at_lt (l := r) (i := i + j - 1) (by omega)
        have ti : (P.drop i)[j]? = some (r[i + j]'(by omega)) := by rw [List.getElem?_drop, hget _ (by omega), gi]
        have tp : (P.drop i)[j - 1]? = some (r[i + j - 1]'(by omega)) := by rw [List.getElem?_drop, show i + (j - 1) = i + j - 1 by omega, hget _ (by omega), gp]
        dsimp only
        rw [ej]
        refine sl_rd tail (by omega) ti (sl_rd tail (by omega) tp ?_)
        have enext : IntKind.wrap .i64 ((j : Int) + 1) = ((j + 1 : Nat) : Int) := by rw [i64_id (by omega) (by omega)]; rfl
        refine vIf_mk (fun hne => ?_) (fun he => ?_)
        · have hne2 : r[i + j]'(by omega) ≠ r[i + j - 1]'(by omega) := by simpa using hne
          have hnx : cpt r (i + (j + 1)) = cpt r (i + j) ++ [r[i + j]'(by omega)] := by
            rw [← Nat.add_assoc, cpt, if_neg, gi, Option.toList_some]
            rintro ⟨_, h'⟩
            rw [gi, gp] at h'
            exact hne2 (Option.some.inj h')
          refine sl_rd tail (by omega) ti (dr_mk (gd_mk (decide_eq_true (by omega)) (gd_mk (decide_eq_true (by omega)) ?_)))
          simp only [Int.toNat_natCast]
          refine row_put (A := some ⟨b, 0, none⟩) (o' := k * 1) hrd (by omega) (by simp; omega) (fun v hv => by simp at hv; subst hv; rfl) (fun u2 hr2 f2 => jnC_mk (hC9 _ _ ⟨?_, j + 1, P.set k (r[i + j]'(by omega)), by omega, by omega, by simpa using hPl, ?_, ?_, ?_, ?_, ?_⟩ ?_))
          · exact (hf.trans (Fr.drew (fun _ => False) u) (fun _ _ h => h) (fun _ _ h => h.elim)).trans1 f2
          · rw [ivs_set (by omega)]; exact hr2
          · rw [hnx, List.length_append, hkk]; simp; omega
          · rw [hnx, List.length_append, hkk]
            show (P.set k _).take (k + 1) = _
            rw [List.take_add_one, List.getElem?_set_self (by omega), Option.toList_some, List.take_set_of_le (Nat.le_refl k), htk]
          · rw [hnx, List.length_append, hkk]
            show (P.set k _).drop (k + 1) = r.drop (k + 1)
            rw [List.drop_set_of_lt (by omega)]
            have h3 := congrArg (List.drop 1) hdp
            rw [List.drop_drop, List.drop_drop] at h3
            exact h3
          · rw [hnx, List.length_append, hkk, enext]
            show (_, IntKind.wrap .i64 ((k : Int) + 1), _, _, ()) = _
            rw [i64_id (by omega) (by omega)]; rfl
          · show ((n : Int) - IntKind.wrap .i64 ((j : Int) + 1)).toNat < ((n : Int) - (j : Int)).toNat
            rw [enext]; omega
        · have he2 : r[i + j]'(by omega) = r[i + j - 1]'(by omega) := by simpa using he
          have hnx : cpt r (i + (j + 1)) = cpt r (i + j) := by
            rw [← Nat.add_assoc, cpt, if_pos ⟨by omega, by rw [gi, gp, he2]⟩, List.append_nil]
          refine jnC_mk (hC9 _ _ ⟨hf.trans (Fr.drew (fun _ => False) u) (fun _ _ h => h) (fun _ _ h => h.elim), j + 1, P, by omega, by omega, hPl, hrd, by rw [hnx, hkk]; omega, by rw [hnx, hkk]; exact htk, by rw [hnx, hkk]; exact hdp, ?_⟩ ?_)
          · rw [hnx, hkk, enext]
          · show ((n : Int) - IntKind.wrap .i64 ((j : Int) + 1)).toNat < ((n : Int) - (j : Int)).toNat
            rw [enext]; omega
      · have hge3 : ¬ (j : Int) < ((n - i : Nat) : Int) := of_decide_eq_false hge
        have hij : i + j = n := by omega
        rw [hij] at hkk htk
        dsimp only
        simp only [Int.toNat_natCast]
        refine gd_mk (decide_eq_true (by omega)) (gd_mk (decide_eq_true (by omega)) (vIf_f (by simp; omega) ?_))
        refine row_clear hr (by omega) (fun u2 hr2 f2 => jnC_mk (fun _ => ?_))
        refine gd_mk (decide_eq_true (by show (0 : Int) ≤ (k : Int); omega)) (gd_mk (decide_eq_true (by show (k : Int) ≤ (c : Int); omega)) ⟨?_, hf.trans1 (f2.mono (fun q _ hq => by subst hq; rfl)), ?_⟩)
        · show Value.slice (slA (some ⟨b, 0, none⟩) c 0 1) ((k : Int).toNat) c = _
          rw [Int.toNat_natCast, hkk, slA_zero]
        · rw [hkk]
          rw [htk] at hr2
          exact hr2
    · have hne2 : r[i]'(by omega) ≠ r[i - 1]'(by omega) := by simpa using hne
      refine jnC_mk (hC4 _ _ ⟨hf.trans (Fr.drew (fun _ => False) u) (fun _ _ h => h) (fun _ _ h => h.elim), hrd, i + 1, by omega, by omega, ?_, ?_⟩ ?_)
      · show (_, IntKind.wrap .i64 ((i : Int) + 1), ()) = _
        rw [i64_id (by omega) (by omega)]; rfl
      · rw [cpt, if_neg, hc, List.take_add_one]
        rintro ⟨_, h'⟩
        rw [gi, gp] at h'
        exact hne2 (Option.some.inj h')
      · show ((n : Int) - IntKind.wrap .i64 ((i : Int) + 1)).toNat < ((n : Int) - (i : Int)).toNat
        rw [i64_id (by omega) (by omega)]; omega
  · have hge2 : ¬ (i : Int) < (n : Int) := of_decide_eq_false hge
    exact whole i hi hc (by omega) u hf hr
theorem row_calls (A : Option Addr) (n c : Nat) (vs : List Value) (ls : List (List Int)) (w : World) (h : Sl w 1 A n vs) (hn : n = ls.length) (hs : ∀ (i : Nat) (l : List Int), ls[i]? = some l → ∃ (B : Option Addr) (m k : Nat), vs[i]? = some (Value.slice B m k) ∧ Sl w 1 B m (ivs l))
    (hm : ls.flatten.length ≤ 1099511627776) (hn2 : n ≤ 1099511627776) :
    Calls Tryz.prog 117 #[.slice A n c] w fun e w' => Fr (fun _ => False) w w' ∧ ∃ A' c', e = .returned (.slice A' (norm ls.flatten).length c') ∧ Row w' w.heap.size 3 1 A' (norm ls.flatten).length c' (ivs (norm ls.flatten)) := by
  refine (F117.of A n c w (Q := fun v w' => Fr (fun _ => False) w w' ∧ ∃ A' c', v = .slice A' (norm ls.flatten).length c' ∧ Row w' w.heap.size 3 1 A' (norm ls.flatten).length c' (ivs (norm ls.flatten))) ?_).mono (fun e w' ⟨v, he, hf, A', c', hv, h⟩ => ⟨hf, A', c', by rw [he, hv], h⟩)
  refine (concat_calls A n c vs ls w h hn hs hm hn2).mono ?_
  rintro e w1 ⟨f1, A1, c1, rfl, h1⟩
  refine ⟨_, _, _, rfl, ?_⟩
  generalize ls.flatten = r at *
  have fin : ∀ (u : World) (r1 : List Int), Fr (fun k => blkOf A1 = some k) w1 u → Row u w.heap.size 3 1 A1 r.length c1 (ivs r1) → r1.Perm r → r1.Pairwise (· ≤ ·) →
      Calls Tryz.prog 139 #[.slice A1 r.length c1] u fun e9 w8 => ∃ (A10 : Option Addr) (n11 c12 : Nat), e9 = .returned (.slice A10 n11 c12) ∧ (Fr (fun _ => False) w w8 ∧ ∃ A' c', Value.slice A10 n11 c12 = .slice A' (norm r).length c' ∧ Row w8 w.heap.size 3 1 A' (norm r).length c' (ivs (norm r))) := by
    intro u r1 fu hr1 hp hs
    have hl1 := sl_n hr1.sl
    refine (compact_int w.heap.size _ A1 c1 r1 r.length u hr1 hm).mono ?_
    rintro e w8 ⟨rfl, f8, h8⟩
    have heq : cpt r1 r.length = norm r := norm_eq (cpt_asc hs _ (by omega)) (fun y => by rw [cpt_mem, List.take_of_length_le (by omega)]; exact hp.mem_iff)
    rw [heq] at h8 ⊢
    refine ⟨_, _, _, rfl, ?_, A1, c1, rfl, h8⟩
    have hA : ∀ k, blkOf A1 = some k → w.heap.size ≤ k := fun k hk => (h1.blt hk).1
    exact (f1.trans fu (fun _ _ h => h) (fun k hk h' => by have := hA k h'; omega)).trans f8 (fun _ _ h => h) (fun k hk h' => by have := hA k h'; omega)
  cases A1 with
  | none =>
    have hn0 : r.length = 0 ∧ c1 = 0 := by
      rcases h1.at_ with ⟨_, h', h''⟩ | ⟨_, _, h', _⟩
      · exact ⟨h', h''⟩
      · cases h'
    obtain ⟨hr0, rfl⟩ := hn0
    have : r = [] := List.length_eq_zero_iff.1 hr0
    subst this
    refine (sort_nil 0 w1).mono ?_
    rintro e w2 ⟨rfl, rfl⟩
    exact ⟨rfl, fin w2 [] (Fr.refl _ _) h1 (List.Perm.refl _) List.Pairwise.nil⟩
  | some a =>
    have ha : ∃ b, a = ⟨b, 0, none⟩ := by
      rcases h1.at_ with ⟨h', _⟩ | ⟨b, _, h', _⟩
      · cases h'
      · exact ⟨b, Option.some.inj h'⟩
    obtain ⟨b, rfl⟩ := ha
    refine (sort_int w.heap.size _ b c1 r r.length w1 h1 (by omega)).mono ?_
    rintro e w2 ⟨rfl, f2, r2, hr2, hp, hs⟩
    exact ⟨rfl, fin w2 r2 (f2.mono (fun k _ hk => by subst hk; rfl)) hr2 hp hs⟩
end Go.Proofs.YthcclmlbkfadcaaGreat
/- ints: left -/
namespace Go.Proofs.YthcclmlbkfadcaaGreat
open Go.GV Go.RowKit Go.Lib
set_option linter.unusedVariables false
set_option linter.unusedSimpArgs false
/-! ### left -/
structure SegAt (w : World) (b : Nat) (S : Option Addr) (m cs : Nat) (sg : List Int) : Prop where
  rc : RecAt w b 46 [.slice S m cs]
  sl : Sl w 1 S m (ivs sg)
  hm : m ≤ 17179869184
theorem SegAt.fr {D : Nat → Prop} {w w' : World} {b : Nat} {S : Option Addr} {m cs : Nat} {sg : List Int} (f : Fr D w w') (h : SegAt w b S m cs sg) (h1 : ¬ D b) (h2 : m ≠ 0 → ∀ k, blkOf S = some k → ¬ D k) : SegAt w' b S m cs sg :=
  ⟨h.rc.fr f h1, f.sl h.sl h2, h.hm⟩
def keep (sg l : List Int) : List Int := l.filter (fun y => decide (y ∈ sg))
end Go.Proofs.YthcclmlbkfadcaaGreat
/- words; blocks and how they are read -/
namespace Go.Proofs.YthcclmlbkfadcaaGreat
open Go.GV Go.RowKit Go.Lib
set_option linter.unusedVariables false
set_option linter.unusedSimpArgs false
structure Wd where
  k : Int
  sq : Int
  d : List UInt8
  nm : ByteArray
  z : Int
  s : Int
  o : Int
  q : Int
def Wd.cs (e : Wd) : List Value := [.int .i64 e.k, .int .u64 e.sq] ++ (e.d.map bv ++ [.string e.nm, .int .i64 e.z, .int .i64 e.s, .int .i64 e.o, .int .i64 e.q])
/-! ### reading them -/
theorem rec_mid {w : World} {b : Nat} {t : TypeId} {x m y : List Value} (h : RecAt w b t (x ++ (m ++ y))) : cellsAt w b (0 + x.length) m :=
  h.cells (fun j v hj => by
    have hm := (List.getElem?_eq_some_iff.1 hj).1
    rw [Nat.zero_add, List.getElem?_append_right (by omega), Nat.add_sub_cancel_left, List.getElem?_append_left hm]; exact hj)
theorem rec_end {w : World} {b : Nat} {t : TypeId} {x m y : List Value} (h : RecAt w b t (x ++ (m ++ y))) {k : Nat} (hm : m.length = k) {j : Nat} {v : Value} (hj : y[j]? = some v) {i : Nat} (hi : i = x.length + k + j) : cellAt w b i = some v :=
  h.cell (by
    subst hi
    rw [List.getElem?_append_right (by omega), List.getElem?_append_right (by omega), show x.length + k + j - x.length - m.length = j by omega]; exact hj)
theorem rec_loc {w : World} {b : Nat} {t : TypeId} {x m y : List Value} (h : RecAt w b t (x ++ (m ++ y))) {k : Nat} (hm : m.length = k) {j : Nat} {a c d : Value} (h0 : y[j]? = some a) (h1 : y[j + 1]? = some c) (h2 : y[j + 2]? = some d) {i : Nat} (hi : i = x.length + k + j) : cellsAt w b i [a, c, d] := by
  intro q v hq
  match q, hq with
  | 0, hq => injection hq with hq; subst hq; exact rec_end h hm h0 hi
  | 1, hq => injection hq with hq; subst hq; exact rec_end h hm h1 (by omega)
  | 2, hq => injection hq with hq; subst hq; exact rec_end h hm h2 (by omega)
  | q + 3, hq => simp at hq
theorem rec_all {w : World} {b : Nat} {t : TypeId} {cs : List Value} (h : RecAt w b t cs) : cellsAt w b 0 cs := h.cells (o := 0) (fun q v hq => by rw [Nat.zero_add]; exact hq)
/-- three blocks -/
theorem nw3 {w : World} {c1 c3 c5 : List Value} {t1 t3 t5 : TypeId} {K : Nat → Nat → Nat → World → Prop}
    (hK : ∀ b1 b3 b5 u, Fr (fun _ => False) w u → RecAt u b1 t1 c1 → RecAt u b3 t3 c3 → RecAt u b5 t5 c5 → w.heap.size ≤ b5 → b1 ≠ b5 → b3 ≠ b5 → K b1 b3 b5 u) :
    nw w c1 t1 fun b1 w2 => nw w2 c3 t3 fun b3 w4 => nw w4 c5 t5 fun b5 w6 => K b1 b3 b5 w6 := by
  refine nw_mk (nw_mk (nw_mk ?_))
  have f1 : Fr (fun _ => False) w (w.alloc (.cells c1.toArray t1)) := Fr.alloc _ _ _
  have r1 := RecAt.new w c1 t1
  have s1 : (w.alloc (.cells c1.toArray t1)).heap.size = w.heap.size + 1 := alloc_size _ _
  generalize w.alloc (.cells c1.toArray t1) = w1 at f1 r1 s1 ⊢
  have f2 : Fr (fun _ => False) w1 (w1.alloc (.cells c3.toArray t3)) := Fr.alloc _ _ _
  have r2 := RecAt.new w1 c3 t3
  have s2 : (w1.alloc (.cells c3.toArray t3)).heap.size = w1.heap.size + 1 := alloc_size _ _
  generalize w1.alloc (.cells c3.toArray t3) = w2 at f2 r2 s2 ⊢
  have f3 : Fr (fun _ => False) w2 (w2.alloc (.cells c5.toArray t5)) := Fr.alloc _ _ _
  have r3 := RecAt.new w2 c5 t5
  exact hK _ _ _ _ ((f1.trans1 f2).trans1 f3) ((r1.fr f2 (fun h => h)).fr f3 (fun h => h)) (r2.fr f3 (fun h => h)) r3 (by omega) (by omega) (by omega)
theorem nw2 {w : World} {c1 c5 : List Value} {t1 t5 : TypeId} {K : Nat → Nat → World → Prop}
    (hK : ∀ b1 b5 u, Fr (fun _ => False) w u → RecAt u b1 t1 c1 → RecAt u b5 t5 c5 → w.heap.size ≤ b1 → w.heap.size ≤ b5 → b1 ≠ b5 → K b1 b5 u) :
    nw w c1 t1 fun b1 w2 => nw w2 c5 t5 fun b5 w6 => K b1 b5 w6 := by
  refine nw_mk (nw_mk ?_)
  have f1 : Fr (fun _ => False) w (w.alloc (.cells c1.toArray t1)) := Fr.alloc _ _ _
  have r1 := RecAt.new w c1 t1
  have s1 : (w.alloc (.cells c1.toArray t1)).heap.size = w.heap.size + 1 := alloc_size _ _
  generalize w.alloc (.cells c1.toArray t1) = w1 at f1 r1 s1 ⊢
  have f2 : Fr (fun _ => False) w1 (w1.alloc (.cells c5.toArray t5)) := Fr.alloc _ _ _
  have r2 := RecAt.new w1 c5 t5
  exact hK _ _ _ (f1.trans1 f2) (r1.fr f2 (fun h => h)) r2 (Nat.le_refl _) (by omega) (by omega)
/-- a block is written whole, and read -/
theorem st_all {w : World} {b k : Nat} {t : TypeId} {z vs : List Value} {K : List Value → World → Prop} (h : RecAt w b t z) (hz : z.length = k) (hl : vs.length = k) (h1 : ∀ v ∈ vs, v.oneCell' = true)
    (hK : ∀ w', Fr (fun j => j = b) w w' → RecAt w' b t vs → K vs w') : st w b 0 vs fun w' => ldA k w' b 0 fun a => K a w' := by
  refine h.st_mk (o := 0) (by omega) h1 (fun r f => ?_)
  rw [splice_full (by omega)] at r
  exact ⟨vs, hl, rec_all r, hK _ f r⟩
theorem bvl {d : List UInt8} {k : Nat} (h : d.length = k) : (d.map bv).length = k := by rw [List.length_map]; exact h
theorem len1 {d : List UInt8} {k : Nat} (h : d.length = k) : ((d.map bv).length == k) = true := by rw [bvl h]; simp
/-- the row of two rows, or of one -/
theorem row2_calls (A : Option Addr) (n c : Nat) (l : List Int) (b15 : Nat) (x : Int) (b17 : Nat) (w : World) (hs : Sl w 1 A n (ivs l)) (h15 : RecAt w b15 3 [.int .i64 x]) (h17 : RecAt w b17 46 [.slice A n c, .slice (some ⟨b15, 0, none⟩) 1 1]) (hn : l.length ≤ 8589934592) :
    Calls Tryz.prog 117 #[.slice (some ⟨b17, 0, none⟩) 2 2] w fun e w' => Fr (fun _ => False) w w' ∧ ∃ A' c', e = .returned (.slice A' (norm (l ++ [x])).length c') ∧ Row w' w.heap.size 3 1 A' (norm (l ++ [x])).length c' (ivs (norm (l ++ [x]))) := by
  have h := row_calls (some ⟨b17, 0, none⟩) 2 2 [.slice A n c, .slice (some ⟨b15, 0, none⟩) 1 1] [l, [x]] w ⟨rfl, fun _ => ⟨b17, 0, rfl, rec_all h17⟩⟩ rfl (fun i y hi => by
    match i, hi with
    | 0, hi => injection hi with hi; subst hi; exact ⟨A, n, c, rfl, hs⟩
    | 1, hi => injection hi with hi; subst hi; exact ⟨_, 1, 1, rfl, rfl, fun _ => ⟨b15, 0, rfl, rec_all h15⟩⟩
    | i + 2, hi => simp at hi) (by simp; omega) (by omega)
  have e : [l, [x]].flatten = l ++ [x] := by simp
  rw [e] at h
  exact h
theorem row1_calls (A : Option Addr) (n c : Nat) (l : List Int) (b17 : Nat) (w : World) (hs : Sl w 1 A n (ivs l)) (h17 : RecAt w b17 46 [.slice A n c]) (hn : l.length ≤ 8589934592) :
    Calls Tryz.prog 117 #[.slice (some ⟨b17, 0, none⟩) 1 1] w fun e w' => Fr (fun _ => False) w w' ∧ ∃ A' c', e = .returned (.slice A' (norm l).length c') ∧ Row w' w.heap.size 3 1 A' (norm l).length c' (ivs (norm l)) := by
  have h := row_calls (some ⟨b17, 0, none⟩) 1 1 [.slice A n c] [l] w ⟨rfl, fun _ => ⟨b17, 0, rfl, rec_all h17⟩⟩ rfl (fun i y hi => by
    match i, hi with
    | 0, hi => injection hi with hi; subst hi; exact ⟨A, n, c, rfl, hs⟩
    | i + 1, hi => simp at hi) (by simp; omega) (by omega)
  have e : [l].flatten = l := by simp
  rw [e] at h
  exact h
/-- a slice in a new world, behind a frame -/
theorem sl_fr {w w' : World} {A : Option Addr} {n : Nat} {l : List Int} (h : Sl w 1 A n (ivs l)) (f : Fr (fun _ => False) w w') : Sl w' 1 A n (ivs l) := f.sl h (fun _ _ _ h => h)
theorem sl_fr1 {w w' : World} {B b : Nat} {e : TypeId} {A : Option Addr} {n c : Nat} {l : List Int} (h : Row w B e 1 A n c (ivs l)) (f : Fr (fun j => j = b) w w') (hb : b < B) : Sl w' 1 A n (ivs l) := (f.row h (fun k hk h' => by have := (h.blt hk).1; omega)).sl
theorem fr_own {w u v : World} {b : Nat} (f : Fr (fun _ => False) w u) (g : Fr (fun j => j = b) u v) (hb : w.heap.size ≤ b) : Fr (fun _ => False) w v := f.trans g (fun _ _ h => h) (fun k hk h' => by omega)
theorem splice_last {p : List Value} {v v' : Value} {k : Nat} (hk : p.length = k) : splice (p ++ [v]) k [v'] = p ++ [v'] := by
  unfold splice
  rw [List.take_left' hk, List.drop_of_length_le (by simp; omega)]
  simp
theorem both_len (l sg : List Int) : (both l sg).length ≤ l.length := Nat.le_trans (norm_len _) (List.length_filter_le _ _)
/-- a variable that takes what a call handed back -/
theorem var_mk {w : World} {t : TypeId} {z cs : List Value} {K : Nat → World → Prop} (hz : z.length = 38) (hl : cs.length = 38) (h1 : ∀ v ∈ cs, v.oneCell' = true)
    (hK : ∀ b u, Fr (fun _ => False) w u → RecAt u b t cs → K b u) : nw w z t fun b w' => gd (cs.length == 38) (st w' b 0 cs fun w'' => K b w'') := by
  refine nw_mk (gd_mk (by rw [hl]; rfl) ?_)
  have f1 : Fr (fun _ => False) w (w.alloc (.cells z.toArray t)) := Fr.alloc _ _ _
  refine (RecAt.new w z t).st_mk (o := 0) (by omega) h1 (fun r f => ?_)
  rw [splice_full (by omega)] at r
  exact hK _ _ (f1.trans f (fun _ _ h => h) (fun k hk h' => by omega)) r
/-! ### what is behind words -/
theorem norm_one_le (l : List Int) (x : Int) : (norm (l ++ [x])).length ≤ l.length + 1 := Nat.le_trans (norm_len _) (by simp)
end Go.Proofs.YthcclmlbkfadcaaGreat
/- entries, as they lie; Put, Delete, Keep, Same -/
namespace Go.Proofs.YthcclmlbkfadcaaGreat
open Go.GV Go.RowKit Go.Lib
set_option linter.unusedVariables false
set_option linter.unusedSimpArgs false
structure En where
  d : List UInt8
  k : Int
  z : Int
  s : Int
  o : Int
  q : Int
  l : List Int
def En.cs (e : En) (A : Option Addr) (n c : Nat) : List Value := e.d.map bv ++ [.int .i64 e.k, .int .i64 e.z, .int .i64 e.s, .int .i64 e.o, .int .i64 e.q, .slice A n c]
def EnAt (w : World) (cs : List Value) (e : En) : Prop := ∃ A n c, cs = e.cs A n c ∧ Sl w 1 A n (ivs e.l) ∧ e.d.length = 32
/-- .. whose row of numbers, if any, lies in a block of P -/
def EnP (P : Nat → Prop) (w : World) (cs : List Value) (e : En) : Prop := ∃ A n c, cs = e.cs A n c ∧ Sl w 1 A n (ivs e.l) ∧ e.d.length = 32 ∧ (n ≠ 0 → ∀ k, blkOf A = some k → P k)
theorem EnP.at {P : Nat → Prop} {w : World} {cs : List Value} {e : En} (h : EnP P w cs e) : EnAt w cs e := by
  obtain ⟨A, n, c, h1, h2, h3, _⟩ := h
  exact ⟨A, n, c, h1, h2, h3⟩
theorem EnAt.fr {w w' : World} {cs : List Value} {e : En} (h : EnAt w cs e) (f : Fr (fun _ => False) w w') : EnAt w' cs e := by
  obtain ⟨A, n, c, h1, h2, h3⟩ := h
  exact ⟨A, n, c, h1, f.sl h2 (fun _ _ _ h => h), h3⟩
theorem EnAt.len {w : World} {cs : List Value} {e : En} (h : EnAt w cs e) : cs.length = 38 := by
  obtain ⟨A, n, c, h1, h2, h3⟩ := h
  rw [h1]; simp [En.cs, h3]
theorem En.one (e : En) (A : Option Addr) (n c : Nat) : ∀ v ∈ e.cs A n c, v.oneCell' = true := by
  intro v hv
  rcases List.mem_append.1 hv with h | h
  · exact bvs_one _ v h
  · simp at h; rcases h with rfl | rfl | rfl | rfl | rfl | rfl <;> rfl
theorem EnAt.one {w : World} {cs : List Value} {e : En} (h : EnAt w cs e) : ∀ v ∈ cs, v.oneCell' = true := by
  obtain ⟨A, n, c, rfl, _⟩ := h
  exact e.one A n c
def putE (e : En) (x : Wd) : En := ⟨x.d, x.k, x.z, x.s, x.o, x.q, norm (e.l ++ [x.s])⟩
def delE (e : En) (x : Wd) : En := ⟨e.d, 5, 0, x.s, x.o, x.q, norm e.l⟩
theorem z28 : Z48.length = 38 := rfl
set_option maxHeartbeats 1000000 in
theorem put_calls (e : En) (x : Wd) (x0 : List Value) (w : World) (h : EnAt w x0 e) (hx : x.d.length = 32) (hn : e.l.length ≤ 4294967296) :
    Calls Tryz.prog 85 #[ofL x0, ofL x.cs] w fun r w' => Fr (fun _ => False) w w' ∧ ∃ cs, r = .returned (ofL cs) ∧ EnP (fun k => w.heap.size ≤ k) w' cs (putE e x) := by
  refine (F85.of x0 x.cs w (Q := fun v w' => Fr (fun _ => False) w w' ∧ ∃ cs, v = ofL cs ∧ EnP (fun k => w.heap.size ≤ k) w' cs (putE e x)) ?_).mono (fun e w' ⟨v, he, hf, cs, hv, h⟩ => ⟨hf, cs, by rw [he, hv], h⟩)
  obtain ⟨A, n, c, rfl, hs, hd⟩ := h
  have hl := sl_n hs
  refine nw3 (fun b1 b3 b5 u f r1 r3 r5 hb5 n15 n35 => ?_)
  have f := f.trans1 (Fr.drew _ u)
  have r1 : RecAt u.drew b1 _ ([] ++ (e.d.map bv ++ [.int .i64 e.k, .int .i64 e.z, .int .i64 e.s, .int .i64 e.o, .int .i64 e.q, .slice A n c])) := r1
  have r3 : RecAt u.drew b3 _ ([.int .i64 x.k, .int .u64 x.sq] ++ (x.d.map bv ++ [.string x.nm, .int .i64 x.z, .int .i64 x.s, .int .i64 x.o, .int .i64 x.q])) := r3
  have r5 : RecAt u.drew b5 _ _ := r5
  generalize u.drew = u at f r1 r3 r5 ⊢
  have hb1 := r1.lt
  have hb3 := r3.lt
  refine ⟨x.d.map bv, bvl hx, rec_mid r3, x.k, r3.cell rfl, x.z, rec_end r3 (bvl hx) (j := 1) rfl rfl, [.int .i64 x.s, .int .i64 x.o, .int .i64 x.q], rfl, rec_loc r3 (bvl hx) (j := 2) rfl rfl rfl rfl, A, n, c, rec_end r1 (bvl hd) (j := 5) rfl rfl, x.s, rec_end r3 (bvl hx) (j := 2) rfl rfl, ?_⟩
  refine nw_mk (cs := [Value.int .i64 x.s]) ?_
  have f2 : Fr (fun _ => False) u (u.alloc (.cells [Value.int .i64 x.s].toArray 3)) := Fr.alloc _ _ _
  have q2 := RecAt.new u [Value.int .i64 x.s] 3
  generalize u.alloc (.cells [Value.int .i64 x.s].toArray 3) = u2 at f2 q2 ⊢
  refine kp_mk f2 hb1 (fun h => h) (kp_mk f2 hb3 (fun h => h) (kp_mk f2 hb3 (fun h => h) (kp_mk f2 hb3 (fun h => h) (kp_mk f2 hb3 (fun h => h) (nw_mk (cs := [Value.slice A n c, .slice (some ⟨u.heap.size, 0, none⟩) 1 1]) ?_)))))
  have f3 : Fr (fun _ => False) u2 (u2.alloc (.cells [Value.slice A n c, .slice (some ⟨u.heap.size, 0, none⟩) 1 1].toArray 46)) := Fr.alloc _ _ _
  have q3 := RecAt.new u2 [Value.slice A n c, .slice (some ⟨u.heap.size, 0, none⟩) 1 1] 46
  generalize u2.alloc (.cells [Value.slice A n c, .slice (some ⟨u.heap.size, 0, none⟩) 1 1].toArray 46) = u3 at f3 q3 ⊢
  have g3 := f2.trans1 f3
  refine kp_mk g3 hb3 (fun h => h) (kp_mk g3 hb3 (fun h => h) (kp_mk g3 hb3 (fun h => h) (kp_mk g3 hb3 (fun h => h) ?_)))
  refine (row2_calls A n c e.l _ x.s _ u3 (sl_fr hs (f.trans1 g3)) (q2.fr f3 (fun h => h)) q3 (by omega)).mono ?_
  rintro r u4 ⟨f4, A', c', rfl, h4⟩
  have g4 := g3.trans1 f4
  refine ⟨_, _, _, rfl, kp_mk g4 hb3 (fun h => h) (kp_mk g4 hb3 (fun h => h) (kp_mk g4 hb3 (fun h => h) (kp_mk g4 hb3 (fun h => h) (gd_mk (len1 hx) (gd_mk rfl (gd_mk (by simp [hx]) ?_))))))⟩
  refine st_all (r5.fr g4 (fun h => h)) z28 (by simp [hx]) ((putE e x).one A' _ c') (fun u5 f5 r5' => ⟨?_, _, rfl, A', _, c', rfl, ?_, hx, fun _ k hk => ?_⟩)
  · exact fr_own (f.trans1 g4) f5 hb5
  · exact sl_fr1 h4 f5 (by have := g3.size; have := r5.lt; omega)
  · have := (h4.blt hk).1; have := f.size; have := g3.size; omega
set_option maxHeartbeats 1000000 in
theorem del_calls (e : En) (x : Wd) (x0 : List Value) (w : World) (h : EnAt w x0 e) (hx : x.d.length = 32) (hn : e.l.length ≤ 4294967296) :
    Calls Tryz.prog 86 #[ofL x0, ofL x.cs] w fun r w' => Fr (fun _ => False) w w' ∧ ∃ cs, r = .returned (ofL cs) ∧ EnP (fun k => w.heap.size ≤ k) w' cs (delE e x) := by
  refine (F86.of x0 x.cs w (Q := fun v w' => Fr (fun _ => False) w w' ∧ ∃ cs, v = ofL cs ∧ EnP (fun k => w.heap.size ≤ k) w' cs (delE e x)) ?_).mono (fun e w' ⟨v, he, hf, cs, hv, h⟩ => ⟨hf, cs, by rw [he, hv], h⟩)
  obtain ⟨A, n, c, rfl, hs, hd⟩ := h
  have hl := sl_n hs
  refine nw3 (fun b1 b3 b5 u f r1 r3 r5 hb5 n15 n35 => ?_)
  have f := f.trans1 (Fr.drew _ u)
  have r1 : RecAt u.drew b1 _ ([] ++ (e.d.map bv ++ [.int .i64 e.k, .int .i64 e.z, .int .i64 e.s, .int .i64 e.o, .int .i64 e.q, .slice A n c])) := r1
  have r3 : RecAt u.drew b3 _ ([.int .i64 x.k, .int .u64 x.sq] ++ (x.d.map bv ++ [.string x.nm, .int .i64 x.z, .int .i64 x.s, .int .i64 x.o, .int .i64 x.q])) := r3
  have r5 : RecAt u.drew b5 _ _ := r5
  generalize u.drew = u at f r1 r3 r5 ⊢
  have hb1 := r1.lt
  have hb3 := r3.lt
  refine ⟨e.d.map bv, bvl hd, rec_mid r1, [.int .i64 x.s, .int .i64 x.o, .int .i64 x.q], rfl, rec_loc r3 (bvl hx) (j := 2) rfl rfl rfl rfl, A, n, c, rec_end r1 (bvl hd) (j := 5) rfl rfl, ?_⟩
  refine nw_mk (cs := [Value.slice A n c]) ?_
  have g3 : Fr (fun _ => False) u (u.alloc (.cells [Value.slice A n c].toArray 46)) := Fr.alloc _ _ _
  have q3 := RecAt.new u [Value.slice A n c] 46
  generalize u.alloc (.cells [Value.slice A n c].toArray 46) = u3 at g3 q3 ⊢
  refine kp_mk g3 hb3 (fun h => h) (kp_mk g3 hb1 (fun h => h) (?_))
  refine (row1_calls A n c e.l _ u3 (sl_fr hs (f.trans1 g3)) q3 (by omega)).mono ?_
  rintro r u4 ⟨f4, A', c', rfl, h4⟩
  have g4 := g3.trans1 f4
  refine ⟨_, _, _, rfl, kp_mk g4 hb3 (fun h => h) (kp_mk g4 hb1 (fun h => h) (gd_mk (len1 hd) (gd_mk rfl (gd_mk (by simp [hd]) ?_))))⟩
  refine st_all (r5.fr g4 (fun h => h)) z28 (by simp [hd]) ((delE e x).one A' _ c') (fun u5 f5 r5' => ⟨?_, _, rfl, A', _, c', rfl, ?_, hd, fun _ k hk => ?_⟩)
  · exact fr_own (f.trans1 g4) f5 hb5
  · exact sl_fr1 h4 f5 (by have := g3.size; have := r5.lt; omega)
  · have := (h4.blt hk).1; have := f.size; have := g3.size; omega
def zE : En := ⟨List.replicate 32 0, 0, 0, 0, 0, 0, []⟩
def keepE (e : En) (sg : List Int) : En × Bool :=
  if both e.l sg = [] ∧ (e.s ∉ sg ∨ e.k = 5) then (zE, false)
  else if e.s ∉ sg then (⟨e.d, 5, 0, 0, 0, 0, both e.l sg⟩, true) else (⟨e.d, e.k, e.z, e.s, e.o, e.q, both e.l sg⟩, true)
theorem splice_lastE {p : List Value} {v v' : Value} {k : Nat} (hk : p.length = k) : splice (p ++ [v]) k [v'] = p ++ [v'] := by
  unfold splice
  rw [List.take_left' hk, List.drop_of_length_le (by simp; omega)]
  simp
theorem En.splice_l (e : En) (A A' : Option Addr) (n n' c c' : Nat) (l : List Int) (hd : e.d.length = 32) : splice (e.cs A n c) 37 [.slice A' n' c'] = (⟨e.d, e.k, e.z, e.s, e.o, e.q, l⟩ : En).cs A' n' c' := by
  have h : ∀ (B : Option Addr) (m k : Nat), e.d.map bv ++ [Value.int .i64 e.k, .int .i64 e.z, .int .i64 e.s, .int .i64 e.o, .int .i64 e.q, .slice B m k] = (e.d.map bv ++ [Value.int .i64 e.k, .int .i64 e.z, .int .i64 e.s, .int .i64 e.o, .int .i64 e.q]) ++ [.slice B m k] := fun B m k => by simp
  unfold En.cs
  rw [h, h, splice_lastE (by simp [hd])]
theorem both_lenE (l sg : List Int) : (both l sg).length ≤ l.length := Nat.le_trans (norm_len _) (List.length_filter_le _ _)
theorem keepE_len (e : En) (sg : List Int) : (keepE e sg).1.l.length ≤ e.l.length := by
  have := both_lenE e.l sg
  unfold keepE
  split
  · exact Nat.zero_le _
  · split <;> exact this
end Go.Proofs.YthcclmlbkfadcaaGreat
/- a row of cells as chunks of 38 -/
namespace Go.Proofs.YthcclmlbkfadcaaGreat
open Go.GV Go.RowKit Go.Lib
set_option linter.unusedVariables false
set_option linter.unusedSimpArgs false
/-! ### a row of cells as chunks -/
def chunk (vs : List Value) (i : Nat) : List Value := (vs.drop (i * 38)).take 38
theorem chunk_l {vs us : List Value} {i : Nat} (h : (i + 1) * 38 ≤ vs.length) : chunk (vs ++ us) i = chunk vs i := by
  unfold chunk
  rw [List.drop_append_of_le_length (by omega), List.take_append_of_le_length (by rw [List.length_drop]; omega)]
theorem chunk_r {vs us : List Value} {n j : Nat} (h : vs.length = n * 38) : chunk (vs ++ us) (n + j) = chunk us j := by
  unfold chunk
  rw [Nat.add_mul, ← h, List.drop_append, List.drop_of_length_le (by omega), List.nil_append]
  congr 2; omega
theorem chunk_take {vs : List Value} {k i : Nat} (h : i < k) : chunk (vs.take (k * 38)) i = chunk vs i := by
  unfold chunk
  rw [List.drop_take, List.take_take, Nat.min_eq_left (by omega)]
theorem chunk_drop {vs : List Value} {k i : Nat} : chunk (vs.drop (k * 38)) i = chunk vs (k + i) := by
  unfold chunk
  rw [List.drop_drop, Nat.add_mul]
theorem chunk_one {cs : List Value} (h : cs.length = 38) : chunk cs 0 = cs := by
  unfold chunk
  rw [Nat.zero_mul, List.drop_zero, List.take_of_length_le (by omega)]
theorem chunk_get {vs : List Value} {i j : Nat} (hj : j < 38) : (chunk vs i)[j]? = vs[i * 38 + j]? := by
  unfold chunk
  rw [List.getElem?_take, if_pos hj, List.getElem?_drop]
theorem chunk_set {vs cs : List Value} {k i : Nat} (hl : cs.length = 38) (hk : (k + 1) * 38 ≤ vs.length) : chunk (splice vs (k * 38) cs) i = if i = k then cs else chunk vs i := by
  have hfit : k * 38 + cs.length ≤ vs.length := by omega
  apply List.ext_getElem?
  intro j
  by_cases hj : j < 38
  · rw [chunk_get hj, splice_get hfit, hl]
    by_cases hik : i = k
    · subst hik
      rw [if_pos rfl, if_neg (by omega), if_pos (by omega)]
      congr 1; omega
    · rw [if_neg hik, chunk_get hj]
      by_cases h1 : i < k
      · rw [if_pos (by omega)]
      · rw [if_neg (by omega), if_neg (by omega)]
  · have hlen : ∀ x : List Value, (chunk x i)[j]? = none := fun x => by
      unfold chunk
      rw [List.getElem?_take, if_neg hj]
    rw [hlen]
    split
    · rw [List.getElem?_eq_none (by omega)]
    · rw [hlen]
end Go.Proofs.YthcclmlbkfadcaaGreat
/- rows of entries, as they lie -/
namespace Go.Proofs.YthcclmlbkfadcaaGreat
open Go.GV Go.RowKit Go.Lib
set_option linter.unusedVariables false
set_option linter.unusedSimpArgs false
theorem EnP.mono {P P' : Nat → Prop} {w : World} {cs : List Value} {e : En} (h : EnP P w cs e) (hP : ∀ k, k < w.heap.size → P k → P' k) : EnP P' w cs e := by
  obtain ⟨A, n, c, h1, h2, h3, h4⟩ := h
  exact ⟨A, n, c, h1, h2, h3, fun h0 k hk => hP k (h2.blt (by decide) h0 hk) (h4 h0 k hk)⟩
theorem EnP.fr {P D : Nat → Prop} {w w' : World} {cs : List Value} {e : En} (h : EnP P w cs e) (f : Fr D w w') (hD : ∀ k, P k → ¬ D k) : EnP P w' cs e := by
  obtain ⟨A, n, c, h1, h2, h3, h4⟩ := h
  exact ⟨A, n, c, h1, f.sl h2 (fun h0 k hk => hD k (h4 h0 k hk)), h3, h4⟩
theorem EnP.fr0 {P : Nat → Prop} {w w' : World} {cs : List Value} {e : En} (h : EnP P w cs e) (f : Fr (fun _ => False) w w') : EnP P w' cs e := h.fr f (fun _ _ h => h)
theorem EnP.len {P : Nat → Prop} {w : World} {cs : List Value} {e : En} (h : EnP P w cs e) : cs.length = 38 := h.at.len
theorem EnP.one {P : Nat → Prop} {w : World} {cs : List Value} {e : En} (h : EnP P w cs e) : ∀ v ∈ cs, v.oneCell' = true := h.at.one
structure ERow (P : Nat → Prop) (w : World) (vs : List Value) (l : List En) : Prop where
  len : vs.length = l.length * 38
  at_ : ∀ (i : Nat) (e : En), l[i]? = some e → EnP P w (chunk vs i) e
theorem ERow.nil (P : Nat → Prop) (w : World) : ERow P w [] [] := ⟨rfl, fun i e h => by simp at h⟩
theorem ERow.mono {P P' : Nat → Prop} {w : World} {vs : List Value} {l : List En} (h : ERow P w vs l) (hP : ∀ k, k < w.heap.size → P k → P' k) : ERow P' w vs l := ⟨h.len, fun i e hi => (h.at_ i e hi).mono hP⟩
theorem ERow.fr {P D : Nat → Prop} {w w' : World} {vs : List Value} {l : List En} (h : ERow P w vs l) (f : Fr D w w') (hD : ∀ k, P k → ¬ D k) : ERow P w' vs l := ⟨h.len, fun i e hi => (h.at_ i e hi).fr f hD⟩
theorem ERow.one {P : Nat → Prop} {w : World} {cs : List Value} {e : En} (h : EnP P w cs e) : ERow P w cs [e] := by
  refine ⟨by rw [h.len]; rfl, fun i x hi => ?_⟩
  match i, hi with
  | 0, hi => injection hi with hi; subst hi; rw [chunk_one h.len]; exact h
  | i + 1, hi => simp at hi
theorem ERow.app {P : Nat → Prop} {w : World} {vs us : List Value} {l m : List En} (h : ERow P w vs l) (h' : ERow P w us m) : ERow P w (vs ++ us) (l ++ m) := by
  refine ⟨by rw [List.length_append, List.length_append, h.len, h'.len, Nat.add_mul], fun i e hi => ?_⟩
  by_cases hil : i < l.length
  · rw [List.getElem?_append_left hil] at hi
    rw [chunk_l (by rw [h.len]; exact Nat.mul_le_mul_right _ hil)]
    exact h.at_ i e hi
  · rw [List.getElem?_append_right (by omega)] at hi
    have : i = l.length + (i - l.length) := by omega
    rw [this, chunk_r h.len]
    exact h'.at_ _ e hi
theorem ERow.take {P : Nat → Prop} {w : World} {vs : List Value} {l : List En} (h : ERow P w vs l) (k : Nat) : ERow P w (vs.take (k * 38)) (l.take k) := by
  refine ⟨by rw [List.length_take, List.length_take, h.len]; omega, fun i e hi => ?_⟩
  rw [List.getElem?_take] at hi
  split at hi
  · rw [chunk_take (by assumption)]; exact h.at_ i e hi
  · cases hi
theorem ERow.drop {P : Nat → Prop} {w : World} {vs : List Value} {l : List En} (h : ERow P w vs l) (k : Nat) : ERow P w (vs.drop (k * 38)) (l.drop k) := by
  refine ⟨by rw [List.length_drop, List.length_drop, h.len]; omega, fun i e hi => ?_⟩
  rw [List.getElem?_drop] at hi
  rw [chunk_drop]; exact h.at_ _ e hi
theorem ERow.set {P : Nat → Prop} {w : World} {vs cs : List Value} {l : List En} {k : Nat} {e : En} (h : ERow P w vs l) (he : EnP P w cs e) (hk : k < l.length) : ERow P w (splice vs (k * 38) cs) (l.set k e) := by
  have hfit : (k + 1) * 38 ≤ vs.length := by rw [h.len]; exact Nat.mul_le_mul_right _ hk
  have hl := he.len
  refine ⟨by rw [splice_length (by omega), List.length_set]; exact h.len, fun i x hi => ?_⟩
  rw [chunk_set hl hfit]
  by_cases hik : i = k
  · subst hik
    rw [if_pos rfl]
    rw [List.getElem?_set_self hk] at hi
    injection hi with hi; subst hi; exact he
  · rw [if_neg hik]
    rw [List.getElem?_set_ne (fun h => hik h.symm)] at hi
    exact h.at_ i x hi
theorem ERow.ones {P : Nat → Prop} {w : World} {vs : List Value} {l : List En} (h : ERow P w vs l) : ∀ v ∈ vs, v.oneCell' = true := by
  intro v hv
  obtain ⟨j, hj, rfl⟩ := List.mem_iff_getElem.1 hv
  have hi : j / 38 < l.length := by
    have := h.len
    omega
  have h1 := h.at_ (j / 38) _ (List.getElem?_eq_getElem hi)
  refine h1.one _ (List.mem_of_getElem? (i := j % 38) ?_)
  rw [chunk_get (by omega), List.getElem?_eq_some_iff]
  refine ⟨by omega, ?_⟩
  congr 1; omega
/-- a table that can be read -/
def RE (P : Nat → Prop) (w : World) (A : Option Addr) (n : Nat) (l : List En) : Prop := ∃ vs, Sl w 38 A n vs ∧ ERow P w vs l
theorem RE.len {P : Nat → Prop} {w : World} {A : Option Addr} {n : Nat} {l : List En} (h : RE P w A n l) : l.length = n := by
  obtain ⟨vs, h1, h2⟩ := h
  have := h1.1
  rw [h2.len] at this
  omega
theorem RE.fr {P D : Nat → Prop} {w w' : World} {A : Option Addr} {n : Nat} {l : List En} (h : RE P w A n l) (f : Fr D w w') (hD : ∀ k, P k → ¬ D k) (hA : n ≠ 0 → ∀ k, blkOf A = some k → ¬ D k) : RE P w' A n l := by
  obtain ⟨vs, h1, h2⟩ := h
  exact ⟨vs, f.sl h1 hA, h2.fr f hD⟩
theorem RE.fr0 {P : Nat → Prop} {w w' : World} {A : Option Addr} {n : Nat} {l : List En} (h : RE P w A n l) (f : Fr (fun _ => False) w w') : RE P w' A n l := h.fr f (fun _ _ h => h) (fun _ _ _ h => h)
theorem RE.mono {P P' : Nat → Prop} {w : World} {A : Option Addr} {n : Nat} {l : List En} (h : RE P w A n l) (hP : ∀ k, k < w.heap.size → P k → P' k) : RE P' w A n l := by
  obtain ⟨vs, h1, h2⟩ := h
  exact ⟨vs, h1, h2.mono hP⟩
theorem RE.nil (P : Nat → Prop) (w : World) (A : Option Addr) : RE P w A 0 [] := ⟨[], Sl.nil _ _ _, ERow.nil _ _⟩
/-- a step of a loop over a table -/
theorem e_rd {P : Nat → Prop} {w : World} {A : Option Addr} {n : Nat} {l : List En} (h : RE P w A n l) {i : Nat} {e : En} (hi : l[i]? = some e) {X : Nat → Nat → Prop}
    (hX : ∀ b o cs, A = some ⟨b, o, none⟩ → EnP P w cs e → cellsAt w b (o + ((i : Int)).toNat * 38) cs → X b o) : dr A fun b o => gd (decide (0 ≤ (i : Int))) (gd (decide ((i : Int) < ((n : Nat) : Int))) (X b o)) := by
  have hl := h.len
  have hil := (List.getElem?_eq_some_iff.1 hi).1
  obtain ⟨vs, h1, h2⟩ := h
  obtain ⟨b, o, rfl, hc⟩ := h1.2 (by omega)
  have ht := h2.at_ i e hi
  refine dr_mk (gd_mk (decide_eq_true (by omega)) (gd_mk (decide_eq_true (by omega)) (hX b o _ rfl ht ?_)))
  rw [Int.toNat_natCast]
  intro j v hj
  have hj38 : j < 38 := by have := (List.getElem?_eq_some_iff.1 hj).1; rw [ht.len] at this; exact this
  rw [chunk_get hj38] at hj
  rw [Nat.add_assoc]
  exact hc _ v hj
theorem e_dig {P : Nat → Prop} {w w' : World} {cs : List Value} {e : En} {b p : Nat} (h : EnP P w' cs e) (hc : cellsAt w b p cs) : cellsAt w b p (e.d.map bv) := by
  obtain ⟨A, n, c, rfl, _⟩ := h
  intro j v hj
  have hj' := (List.getElem?_eq_some_iff.1 hj).1
  refine hc j v ?_
  unfold En.cs
  rw [List.getElem?_append_left hj']; exact hj
theorem e_fld {P : Nat → Prop} {w w' : World} {cs : List Value} {e : En} {b p : Nat} (h : EnP P w' cs e) (hc : cellsAt w b p cs) {j : Nat} {v : Value} (hj : [Value.int .i64 e.k, .int .i64 e.z, .int .i64 e.s, .int .i64 e.o, .int .i64 e.q][j]? = some v) : cellAt w b (p + (32 + j)) = some v := by
  obtain ⟨A, n, c, rfl, _, hd, _⟩ := h
  have hj' := (List.getElem?_eq_some_iff.1 hj).1
  refine hc (32 + j) v ?_
  unfold En.cs
  rw [List.getElem?_append_right (by simp [hd])]
  rw [show 32 + j - (e.d.map bv).length = j by simp [hd]]
  have : [Value.int .i64 e.k, .int .i64 e.z, .int .i64 e.s, .int .i64 e.o, .int .i64 e.q, .slice A n c] = [Value.int .i64 e.k, .int .i64 e.z, .int .i64 e.s, .int .i64 e.o, .int .i64 e.q] ++ [.slice A n c] := rfl
  rw [this, List.getElem?_append_left hj']; exact hj
theorem EnP.dl {P : Nat → Prop} {w : World} {cs : List Value} {e : En} (h : EnP P w cs e) : e.d.length = 32 := by
  obtain ⟨A, n, c, _, _, hd, _⟩ := h
  exact hd
/-- a table of one's own -/
def OE (P : Nat → Prop) (w : World) (B : Nat) (A : Option Addr) (n c : Nat) (l : List En) : Prop := ∃ vs, Row w B 48 38 A n c vs ∧ ERow (fun k => blkOf A ≠ some k ∧ P k) w vs l
theorem OE.rt {P : Nat → Prop} {w : World} {B : Nat} {A : Option Addr} {n c : Nat} {l : List En} (h : OE P w B A n c l) : RE P w A n l := by
  obtain ⟨vs, h1, h2⟩ := h
  exact ⟨vs, h1.sl, h2.mono (fun _ _ h => h.2)⟩
theorem OE.nil (P : Nat → Prop) (w : World) (B : Nat) : OE P w B none 0 0 [] := ⟨[], Row.nil _ _ _ _, ERow.nil _ _⟩
theorem OE.fr {P D : Nat → Prop} {w w' : World} {B : Nat} {A : Option Addr} {n c : Nat} {l : List En} (h : OE P w B A n c l) (f : Fr D w w') (hD : ∀ k, P k → ¬ D k) (hA : ∀ k, blkOf A = some k → ¬ D k) : OE P w' B A n c l := by
  obtain ⟨vs, h1, h2⟩ := h
  exact ⟨vs, f.row h1 hA, h2.fr f (fun k hk => hD k hk.2)⟩
theorem OE.fr0 {P : Nat → Prop} {w w' : World} {B : Nat} {A : Option Addr} {n c : Nat} {l : List En} (h : OE P w B A n c l) (f : Fr (fun _ => False) w w') : OE P w' B A n c l := h.fr f (fun _ _ h => h) (fun _ _ h => h)
theorem OE.mono {P P' : Nat → Prop} {w : World} {B B' : Nat} {A : Option Addr} {n c : Nat} {l : List En} (h : OE P w B A n c l) (hB : B' ≤ B) (hP : ∀ k, k < w.heap.size → P k → P' k) : OE P' w B' A n c l := by
  obtain ⟨vs, h1, h2⟩ := h
  exact ⟨vs, row_low hB h1, h2.mono (fun k hk h => ⟨h.1, hP k hk h.2⟩)⟩
theorem OE.blt {P : Nat → Prop} {w : World} {B : Nat} {A : Option Addr} {n c : Nat} {l : List En} (h : OE P w B A n c l) {k : Nat} (hk : blkOf A = some k) : B ≤ k ∧ k < w.heap.size := by
  obtain ⟨vs, h1, h2⟩ := h
  exact h1.blt hk
set_option maxRecDepth 10000 in
theorem pushE {P : Nat → Prop} {w : World} {B : Nat} {A : Option Addr} {n c : Nat} {l : List En} {cs : List Value} {e : En} {K : Option Addr → Nat → Nat → World → Prop} (hr : OE P w B A n c l) (he : EnP (fun k => blkOf A ≠ some k ∧ P k) w cs e) (hB : B ≤ w.heap.size) (hn : n ≤ 1073741824)
    (hK : ∀ A' c' w', OE P w' B A' (n + 1) c' (l ++ [e]) → Fr (fun k => blkOf A = some k) w w' → (∀ k, blkOf A' = some k → blkOf A = some k ∨ w.heap.size ≤ k) → K A' (n + 1) c' w') :
    gd (cs.length == 38) (nw w (cs ++ []) 48 fun b w' => app w' 38 96 Z48 48 A n c (.slice (some ⟨b, 0, none⟩) 1 1) K) := by
  refine gd_mk (by rw [he.len]; rfl) (nw_mk ?_)
  rw [List.append_nil]
  have hl := he.len
  have f1 : Fr (fun _ => False) w (w.alloc (.cells cs.toArray 48)) := Fr.alloc _ _ _
  have r1 : Row (w.alloc (.cells cs.toArray 48)) 0 48 38 (some ⟨w.heap.size, 0, none⟩) 1 1 cs := Row.new (Nat.zero_le _) (by rw [hl])
  have hs : (w.alloc (.cells cs.toArray 48)).heap.size = w.heap.size + 1 := alloc_size _ _
  have h1 := he.one
  obtain ⟨vs, hv, ht⟩ := hr
  have hA : ∀ k, blkOf A = some k → k < w.heap.size := fun k hk => (hv.blt hk).2
  have ht1 := (ht.app (ERow.one he)).mono (P' := fun k => (blkOf A ≠ some k ∧ P k) ∧ k < w.heap.size) (fun k hk h => ⟨h, hk⟩)
  have ht1 := ht1.fr f1 (fun _ _ h => h)
  generalize w.alloc (.cells cs.toArray 48) = w1 at f1 r1 hs ht1 ⊢
  refine app_row2 (f1.row hv (fun _ _ h => h)) r1.sl.src h1 rfl (by omega) (by omega) (by omega) (fun A' c' w' hr' f' hnew => hK A' c' w' ⟨_, hr', ?_⟩ ?_ ?_)
  · refine (ht1.fr f' (fun k hk h => hk.1.1 h)).mono (fun k _ hk => ⟨fun h => ?_, hk.1.2⟩)
    rcases hnew k h with h' | h'
    · exact hk.1.1 h'
    · have := hk.2; omega
  · exact f1.trans f' (fun _ _ h => h.elim) (fun _ _ h => h)
  · intro k hk
    rcases hnew k hk with h' | h'
    · exact .inl h'
    · exact .inr (by omega)
end Go.Proofs.YthcclmlbkfadcaaGreat
/- Clone of rows of ints -/
namespace Go.Proofs.YthcclmlbkfadcaaGreat
open Go.GV Go.RowKit Go.Lib
set_option linter.unusedVariables false
set_option linter.unusedSimpArgs false
/-! ### copies -/
theorem clI_calls (A : Option Addr) (n c : Nat) (l : List Int) (w : World) (h : Sl w 1 A n (ivs l)) (hn : n ≤ 17179869184) :
    Calls Tryz.prog 113 #[.slice A n c] w fun e w' => Fr (fun _ => False) w w' ∧ ∃ A' c', e = .returned (.slice A' n c') ∧ Row w' w.heap.size 3 1 A' n c' (ivs l) := by
  refine (F113.of A n c w (Q := fun v w' => Fr (fun _ => False) w w' ∧ ∃ A' c', v = .slice A' n c' ∧ Row w' w.heap.size 3 1 A' n c' (ivs l)) ?_).mono (fun e w' ⟨v, he, hf, A', c', hv, h⟩ => ⟨hf, A', c', by rw [he, hv], h⟩)
  have hl := sl_n h
  refine vIf_mk (fun h0 => ?_) (fun h0 => nw_mk ?_)
  · have : n = 0 := by
      refine Classical.byContradiction fun hn0 => ?_
      obtain ⟨b, o, hA, _⟩ := h.2 hn0
      rw [hA] at h0; cases h0
    subst this
    have : l = [] := List.length_eq_zero_iff.1 hl
    subst this
    exact ⟨Fr.refl _ _, none, 0, rfl, Row.nil _ _ _ _⟩
  · have f1 : Fr (fun _ => False) w (w.alloc (.cells ([] : List Value).toArray 3)) := Fr.alloc _ _ _
    have r1 : Row (w.alloc (.cells ([] : List Value).toArray 3)) w.heap.size 3 1 (some ⟨w.heap.size, 0, none⟩) 0 0 [] := Row.new (Nat.le_refl _) rfl
    have hs : (w.alloc (.cells ([] : List Value).toArray 3)).heap.size = w.heap.size + 1 := alloc_size _ _
    generalize w.alloc (.cells ([] : List Value).toArray 3) = w1 at f1 r1 hs ⊢
    refine app_row r1 (sl_fr h f1).src (ivs_one l) rfl (by omega) (by omega) (by omega) (fun A' c' w' hr' f' => ⟨?_, A', c', ?_, ?_⟩)
    · exact f1.trans f' (fun _ _ h => h) (fun k hk h' => by simp only [blkOf, Option.some.injEq] at h'; omega)
    · rw [Nat.zero_add]
    · rw [Nat.zero_add, List.nil_append] at hr'; exact hr'
end Go.Proofs.YthcclmlbkfadcaaGreat
/- Open addressing, plainly: a round row of places; each key stands behind its home with no free place between. No program in sight. -/
namespace Go.Slots
set_option linter.unusedVariables false
def dist (N a b : Nat) : Nat := if a ≤ b then b - a else b + N - a
def adv (N a t : Nat) : Nat := if a + t < N then a + t else a + t - N
theorem adv_lt {N a t : Nat} (ha : a < N) (ht : t < N) : adv N a t < N := by unfold adv; split <;> omega
theorem dist_lt {N a b : Nat} (ha : a < N) (hb : b < N) : dist N a b < N := by unfold dist; split <;> omega
theorem adv_dist {N a b : Nat} (ha : a < N) (hb : b < N) : adv N a (dist N a b) = b := by unfold adv dist; split <;> split <;> omega
theorem dist_adv {N a t : Nat} (ha : a < N) (ht : t < N) : dist N a (adv N a t) = t := by unfold adv dist; split <;> split <;> omega
theorem mod_adv {N a t : Nat} (ha : a < N) (ht : t ≤ N) : (a + t) % N = if t = N then a else adv N a t := by
  unfold adv
  by_cases h : t = N
  · subst h; rw [if_pos rfl, Nat.add_mod_right, Nat.mod_eq_of_lt ha]
  · rw [if_neg h]
    split
    · rw [Nat.mod_eq_of_lt (by omega)]
    · rw [Nat.mod_eq_sub_mod (by omega), Nat.mod_eq_of_lt (by omega)]
section
variable {K V : Type} {home : K → Nat} {S : List (Option (K × V))} {N i : Nat} {k k' : K} {v v' : V}
/-- the place holds this key and value -/
def At (S : List (Option (K × V))) (i : Nat) (k : K) (v : V) : Prop := S[i]? = some (some (k, v))
def Full (S : List (Option (K × V))) (i : Nat) : Prop := ∃ k v, At S i k v
def Free (S : List (Option (K × V))) (i : Nat) : Prop := S[i]? = some none
structure Inv (home : K → Nat) (N : Nat) (S : List (Option (K × V))) : Prop where
  len : S.length = N
  hom : ∀ k, home k < N
  chain : ∀ p k v, At S p k v → ∀ t, t < dist N (home k) p → Full S (adv N (home k) t)
  one : ∀ p q k v v', At S p k v → At S q k v' → p = q
theorem At.lt (h : At S i k v) (hl : S.length = N) : i < N := by
  have := (List.getElem?_eq_some_iff.1 h).1; omega
theorem Full.lt (h : Full S i) (hl : S.length = N) : i < N := by obtain ⟨k, v, h⟩ := h; exact h.lt hl
theorem full_or_free (hl : S.length = N) (hi : i < N) : Full S i ∨ Free S i := by
  have h := List.getElem?_eq_getElem (l := S) (i := i) (by omega)
  cases hs : S[i]'(by omega) with
  | none => rw [hs] at h; exact .inr h
  | some x => rw [hs] at h; obtain ⟨k, v⟩ := x; exact .inl ⟨k, v, h⟩
theorem Full.not_free (h : Full S i) : ¬ Free S i := by
  obtain ⟨k, v, h⟩ := h
  intro hf
  unfold At at h; unfold Free at hf
  rw [h] at hf; cases hf
theorem At.uniq (h : At S i k v) (h' : At S i k' v') : k = k' ∧ v = v' := by
  unfold At at h h'
  rw [h] at h'
  injection h' with h'; injection h' with h'
  exact ⟨(Prod.mk.inj h').1, (Prod.mk.inj h').2⟩
/-- where a search for a key ends: t places behind the home -/
structure Ends (home : K → Nat) (N : Nat) (S : List (Option (K × V))) (k : K) (t : Nat) : Prop where
  lt : t < N
  before : ∀ t', t' < t → ∃ k' v', At S (adv N (home k) t') k' v' ∧ k' ≠ k
theorem Ends.absent (hI : Inv home N S) {k : K} {t : Nat} (h : Ends home N S k t) (hf : Free S (adv N (home k) t)) : ∀ p v, ¬ At S p k v := by
  intro p v hp
  have hpl := hp.lt hI.len
  have hh := hI.hom k
  have hd := dist_lt hh hpl
  rcases Nat.lt_trichotomy t (dist N (home k) p) with h1 | h1 | h1
  · exact (hI.chain p k v hp t h1).not_free hf
  · subst h1
    rw [adv_dist hh hpl] at hf
    exact Full.not_free ⟨k, v, hp⟩ hf
  · obtain ⟨k', v', h2, h3⟩ := h.before _ h1
    rw [adv_dist hh hpl] at h2
    exact h3 (h2.uniq hp).1
theorem set_at {i j : Nat} {o : Option (K × V)} (hi : i < S.length) : (S.set i o)[j]? = if i = j then some o else S[j]? := by
  rw [List.getElem?_set]
  by_cases h : i = j
  · rw [if_pos h, if_pos h, if_pos hi]
  · rw [if_neg h, if_neg h]
/-- a new key, put where its search ended -/
theorem Ends.put (hI : Inv home N S) {k : K} {t : Nat} (v : V) (h : Ends home N S k t) (hf : Free S (adv N (home k) t)) : Inv home N (S.set (adv N (home k) t) (some (k, v))) := by
  have hab := h.absent hI hf
  have hh := hI.hom k
  have hil : adv N (home k) t < S.length := by rw [hI.len]; exact adv_lt hh h.lt
  have keep : ∀ q, Full S q → Full (S.set (adv N (home k) t) (some (k, v))) q := fun q ⟨k', v', hq⟩ => by
    refine ⟨k', v', ?_⟩
    unfold At
    rw [set_at hil, if_neg]
    · exact hq
    · intro e; subst e; exact Full.not_free ⟨k', v', hq⟩ hf
  have old : ∀ p k' v', At (S.set (adv N (home k) t) (some (k, v))) p k' v' → (p = adv N (home k) t ∧ k' = k ∧ v' = v) ∨ At S p k' v' := fun p k' v' hp => by
    unfold At at hp
    rw [set_at hil] at hp
    split at hp
    · rename_i e
      injection hp with hp; injection hp with hp
      exact .inl ⟨e.symm, (Prod.mk.inj hp).1.symm, (Prod.mk.inj hp).2.symm⟩
    · exact .inr hp
  refine ⟨by rw [List.length_set]; exact hI.len, hI.hom, fun p k' v' hp s hs => ?_, fun p q k' v' v'' hp hq => ?_⟩
  · rcases old p k' v' hp with ⟨rfl, rfl, rfl⟩ | hp
    · rw [dist_adv hh h.lt] at hs
      obtain ⟨k2, v2, h2, _⟩ := h.before s hs
      exact keep _ ⟨k2, v2, h2⟩
    · exact keep _ (hI.chain p k' v' hp s hs)
  · rcases old p k' v' hp with ⟨a1, a2, a3⟩ | hp2 <;> rcases old q k' v'' hq with ⟨b1, b2, b3⟩ | hq2
    · rw [a1, b1]
    · rw [a2] at hq2; exact absurd hq2 (hab q v'')
    · rw [b2] at hp2; exact absurd hp2 (hab p v')
    · exact hI.one p q k' v' v'' hp2 hq2
/-- another value for a key that is there -/
theorem Inv.over (hI : Inv home N S) {i : Nat} {k : K} {v0 : V} (v : V) (h : At S i k v0) : Inv home N (S.set i (some (k, v))) := by
  have hil : i < S.length := by rw [hI.len]; exact h.lt hI.len
  have keep : ∀ q, Full S q → Full (S.set i (some (k, v))) q := fun q ⟨k', v', hq⟩ => by
    by_cases e : i = q
    · subst e; exact ⟨k, v, by unfold At; rw [set_at hil, if_pos rfl]⟩
    · exact ⟨k', v', by unfold At; rw [set_at hil, if_neg e]; exact hq⟩
  have old : ∀ p k' v', At (S.set i (some (k, v))) p k' v' → ∃ v2, At S p k' v2 := fun p k' v' hp => by
    unfold At at hp
    rw [set_at hil] at hp
    split at hp
    · rename_i e; subst e
      injection hp with hp; injection hp with hp
      obtain ⟨rfl, _⟩ := Prod.mk.inj hp
      exact ⟨v0, h⟩
    · exact ⟨v', hp⟩
  refine ⟨by rw [List.length_set]; exact hI.len, hI.hom, fun p k' v' hp s hs => ?_, fun p q k' v' v'' hp hq => ?_⟩
  · obtain ⟨v2, h2⟩ := old p k' v' hp
    exact keep _ (hI.chain p k' v2 h2 s hs)
  · obtain ⟨v2, h2⟩ := old p k' v' hp
    obtain ⟨v3, h3⟩ := old q k' v'' hq
    exact hI.one p q k' v2 v3 h2 h3
/-! ### taking a key away: the hole wanders -/
/-- the row with a hole: as if nothing stood there -/
structure Hole (home : K → Nat) (N : Nat) (S : List (Option (K × V))) (hole s e : Nat) : Prop where
  len : S.length = N
  hom : ∀ k, home k < N
  hlt : hole < N
  free : Free S hole
  elt : Free S e ∧ e ≠ hole
  s1 : 1 ≤ s
  sN : s ≤ dist N hole e
  chain : ∀ p k v, At S p k v → ∀ t, t < dist N (home k) p → Full S (adv N (home k) t) ∨ adv N (home k) t = hole
  scan : ∀ t, 1 ≤ t → t < s → ∃ k v, At S (adv N hole t) k v ∧ dist N (home k) (adv N hole t) < t
  one : ∀ p q k v v', At S p k v → At S q k v' → p = q
theorem Free.lt (h : Free S i) (hl : S.length = N) : i < N := by have := (List.getElem?_eq_some_iff.1 h).1; omega
/-- the place that is looked at stays -/
theorem Hole.stay {hole s e : Nat} (h : Hole home N S hole s e) {k : K} {v : V} (hat : At S (adv N hole s) k v) (hb : dist N (home k) (adv N hole s) < s) : Hole home N S hole (s + 1) e := by
  have helt := h.elt.1.lt h.len
  have hd := dist_lt h.hlt helt
  have hne : s ≠ dist N hole e := by
    intro hs
    rw [hs, adv_dist h.hlt helt] at hat
    exact Full.not_free ⟨k, v, hat⟩ h.elt.1
  have := h.sN
  refine ⟨h.len, h.hom, h.hlt, h.free, h.elt, by omega, by omega, h.chain, fun t h1 h2 => ?_, h.one⟩
  by_cases ht : t = s
  · subst ht; exact ⟨k, v, hat, hb⟩
  · exact h.scan t h1 (by omega)
/-- it moves into the hole, and leaves one -/
theorem Hole.move {hole s e : Nat} (h : Hole home N S hole s e) {k : K} {v : V} (hat : At S (adv N hole s) k v) (hb : s ≤ dist N (home k) (adv N hole s)) : Hole home N ((S.set hole (some (k, v))).set (adv N hole s) none) (adv N hole s) 1 e := by
  have helt := h.elt.1.lt h.len
  have hd := dist_lt h.hlt helt
  have hsN := h.sN
  have hs1 := h.s1
  have hlt := h.hlt
  have hil := hat.lt h.len
  have hne : s ≠ dist N hole e := by
    intro hs
    rw [hs, adv_dist h.hlt helt] at hat
    exact Full.not_free ⟨k, v, hat⟩ h.elt.1
  have hih : adv N hole s ≠ hole := by unfold adv; split <;> omega
  have hie : adv N hole s ≠ e := by
    intro he; rw [he] at hat; exact Full.not_free ⟨k, v, hat⟩ h.elt.1
  have hl1 : hole < S.length := by rw [h.len]; exact hlt
  have hl2 : adv N hole s < (S.set hole (some (k, v))).length := by rw [List.length_set, h.len]; exact hil
  have get : ∀ j, ((S.set hole (some (k, v))).set (adv N hole s) none)[j]? = if adv N hole s = j then some none else if hole = j then some (some (k, v)) else S[j]? := fun j => by
    rw [set_at hl2]
    split
    · rfl
    · rw [set_at hl1]
  have old : ∀ p k' v', At ((S.set hole (some (k, v))).set (adv N hole s) none) p k' v' → (p = hole ∧ k' = k ∧ v' = v) ∨ (At S p k' v' ∧ p ≠ adv N hole s ∧ p ≠ hole) := fun p k' v' hp => by
    unfold At at hp
    rw [get] at hp
    split at hp
    · cases hp
    · rename_i e1
      split at hp
      · rename_i e2
        injection hp with hp; injection hp with hp
        exact .inl ⟨e2.symm, (Prod.mk.inj hp).1.symm, (Prod.mk.inj hp).2.symm⟩
      · rename_i e2
        exact .inr ⟨hp, fun h => e1 h.symm, fun h => e2 h.symm⟩
  have keep : ∀ q, Full S q → q ≠ adv N hole s → Full ((S.set hole (some (k, v))).set (adv N hole s) none) q := fun q ⟨k', v', hq⟩ hqi => by
    by_cases e2 : hole = q
    · exact ⟨k, v, by unfold At; rw [get, if_neg (fun h => hqi h.symm), if_pos e2]⟩
    · exact ⟨k', v', by unfold At; rw [get, if_neg (fun h => hqi h.symm), if_neg e2]; exact hq⟩
  have hfull : Full ((S.set hole (some (k, v))).set (adv N hole s) none) hole := ⟨k, v, by unfold At; rw [get, if_neg hih, if_pos rfl]⟩
  have hh := h.hom k
  refine ⟨by rw [List.length_set, List.length_set]; exact h.len, h.hom, hil, by unfold Free; rw [get, if_pos rfl], ⟨by unfold Free; rw [get, if_neg hie, if_neg (fun h' => h.elt.2 h'.symm)]; exact h.elt.1, fun h' => hie h'.symm⟩, by omega, ?_, fun p k' v' hp t ht => ?_, fun t h1 h2 => by omega, fun p q k' v' v'' hp hq => ?_⟩
  · unfold dist; split <;> omega
  · rcases old p k' v' hp with ⟨rfl, rfl, rfl⟩ | ⟨hp, hp1, hp2⟩
    · have hdd : dist N (home k') (adv N p s) = dist N (home k') p + s := by
        revert hb
        unfold dist adv
        split <;> split <;> split <;> omega
      have hne2 : adv N (home k') t ≠ p := by
        intro he
        have := dist_adv hh (show t < N by have := dist_lt hh hlt; omega)
        rw [he] at this; omega
      have hne3 : adv N (home k') t ≠ adv N p s := by
        intro he
        have := dist_adv hh (show t < N by have := dist_lt hh hlt; omega)
        rw [he, hdd] at this; omega
      rcases h.chain _ k' v' hat t (by omega) with h3 | h3
      · exact .inl (keep _ h3 hne3)
      · exact absurd h3 hne2
    · rcases h.chain p k' v' hp t ht with h3 | h3
      · by_cases e3 : adv N (home k') t = adv N hole s
        · exact .inr e3
        · exact .inl (keep _ h3 e3)
      · rw [h3]; exact .inl hfull
  · rcases old p k' v' hp with ⟨a1, a2, a3⟩ | ⟨hp2, hp3, hp4⟩ <;> rcases old q k' v'' hq with ⟨b1, b2, b3⟩ | ⟨hq2, hq3, hq4⟩
    · rw [a1, b1]
    · rw [a2] at hq2; exact absurd (h.one _ _ _ _ _ hat hq2) (fun h => hq3 h.symm)
    · rw [b2] at hp2; exact absurd (h.one _ _ _ _ _ hp2 hat) hp3
    · exact h.one p q k' v' v'' hp2 hq2
/-- a free place behind the hole: the row is whole -/
theorem Hole.done {hole s e : Nat} (h : Hole home N S hole s e) (hf : Free S (adv N hole s)) : Inv home N S := by
  have helt := h.elt.1.lt h.len
  have hd := dist_lt h.hlt helt
  have hsN := h.sN
  have hs1 := h.s1
  have hlt := h.hlt
  refine ⟨h.len, h.hom, fun p k v hp t ht => ?_, h.one⟩
  rcases h.chain p k v hp t ht with h1 | h1
  · exact h1
  · exfalso
    have hpl := hp.lt h.len
    have hh := h.hom k
    have hdp := dist_lt hh hpl
    have hph : p ≠ hole := by intro he; subst he; exact Full.not_free ⟨k, v, hp⟩ h.free
    have hu : dist N (home k) p = t + dist N hole p := by
      revert h1 ht
      unfold dist adv
      split <;> split <;> split <;> omega
    have hup := dist_lt hlt hpl
    have hu1 : dist N hole p ≠ 0 := by unfold dist; split <;> omega
    rcases Nat.lt_trichotomy (dist N hole p) s with h2 | h2 | h2
    · obtain ⟨k', v', h3, h4⟩ := h.scan (dist N hole p) (by omega) h2
      rw [adv_dist hlt hpl] at h3 h4
      obtain ⟨rfl, rfl⟩ := h3.uniq hp
      omega
    · rw [← h2, adv_dist hlt hpl] at hf
      exact Full.not_free ⟨k, v, hp⟩ hf
    · have ha : adv N (home k) (t + s) = adv N hole s := by
        revert h1
        unfold adv
        have := hu
        split <;> split <;> split <;> omega
      rcases h.chain p k v hp (t + s) (by omega) with h3 | h3
      · rw [ha] at h3; exact h3.not_free hf
      · rw [ha] at h3
        revert h3
        unfold adv
        split <;> omega
end
end Go.Slots
