import Derived.Test.YthcclmlbkfadcaaGreatP1
/- PRINTED BY MY OWN gen.py out of the translation: each function as a proposition. -/
namespace Go.Proofs.YthcclmlbkfadcaaGreat
open Go.GV
set_option linter.unusedVariables false
set_option maxRecDepth 100000
/-! ### function 5: stillage/stillagelaw22.StateDoes -/
def F5.k12c (Q : Value → World → Prop) (C4 : ((Option Addr × Nat × Nat) × Option Addr × (Nat × Nat) × Int × Unit) → World → Prop) (x1 : (Option Addr × Nat × Nat)) (x5 : Option Addr) (x6 : (Nat × Nat)) (x7 : Int) (x8 : (Nat × Nat)) (w : World) : Prop :=
  ldA 3 w.drew x6.1 x6.2 fun a32 =>
  Calls Tryz.prog 11 #[Value.pointer x5] w.drew fun e34 w33 =>
  ∃ a35 : List Value, e34 = .returned (ofL a35) ∧ (
    kp w.drew x6.1 x6.2 3 w33 <|
    Calls Tryz.prog 32 #[ofL a35, ofL a32] w33 fun e37 w36 =>
    ∃ t38 : Bool, e37 = .returned (Value.bool t38) ∧ (
      vIf (!t38)
      (Q (Value.bool false) w36)
      (ldI .i64 w36 x8.1 (x8.2 + 36) fun i39 =>
        ldA 3 w36 x6.1 x6.2 fun a40 =>
        ldI .i64 w36 x8.1 (x8.2 + 36) fun i41 =>
        Calls Tryz.prog 12 #[Value.pointer x5, Value.int .i64 i39] w36 fun e43 w42 =>
        ∃ (A44 : Option Addr) (n45 c46 : Nat), e43 = .returned (Value.slice A44 n45 c46) ∧ (
          kp w36 x8.1 (x8.2 + 36) 1 w42 <|
          kp w36 x6.1 x6.2 3 w42 <|
          Calls Tryz.prog 34 #[ofL a40, Value.int .i64 i41] w42 fun e48 w47 =>
          ∃ (A49 : Option Addr) (n50 c51 : Nat), e48 = .returned (Value.slice A49 n50 c51) ∧ (
            Calls Tryz.prog 33 #[Value.slice A44 n45 c46, Value.slice A49 n50 c51] w47 fun e53 w52 =>
            ∃ t54 : Bool, e53 = .returned (Value.bool t54) ∧ (
              vIf (!t54)
              (Q (Value.bool false) w52)
              (ldA 3 w52 x6.1 x6.2 fun a55 =>
                Calls Tryz.prog 36 #[Value.pointer x5] w52 fun e57 w56 =>
                ∃ (A58 : Option Addr) (n59 c60 : Nat), e57 = .returned (Value.slice A58 n59 c60) ∧ (
                  kp w52 x6.1 x6.2 3 w56 <|
                  Calls Tryz.prog 37 #[ofL a55] w56 fun e62 w61 =>
                  ∃ (A63 : Option Addr) (n64 c65 : Nat), e62 = .returned (Value.slice A63 n64 c65) ∧ (
                    Calls Tryz.prog 35 #[Value.slice A58 n59 c60, Value.slice A63 n64 c65] w61 fun e67 w66 =>
                    ∃ t68 : Bool, e67 = .returned (Value.bool t68) ∧ (
                      vIf (!t68)
                      (Q (Value.bool false) w66)
                      (jnC C4 ((x1.1, x1.2.1, x1.2.2), x5, (x6.1, x6.2), ((IntKind.wrap .i64 (x7 + 1))), ()) w66)))))))))))
def F5.k12 (Q : Value → World → Prop) (C4 : ((Option Addr × Nat × Nat) × Option Addr × (Nat × Nat) × Int × Unit) → World → Prop) : ((Option Addr × Nat × Nat) × Option Addr × (Nat × Nat) × Int × (Nat × Nat) × Unit) → World → Prop := fun s w => ∀ _ : Nat → Value, F5.k12c Q C4 s.1 s.2.1 s.2.2.1 s.2.2.2.1 s.2.2.2.2.1 w
def F5.b4c (Q : Value → World → Prop) (C4 : ((Option Addr × Nat × Nat) × Option Addr × (Nat × Nat) × Int × Unit) → World → Prop) (x1 : (Option Addr × Nat × Nat)) (x5 : Option Addr) (x6 : (Nat × Nat)) (x7 : Int) (w : World) : Prop :=
  vIf (decide (x7 < ((x1.2.1 : Nat) : Int)))
  (dr x1.1 fun b14 o15 =>
    gd (decide (0 ≤ x7)) <|
    gd (decide (x7 < ((x1.2.1 : Nat) : Int))) <|
    ldA 39 w b14 ((o15 + (x7).toNat * 41) + 1) fun a16 =>
    nw w Z37 37 fun b17 w18 =>
    gd (a16.length == 39) <|
    st w18 b17 0 a16 fun w19 =>
    dr x1.1 fun b20 o21 =>
    gd (decide (0 ≤ x7)) <|
    gd (decide (x7 < ((x1.2.1 : Nat) : Int))) <|
    ldI .i64 w19 b20 (o21 + (x7).toNat * 41) fun i22 =>
    vIf (i22 == 0)
    (ldA 39 w19 b17 0 fun a23 =>
      Calls Tryz.prog 9 #[Value.pointer x5, ofL a23] w19 fun e25 w24 =>
      e25 = .returned (Value.tuple #[]) ∧ (
        ldA 3 w24 x6.1 x6.2 fun a26 =>
        ldA 39 w24 b17 0 fun a27 =>
        Calls Tryz.prog 29 #[ofL a26, ofL a27] w24 fun e29 w28 =>
        ∃ a30 : List Value, e29 = .returned (ofL a30) ∧ (
          gd (a30.length == 3) <|
          st w28 x6.1 x6.2 a30 fun w31 =>
          jnC (F5.k12 Q C4) ((x1.1, x1.2.1, x1.2.2), x5, (x6.1, x6.2), (x7), (b17, 0), ()) w31)))
    (dr x1.1 fun b69 o70 =>
      gd (decide (0 ≤ x7)) <|
      gd (decide (x7 < ((x1.2.1 : Nat) : Int))) <|
      ldSl w19 b69 ((o70 + (x7).toNat * 41) + 40) fun A71 n72 c73 =>
      Calls Tryz.prog 30 #[Value.pointer x5, Value.slice A71 n72 c73] w19 fun e75 w74 =>
      e75 = .returned (Value.tuple #[]) ∧ (
        ldA 3 w74.drew x6.1 x6.2 fun a76 =>
        dr x1.1 fun b77 o78 =>
        gd (decide (0 ≤ x7)) <|
        gd (decide (x7 < ((x1.2.1 : Nat) : Int))) <|
        ldSl w74.drew b77 ((o78 + (x7).toNat * 41) + 40) fun A79 n80 c81 =>
        Calls Tryz.prog 31 #[ofL a76, Value.slice A79 n80 c81] w74.drew fun e83 w82 =>
        ∃ a84 : List Value, e83 = .returned (ofL a84) ∧ (
          gd (a84.length == 3) <|
          st w82 x6.1 x6.2 a84 fun w85 =>
          jnC (F5.k12 Q C4) ((x1.1, x1.2.1, x1.2.2), x5, (x6.1, x6.2), (x7), (b17, 0), ()) w85))))
  (ldA 3 w.drew x6.1 x6.2 fun a86 =>
    Calls Tryz.prog 11 #[Value.pointer x5] w.drew fun e88 w87 =>
    ∃ a89 : List Value, e88 = .returned (ofL a89) ∧ (
      kp w.drew x6.1 x6.2 3 w87 <|
      Calls Tryz.prog 32 #[ofL a89, ofL a86] w87 fun e91 w90 =>
      ∃ t92 : Bool, e91 = .returned (Value.bool t92) ∧ (
        vIf t92
        (Calls Tryz.prog 10 #[] w90 fun e94 w93 =>
          ∃ t95 : Bool, e94 = .returned (Value.bool t95) ∧ (
            Q (Value.bool t95) w93))
        (Q (Value.bool false) w90))))
def F5.b4 (Q : Value → World → Prop) : ((Option Addr × Nat × Nat) × Option Addr × (Nat × Nat) × Int × Unit) → World → (((Option Addr × Nat × Nat) × Option Addr × (Nat × Nat) × Int × Unit) → World → Prop) → Prop := fun s w C4 => ∀ _ : Nat → Value, F5.b4c Q C4 s.1 s.2.1 s.2.2.1 s.2.2.2.1 w
def F5.l4 (Q : Value → World → Prop) : ((Option Addr × Nat × Nat) × Option Addr × (Nat × Nat) × Int × Unit) → World → Prop := fun s w => ∃ n, loopC (F5.b4 Q) n s w
def F5.vc (x0 : List Value) (x1A : Option Addr) (x1n x1c : Nat) (w : World) (Q : Value → World → Prop) : Prop :=
  nw w x0 30 fun b1 w2 =>
  ldA 7 w2 b1 0 fun a3 =>
  Calls Tryz.prog 8 #[ofL a3] w2 fun e5 w4 =>
  ∃ p6 : Option Addr, e5 = .returned (Value.pointer p6) ∧ (
    ldA 7 w4 b1 0 fun a7 =>
    Calls Tryz.prog 14 #[ofL a7] w4 fun e9 w8 =>
    ∃ a10 : List Value, e9 = .returned (ofL a10) ∧ (
      nw w8 [Value.slice none 0 0, Value.slice none 0 0, Value.slice none 0 0] 44 fun b11 w12 =>
      gd (a10.length == 3) <|
      st w12 b11 0 a10 fun w13 =>
      jnC (F5.l4 Q) ((x1A, x1n, x1c), p6, (b11, 0), (0), ()) w13))
def F5.an : Ann := ⟨[(4, [(1, .kSl), (5, .kP), (6, .kL), (7, .kI .i64)])], [(12, [(1, .kSl), (5, .kP), (6, .kL), (7, .kI .i64), (8, .kL)])]⟩
theorem F5.of (x0 : List Value) (x1A : Option Addr) (x1n x1c : Nat) (w : World) {Q : Value → World → Prop} (h : F5.vc x0 x1A x1n x1c w Q) : Calls Tryz.prog 5 #[ofL x0, Value.slice x1A x1n x1c] w (fun e w' => ∃ v, e = .returned v ∧ Q v w') := vcFn_of (A := F5.an) noCount mixed h (by kernel_rfl)
/-! ### function 8: stillage/state.New -/
def F8.b3c (Q : Value → World → Prop) (C3 : ((Nat × Nat) × (Option Addr × Nat × Nat) × Int × Int × Unit) → World → Prop) (x3 : (Nat × Nat)) (x16 : (Option Addr × Nat × Nat)) (x17 : Int) (x18 : Int) (w : World) : Prop :=
  vIf (decide (x18 < x17))
  (dr x16.1 fun b20 o21 =>
    gd (decide (0 ≤ x18)) <|
    gd (decide (x18 < ((x16.2.1 : Nat) : Int))) <|
    ldA 3 w b20 (o21 + (x18).toNat * 3) fun a22 =>
    nw w [Value.int .i64 0, Value.int .i64 0, Value.int .i64 0] 98 fun b23 w24 =>
    gd (a22.length == 3) <|
    st w24 b23 0 a22 fun w25 =>
    ldI .i64 w25 b23 0 fun i26 =>
    ldI .i64 w25 b23 (0 + 1) fun i27 =>
    Calls Tryz.prog 42 #[Value.pointer (some ⟨x3.1, x3.2, none⟩), Value.int .i64 i26, Value.int .i64 i27] w25 fun e29 w28 =>
    e29 = .returned (Value.tuple #[]) ∧ (
      jnC C3 ((x3.1, x3.2), (x16.1, x16.2.1, x16.2.2), (x17), ((IntKind.wrap .i64 (x18 + 1))), ()) w28))
  (Q (Value.pointer (some ⟨x3.1, x3.2, none⟩)) w)
def F8.b3 (Q : Value → World → Prop) : ((Nat × Nat) × (Option Addr × Nat × Nat) × Int × Int × Unit) → World → (((Nat × Nat) × (Option Addr × Nat × Nat) × Int × Int × Unit) → World → Prop) → Prop := fun s w C3 => ∀ _ : Nat → Value, F8.b3c Q C3 s.1 s.2.1 s.2.2.1 s.2.2.2.1 w
def F8.l3 (Q : Value → World → Prop) : ((Nat × Nat) × (Option Addr × Nat × Nat) × Int × Int × Unit) → World → Prop := fun s w => ∃ n, loopC (F8.b3 Q) n s w
def F8.vc (x0 : List Value) (w : World) (Q : Value → World → Prop) : Prop :=
  nw w x0 30 fun b1 w2 =>
  ldSl w2.drew b1 (0 + 4) fun A3 n4 c5 =>
  ldSl w2.drew b1 (0 + 5) fun A6 n7 c8 =>
  Calls Tryz.prog 40 #[Value.slice A3 n4 c5] w2.drew fun e10 w9 =>
  ∃ p11 : Option Addr, e10 = .returned (Value.pointer p11) ∧ (
    kp w2.drew b1 (0 + 5) 1 w9 <|
    Calls Tryz.prog 41 #[Value.slice A6 n7 c8] w9 fun e13 w12 =>
    ∃ p14 : Option Addr, e13 = .returned (Value.pointer p14) ∧ (
      gd (([Value.pointer p11] ++ ([Value.slice none 0 0] ++ [])).length == 2) <|
      nw w12 (([Value.pointer p11] ++ ([Value.slice none 0 0] ++ [])) ++ ([Value.pointer p14] ++ [])) 96 fun b15 w16 =>
      ldSl w16 b1 (0 + 6) fun A17 n18 c19 =>
      jnC (F8.l3 Q) ((b15, 0), (A17, n18, c19), (((n18 : Nat) : Int)), (0), ()) w16))
def F8.an : Ann := ⟨[(3, [(3, .kL), (16, .kSl), (17, .kI .i64), (18, .kI .i64)])], []⟩
theorem F8.of (x0 : List Value) (w : World) {Q : Value → World → Prop} (h : F8.vc x0 w Q) : Calls Tryz.prog 8 #[ofL x0] w (fun e w' => ∃ v, e = .returned v ∧ Q v w') := vcFn_of (A := F8.an) noCount mixed h (by kernel_rfl)
/-! ### function 9: (*stillage/state.State).Apply -/
def F9.k9c (Q : Value → World → Prop) (x0 : Option Addr) (x3 : (Nat × Nat)) (x6 : Int) (w : World) : Prop :=
  ldI .i64 w x3.1 (x3.2 + 36) fun i30 =>
  ldI .i64 w x3.1 ((x3.2 + 36) + 2) fun i31 =>
  Calls Tryz.prog 42 #[Value.pointer x0, Value.int .i64 i30, Value.int .i64 (IntKind.wrap .i64 (x6 + i31))] w fun e33 w32 =>
  e33 = .returned (Value.tuple #[]) ∧ (
    Q (Value.tuple #[]) w32)
def F9.k9 (Q : Value → World → Prop) : (Option Addr × (Nat × Nat) × Int × Unit) → World → Prop := fun s w => ∀ _ : Nat → Value, F9.k9c Q s.1 s.2.1 s.2.2.1 w
def F9.k5c (Q : Value → World → Prop) (x0 : Option Addr) (x3 : (Nat × Nat)) (x29 : Bool) (w : World) : Prop :=
  vIf x29
  (ldI .i64 w x3.1 (x3.2 + 36) fun i17 =>
    Calls Tryz.prog 45 #[Value.pointer x0, Value.int .i64 i17] w fun e19 w18 =>
    ∃ i20 : Int, ∃ t21 : Bool, e19 = .returned (Value.tuple #[Value.int .i64 i20, Value.bool t21]) ∧ (
      vIf t21
      (dr x0 fun b22 o23 =>
        ldSl w18 b22 (o23 + 1) fun A24 n25 c26 =>
        dr A24 fun b27 o28 =>
        gd (decide (0 ≤ i20)) <|
        gd (decide (i20 < ((n25 : Nat) : Int))) <|
        ldI .i64 w18 b27 ((o28 + (i20).toNat * 3) + 1) fun i29 =>
        jnC (F9.k9 Q) (x0, (x3.1, x3.2), (i29), ()) w18)
      (jnC (F9.k9 Q) (x0, (x3.1, x3.2), (0), ()) w18)))
  (Q (Value.tuple #[]) w)
def F9.k5 (Q : Value → World → Prop) : (Option Addr × (Nat × Nat) × Bool × Unit) → World → Prop := fun s w => ∀ _ : Nat → Value, F9.k5c Q s.1 s.2.1 s.2.2.1 w
def F9.vc (x0 : Option Addr) (x1 : List Value) (w : World) (Q : Value → World → Prop) : Prop :=
  nw w x1 37 fun b1 w2 =>
  vIf x0.isNone
  (Q (Value.tuple #[]) w2)
  (dr x0 fun b3 o4 =>
    ldP w2.drew b3 o4 fun p5 =>
    ldA 39 w2.drew b1 0 fun a6 =>
    Calls Tryz.prog 43 #[Value.pointer p5, ofL a6] w2.drew fun e8 w7 =>
    e8 = .returned (Value.tuple #[]) ∧ (
      dr x0 fun b9 o10 =>
      ldP w7.drew b9 (o10 + 2) fun p11 =>
      ldA 39 w7.drew b1 0 fun a12 =>
      Calls Tryz.prog 44 #[Value.pointer p11, ofL a12] w7.drew fun e14 w13 =>
      e14 = .returned (Value.tuple #[]) ∧ (
        ldI .i64 w13 b1 0 fun i15 =>
        vIf (decide (i15 ≥ 1))
        (ldI .i64 w13 b1 0 fun i16 =>
          jnC (F9.k5 Q) (x0, (b1, 0), (decide (i16 ≤ 5)), ()) w13)
        (jnC (F9.k5 Q) (x0, (b1, 0), false, ()) w13))))
def F9.an : Ann := ⟨[], [(5, [(0, .kP), (3, .kL), (29, .kB)]), (9, [(0, .kP), (3, .kL), (6, .kI .i64)])]⟩
theorem F9.of (x0 : Option Addr) (x1 : List Value) (w : World) {Q : Value → World → Prop} (h : F9.vc x0 x1 w Q) : Calls Tryz.prog 9 #[Value.pointer x0, ofL x1] w (fun e w' => ∃ v, e = .returned v ∧ Q v w') := vcFn_of (A := F9.an) noCount mixed h (by kernel_rfl)
/-! ### function 10: stillage/stillagelaw22.lives -/
def F10.vc  (w : World) (Q : Value → World → Prop) : Prop :=
  Calls Tryz.prog 8 #[ofL ([Value.int .i64 0] ++ ([Value.int .i64 0] ++ ([Value.int .i64 0] ++ ([Value.int .u64 0] ++ ([Value.slice none 0 0] ++ ([Value.slice none 0 0] ++ ([Value.slice none 0 0] ++ [])))))))] w fun e2 w1 =>
  ∃ p3 : Option Addr, e2 = .returned (Value.pointer p3) ∧ (
    gd (([Value.int .u8 1] ++ ([Value.int .u8 0] ++ ([Value.int .u8 0] ++ ([Value.int .u8 0] ++ ([Value.int .u8 0] ++ ([Value.int .u8 0] ++ ([Value.int .u8 0] ++ ([Value.int .u8 0] ++ ([Value.int .u8 0] ++ ([Value.int .u8 0] ++ ([Value.int .u8 0] ++ ([Value.int .u8 0] ++ ([Value.int .u8 0] ++ ([Value.int .u8 0] ++ ([Value.int .u8 0] ++ ([Value.int .u8 0] ++ ([Value.int .u8 0] ++ ([Value.int .u8 0] ++ ([Value.int .u8 0] ++ ([Value.int .u8 0] ++ ([Value.int .u8 0] ++ ([Value.int .u8 0] ++ ([Value.int .u8 0] ++ ([Value.int .u8 0] ++ ([Value.int .u8 0] ++ ([Value.int .u8 0] ++ ([Value.int .u8 0] ++ ([Value.int .u8 0] ++ ([Value.int .u8 0] ++ ([Value.int .u8 0] ++ ([Value.int .u8 0] ++ ([Value.int .u8 0] ++ [])))))))))))))))))))))))))))))))).length == 32) <|
    gd (([Value.int .i64 1] ++ ([Value.int .i64 37] ++ ([Value.int .i64 62] ++ []))).length == 3) <|
    Calls Tryz.prog 9 #[Value.pointer p3, ofL ([Value.int .i64 1] ++ ([Value.int .u64 0] ++ (([Value.int .u8 1] ++ ([Value.int .u8 0] ++ ([Value.int .u8 0] ++ ([Value.int .u8 0] ++ ([Value.int .u8 0] ++ ([Value.int .u8 0] ++ ([Value.int .u8 0] ++ ([Value.int .u8 0] ++ ([Value.int .u8 0] ++ ([Value.int .u8 0] ++ ([Value.int .u8 0] ++ ([Value.int .u8 0] ++ ([Value.int .u8 0] ++ ([Value.int .u8 0] ++ ([Value.int .u8 0] ++ ([Value.int .u8 0] ++ ([Value.int .u8 0] ++ ([Value.int .u8 0] ++ ([Value.int .u8 0] ++ ([Value.int .u8 0] ++ ([Value.int .u8 0] ++ ([Value.int .u8 0] ++ ([Value.int .u8 0] ++ ([Value.int .u8 0] ++ ([Value.int .u8 0] ++ ([Value.int .u8 0] ++ ([Value.int .u8 0] ++ ([Value.int .u8 0] ++ ([Value.int .u8 0] ++ ([Value.int .u8 0] ++ ([Value.int .u8 0] ++ ([Value.int .u8 0] ++ [])))))))))))))))))))))))))))))))) ++ ([Value.string (⟨#[]⟩ : ByteArray)] ++ ([Value.int .i64 9] ++ (([Value.int .i64 1] ++ ([Value.int .i64 37] ++ ([Value.int .i64 62] ++ []))) ++ []))))))] w1 fun e5 w4 =>
    e5 = .returned (Value.tuple #[]) ∧ (
      gd (([Value.int .u8 1] ++ ([Value.int .u8 0] ++ ([Value.int .u8 0] ++ ([Value.int .u8 0] ++ ([Value.int .u8 0] ++ ([Value.int .u8 0] ++ ([Value.int .u8 0] ++ ([Value.int .u8 0] ++ ([Value.int .u8 0] ++ ([Value.int .u8 0] ++ ([Value.int .u8 0] ++ ([Value.int .u8 0] ++ ([Value.int .u8 0] ++ ([Value.int .u8 0] ++ ([Value.int .u8 0] ++ ([Value.int .u8 0] ++ ([Value.int .u8 0] ++ ([Value.int .u8 0] ++ ([Value.int .u8 0] ++ ([Value.int .u8 0] ++ ([Value.int .u8 0] ++ ([Value.int .u8 0] ++ ([Value.int .u8 0] ++ ([Value.int .u8 0] ++ ([Value.int .u8 0] ++ ([Value.int .u8 0] ++ ([Value.int .u8 0] ++ ([Value.int .u8 0] ++ ([Value.int .u8 0] ++ ([Value.int .u8 0] ++ ([Value.int .u8 0] ++ ([Value.int .u8 0] ++ [])))))))))))))))))))))))))))))))).length == 32) <|
      gd (([Value.int .i64 2] ++ ([Value.int .i64 37] ++ ([Value.int .i64 53] ++ []))).length == 3) <|
      Calls Tryz.prog 9 #[Value.pointer p3, ofL ([Value.int .i64 5] ++ ([Value.int .u64 0] ++ (([Value.int .u8 1] ++ ([Value.int .u8 0] ++ ([Value.int .u8 0] ++ ([Value.int .u8 0] ++ ([Value.int .u8 0] ++ ([Value.int .u8 0] ++ ([Value.int .u8 0] ++ ([Value.int .u8 0] ++ ([Value.int .u8 0] ++ ([Value.int .u8 0] ++ ([Value.int .u8 0] ++ ([Value.int .u8 0] ++ ([Value.int .u8 0] ++ ([Value.int .u8 0] ++ ([Value.int .u8 0] ++ ([Value.int .u8 0] ++ ([Value.int .u8 0] ++ ([Value.int .u8 0] ++ ([Value.int .u8 0] ++ ([Value.int .u8 0] ++ ([Value.int .u8 0] ++ ([Value.int .u8 0] ++ ([Value.int .u8 0] ++ ([Value.int .u8 0] ++ ([Value.int .u8 0] ++ ([Value.int .u8 0] ++ ([Value.int .u8 0] ++ ([Value.int .u8 0] ++ ([Value.int .u8 0] ++ ([Value.int .u8 0] ++ ([Value.int .u8 0] ++ ([Value.int .u8 0] ++ [])))))))))))))))))))))))))))))))) ++ ([Value.string (⟨#[]⟩ : ByteArray)] ++ ([Value.int .i64 0] ++ (([Value.int .i64 2] ++ ([Value.int .i64 37] ++ ([Value.int .i64 53] ++ []))) ++ []))))))] w4 fun e7 w6 =>
      e7 = .returned (Value.tuple #[]) ∧ (
        Calls Tryz.prog 36 #[Value.pointer p3] w6 fun e9 w8 =>
        ∃ (A10 : Option Addr) (n11 c12 : Nat), e9 = .returned (Value.slice A10 n11 c12) ∧ (
          Calls Tryz.prog 12 #[Value.pointer p3, Value.int .i64 1] w8 fun e14 w13 =>
          ∃ (A15 : Option Addr) (n16 c17 : Nat), e14 = .returned (Value.slice A15 n16 c17) ∧ (
            vIf (((n16 : Nat) : Int) == 0)
            (Calls Tryz.prog 12 #[Value.pointer p3, Value.int .i64 2] w13 fun e19 w18 =>
              ∃ (A20 : Option Addr) (n21 c22 : Nat), e19 = .returned (Value.slice A20 n21 c22) ∧ (
                vIf (((n21 : Nat) : Int) == 1)
                (vIf (((n11 : Nat) : Int) == 2)
                  (dr A10 fun b23 o24 =>
                    gd (decide ((0 : Int) < ((n11 : Nat) : Int))) <|
                    ldA 3 w18 b23 o24 fun a25 =>
                    eqI64 3 a25 ([Value.int .i64 1] ++ ([Value.int .i64 62] ++ ([Value.int .i64 0] ++ []))) fun t26 =>
                    vIf t26
                    (dr A10 fun b27 o28 =>
                      gd (decide ((1 : Int) < ((n11 : Nat) : Int))) <|
                      ldA 3 w18 b27 (o28 + 3) fun a29 =>
                      eqI64 3 a29 ([Value.int .i64 2] ++ ([Value.int .i64 53] ++ ([Value.int .i64 53] ++ []))) fun t30 =>
                      Q (Value.bool t30) w18)
                    (Q (Value.bool false) w18))
                  (Q (Value.bool false) w18))
                (Q (Value.bool false) w18)))
            (Q (Value.bool false) w13))))))
def F10.an : Ann := ⟨[], []⟩
theorem F10.of  (w : World) {Q : Value → World → Prop} (h : F10.vc  w Q) : Calls Tryz.prog 10 #[] w (fun e w' => ∃ v, e = .returned v ∧ Q v w') := vcFn_of (A := F10.an) noCount mixed h (by kernel_rfl)
/-! ### function 11: (*stillage/state.State).Snapshot -/
def F11.vc (x0 : Option Addr) (w : World) (Q : Value → World → Prop) : Prop :=
  nw w Z30 30 fun b1 w2 =>
  vIf x0.isNone
  (gd (([Value.int .i64 0] ++ ([Value.int .i64 0] ++ ([Value.int .i64 0] ++ ([Value.int .u64 0] ++ ([Value.slice none 0 0] ++ ([Value.slice none 0 0] ++ ([Value.slice none 0 0] ++ []))))))).length == 7) <|
    st w2 b1 0 ([Value.int .i64 0] ++ ([Value.int .i64 0] ++ ([Value.int .i64 0] ++ ([Value.int .u64 0] ++ ([Value.slice none 0 0] ++ ([Value.slice none 0 0] ++ ([Value.slice none 0 0] ++ []))))))) fun w3 =>
    ldA 7 w3 b1 0 fun a4 =>
    Q (ofL a4) w3)
  (dr x0 fun b5 o6 =>
    ldP w2.drew b5 o6 fun p7 =>
    dr x0 fun b8 o9 =>
    ldP w2.drew b8 (o9 + 2) fun p10 =>
    Calls Tryz.prog 46 #[Value.pointer p7] w2.drew fun e12 w11 =>
    ∃ (A13 : Option Addr) (n14 c15 : Nat), e12 = .returned (Value.slice A13 n14 c15) ∧ (
      kp w2.drew b8 (o9 + 2) 1 w11 <|
      Calls Tryz.prog 47 #[Value.pointer p10] w11 fun e17 w16 =>
      ∃ (A18 : Option Addr) (n19 c20 : Nat), e17 = .returned (Value.slice A18 n19 c20) ∧ (
        Calls Tryz.prog 36 #[Value.pointer x0] w16 fun e22 w21 =>
        ∃ (A23 : Option Addr) (n24 c25 : Nat), e22 = .returned (Value.slice A23 n24 c25) ∧ (
          gd (([Value.int .i64 0] ++ ([Value.int .i64 0] ++ ([Value.int .i64 0] ++ ([Value.int .u64 0] ++ ([Value.slice A13 n14 c15] ++ ([Value.slice A18 n19 c20] ++ ([Value.slice A23 n24 c25] ++ []))))))).length == 7) <|
          st w21 b1 0 ([Value.int .i64 0] ++ ([Value.int .i64 0] ++ ([Value.int .i64 0] ++ ([Value.int .u64 0] ++ ([Value.slice A13 n14 c15] ++ ([Value.slice A18 n19 c20] ++ ([Value.slice A23 n24 c25] ++ []))))))) fun w26 =>
          ldA 7 w26 b1 0 fun a27 =>
          Q (ofL a27) w26))))
def F11.an : Ann := ⟨[], []⟩
theorem F11.of (x0 : Option Addr) (w : World) {Q : Value → World → Prop} (h : F11.vc x0 w Q) : Calls Tryz.prog 11 #[Value.pointer x0] w (fun e w' => ∃ v, e = .returned v ∧ Q v w') := vcFn_of (A := F11.an) noCount mixed h (by kernel_rfl)
/-! ### function 12: (*stillage/state.State).Here -/
def F12.k8c (Q : Value → World → Prop) (C5 : (Option Addr × Int × (Option Addr × Nat × Nat) × (Option Addr × Nat × Nat) × Int × Int × Unit) → World → Prop) (x0 : Option Addr) (x1 : Int) (x5 : (Option Addr × Nat × Nat)) (x7 : (Nat × Nat)) (x17 : (Option Addr × Nat × Nat)) (x18 : Int) (x19 : Int) (x31 : Bool) (w : World) : Prop :=
  vIf x31
  (ldI .i64 w x7.1 (x7.2 + 32) fun i20 =>
    ldA 32 w x7.1 x7.2 fun a21 =>
    ldI .i64 w x7.1 (x7.2 + 33) fun i22 =>
    ldA 3 w x7.1 (x7.2 + 34) fun a23 =>
    gd (a21.length == 32) <|
    gd (a23.length == 3) <|
    gd (([Value.int .i64 i20] ++ ([Value.int .u64 0] ++ (a21 ++ ([Value.string (⟨#[]⟩ : ByteArray)] ++ ([Value.int .i64 i22] ++ (a23 ++ [])))))).length == 39) <|
    nw w (([Value.int .i64 i20] ++ ([Value.int .u64 0] ++ (a21 ++ ([Value.string (⟨#[]⟩ : ByteArray)] ++ ([Value.int .i64 i22] ++ (a23 ++ [])))))) ++ []) 37 fun b24 w25 =>
    app w25 39 96 Z37 37 x5.1 x5.2.1 x5.2.2 (Value.slice (some ⟨b24, 0, none⟩) 1 1) fun A26 n27 c28 w29 =>
    jnC C5 (x0, (x1), (A26, n27, c28), (x17.1, x17.2.1, x17.2.2), (x18), ((IntKind.wrap .i64 (x19 + 1))), ()) w29)
  (jnC C5 (x0, (x1), (x5.1, x5.2.1, x5.2.2), (x17.1, x17.2.1, x17.2.2), (x18), ((IntKind.wrap .i64 (x19 + 1))), ()) w)
def F12.k8 (Q : Value → World → Prop) (C5 : (Option Addr × Int × (Option Addr × Nat × Nat) × (Option Addr × Nat × Nat) × Int × Int × Unit) → World → Prop) : (Option Addr × Int × (Option Addr × Nat × Nat) × (Nat × Nat) × (Option Addr × Nat × Nat) × Int × Int × Bool × Unit) → World → Prop := fun s w => ∀ _ : Nat → Value, F12.k8c Q C5 s.1 s.2.1 s.2.2.1 s.2.2.2.1 s.2.2.2.2.1 s.2.2.2.2.2.1 s.2.2.2.2.2.2.1 s.2.2.2.2.2.2.2.1 w
def F12.k14c (Q : Value → World → Prop) (C11 : (Int × (Option Addr × Nat × Nat) × (Option Addr × Nat × Nat) × Int × Int × Unit) → World → Prop) (x1 : Int) (x5 : (Option Addr × Nat × Nat)) (x9 : (Nat × Nat)) (x49 : (Option Addr × Nat × Nat)) (x50 : Int) (x51 : Int) (x63 : Bool) (w : World) : Prop :=
  vIf x63
  (ldA 38 w x9.1 x9.2 fun a49 =>
    Calls Tryz.prog 50 #[ofL a49] w fun e51 w50 =>
    ∃ a52 : List Value, e51 = .returned (ofL a52) ∧ (
      gd (a52.length == 39) <|
      nw w50 (a52 ++ []) 37 fun b53 w54 =>
      app w54 39 96 Z37 37 x5.1 x5.2.1 x5.2.2 (Value.slice (some ⟨b53, 0, none⟩) 1 1) fun A55 n56 c57 w58 =>
      jnC C11 ((x1), (A55, n56, c57), (x49.1, x49.2.1, x49.2.2), (x50), ((IntKind.wrap .i64 (x51 + 1))), ()) w58))
  (jnC C11 ((x1), (x5.1, x5.2.1, x5.2.2), (x49.1, x49.2.1, x49.2.2), (x50), ((IntKind.wrap .i64 (x51 + 1))), ()) w)
def F12.k14 (Q : Value → World → Prop) (C11 : (Int × (Option Addr × Nat × Nat) × (Option Addr × Nat × Nat) × Int × Int × Unit) → World → Prop) : (Int × (Option Addr × Nat × Nat) × (Nat × Nat) × (Option Addr × Nat × Nat) × Int × Int × Bool × Unit) → World → Prop := fun s w => ∀ _ : Nat → Value, F12.k14c Q C11 s.1 s.2.1 s.2.2.1 s.2.2.2.1 s.2.2.2.2.1 s.2.2.2.2.2.1 s.2.2.2.2.2.2.1 w
def F12.b11c (Q : Value → World → Prop) (C11 : (Int × (Option Addr × Nat × Nat) × (Option Addr × Nat × Nat) × Int × Int × Unit) → World → Prop) (x1 : Int) (x5 : (Option Addr × Nat × Nat)) (x49 : (Option Addr × Nat × Nat)) (x50 : Int) (x51 : Int) (w : World) : Prop :=
  vIf (decide (x51 < x50))
  (dr x49.1 fun b38 o39 =>
    gd (decide (0 ≤ x51)) <|
    gd (decide (x51 < ((x49.2.1 : Nat) : Int))) <|
    ldA 38 w b38 (o39 + (x51).toNat * 38) fun a40 =>
    nw w Z53 53 fun b41 w42 =>
    gd (a40.length == 38) <|
    st w42 b41 0 a40 fun w43 =>
    ldI .i64 w43 b41 (0 + 34) fun i44 =>
    vIf (i44 == x1)
    (ldA 38 w43 b41 0 fun a45 =>
      Calls Tryz.prog 49 #[ofL a45] w43 fun e47 w46 =>
      ∃ t48 : Bool, e47 = .returned (Value.bool t48) ∧ (
        jnC (F12.k14 Q C11) ((x1), (x5.1, x5.2.1, x5.2.2), (b41, 0), (x49.1, x49.2.1, x49.2.2), (x50), (x51), t48, ()) w46))
    (jnC (F12.k14 Q C11) ((x1), (x5.1, x5.2.1, x5.2.2), (b41, 0), (x49.1, x49.2.1, x49.2.2), (x50), (x51), false, ()) w43))
  (Calls Tryz.prog 51 #[Value.slice x5.1 x5.2.1 x5.2.2, Value.func (.func 52) #[] #[]] w fun e60 w59 =>
    e60 = .returned (Value.tuple #[]) ∧ (
      Q (Value.slice x5.1 x5.2.1 x5.2.2) w59))
def F12.b11 (Q : Value → World → Prop) : (Int × (Option Addr × Nat × Nat) × (Option Addr × Nat × Nat) × Int × Int × Unit) → World → ((Int × (Option Addr × Nat × Nat) × (Option Addr × Nat × Nat) × Int × Int × Unit) → World → Prop) → Prop := fun s w C11 => ∀ _ : Nat → Value, F12.b11c Q C11 s.1 s.2.1 s.2.2.1 s.2.2.2.1 s.2.2.2.2.1 w
def F12.l11 (Q : Value → World → Prop) : (Int × (Option Addr × Nat × Nat) × (Option Addr × Nat × Nat) × Int × Int × Unit) → World → Prop := fun s w => ∃ n, loopC (F12.b11 Q) n s w
def F12.b5c (Q : Value → World → Prop) (C5 : (Option Addr × Int × (Option Addr × Nat × Nat) × (Option Addr × Nat × Nat) × Int × Int × Unit) → World → Prop) (x0 : Option Addr) (x1 : Int) (x5 : (Option Addr × Nat × Nat)) (x17 : (Option Addr × Nat × Nat)) (x18 : Int) (x19 : Int) (w : World) : Prop :=
  vIf (decide (x19 < x18))
  (dr x17.1 fun b9 o10 =>
    gd (decide (0 ≤ x19)) <|
    gd (decide (x19 < ((x17.2.1 : Nat) : Int))) <|
    ldA 38 w b9 (o10 + (x19).toNat * 38) fun a11 =>
    nw w Z48 48 fun b12 w13 =>
    gd (a11.length == 38) <|
    st w13 b12 0 a11 fun w14 =>
    ldI .i64 w14 b12 (0 + 34) fun i15 =>
    vIf (i15 == x1)
    (ldA 38 w14 b12 0 fun a16 =>
      Calls Tryz.prog 48 #[ofL a16] w14 fun e18 w17 =>
      ∃ t19 : Bool, e18 = .returned (Value.bool t19) ∧ (
        jnC (F12.k8 Q C5) (x0, (x1), (x5.1, x5.2.1, x5.2.2), (b12, 0), (x17.1, x17.2.1, x17.2.2), (x18), (x19), t19, ()) w17))
    (jnC (F12.k8 Q C5) (x0, (x1), (x5.1, x5.2.1, x5.2.2), (b12, 0), (x17.1, x17.2.1, x17.2.2), (x18), (x19), false, ()) w14))
  (dr x0 fun b30 o31 =>
    ldP w b30 (o31 + 2) fun p32 =>
    Calls Tryz.prog 47 #[Value.pointer p32] w fun e34 w33 =>
    ∃ (A35 : Option Addr) (n36 c37 : Nat), e34 = .returned (Value.slice A35 n36 c37) ∧ (
      jnC (F12.l11 Q) ((x1), (x5.1, x5.2.1, x5.2.2), (A35, n36, c37), (((n36 : Nat) : Int)), (0), ()) w33))
def F12.b5 (Q : Value → World → Prop) : (Option Addr × Int × (Option Addr × Nat × Nat) × (Option Addr × Nat × Nat) × Int × Int × Unit) → World → ((Option Addr × Int × (Option Addr × Nat × Nat) × (Option Addr × Nat × Nat) × Int × Int × Unit) → World → Prop) → Prop := fun s w C5 => ∀ _ : Nat → Value, F12.b5c Q C5 s.1 s.2.1 s.2.2.1 s.2.2.2.1 s.2.2.2.2.1 s.2.2.2.2.2.1 w
def F12.l5 (Q : Value → World → Prop) : (Option Addr × Int × (Option Addr × Nat × Nat) × (Option Addr × Nat × Nat) × Int × Int × Unit) → World → Prop := fun s w => ∃ n, loopC (F12.b5 Q) n s w
def F12.vc (x0 : Option Addr) (x1 : Int) (w : World) (Q : Value → World → Prop) : Prop :=
  vIf x0.isNone
  (Q (Value.slice none 0 0) w)
  (dr x0 fun b1 o2 =>
    ldP w b1 o2 fun p3 =>
    Calls Tryz.prog 46 #[Value.pointer p3] w fun e5 w4 =>
    ∃ (A6 : Option Addr) (n7 c8 : Nat), e5 = .returned (Value.slice A6 n7 c8) ∧ (
      jnC (F12.l5 Q) (x0, (x1), (none, 0, 0), (A6, n7, c8), (((n7 : Nat) : Int)), (0), ()) w4))
def F12.an : Ann := ⟨[(5, [(0, .kP), (1, .kI .i64), (5, .kSl), (17, .kSl), (18, .kI .i64), (19, .kI .i64)]), (11, [(1, .kI .i64), (5, .kSl), (49, .kSl), (50, .kI .i64), (51, .kI .i64)])], [(8, [(0, .kP), (1, .kI .i64), (5, .kSl), (7, .kL), (17, .kSl), (18, .kI .i64), (19, .kI .i64), (31, .kB)]), (14, [(1, .kI .i64), (5, .kSl), (9, .kL), (49, .kSl), (50, .kI .i64), (51, .kI .i64), (63, .kB)])]⟩
theorem F12.of (x0 : Option Addr) (x1 : Int) (w : World) {Q : Value → World → Prop} (h : F12.vc x0 x1 w Q) : Calls Tryz.prog 12 #[Value.pointer x0, Value.int .i64 x1] w (fun e w' => ∃ v, e = .returned v ∧ Q v w') := vcFn_of (A := F12.an) noCount mixed h (by kernel_rfl)
/-! ### function 14: stillage/stillageref22.New -/
def F14.b3c (Q : Value → World → Prop) (C3 : ((Nat × Nat) × (Nat × Nat) × (Nat × Nat) × Int × Unit) → World → Prop) (x1 : (Nat × Nat)) (x2 : (Nat × Nat)) (x3 : (Nat × Nat)) (x4 : Int) (w : World) : Prop :=
  ldSl w x1.1 (x1.2 + 6) fun A24 n25 c26 =>
  vIf (decide (x4 < ((n25 : Nat) : Int)))
  (ldSl w.drew x3.1 (x3.2 + 2) fun A27 n28 c29 =>
    ldSl w.drew x1.1 (x1.2 + 6) fun A30 n31 c32 =>
    dr A30 fun b33 o34 =>
    gd (decide (0 ≤ x4)) <|
    gd (decide (x4 < ((n31 : Nat) : Int))) <|
    ldI .i64 w.drew b33 (o34 + (x4).toNat * 3) fun i35 =>
    ldSl w.drew x1.1 (x1.2 + 6) fun A36 n37 c38 =>
    dr A36 fun b39 o40 =>
    gd (decide (0 ≤ x4)) <|
    gd (decide (x4 < ((n37 : Nat) : Int))) <|
    ldI .i64 w.drew b39 ((o40 + (x4).toNat * 3) + 1) fun i41 =>
    Calls Tryz.prog 57 #[Value.slice A27 n28 c29, Value.int .i64 i35, Value.int .i64 i41, Value.bool true] w.drew fun e43 w42 =>
    ∃ (A44 : Option Addr) (n45 c46 : Nat), e43 = .returned (Value.slice A44 n45 c46) ∧ (
      st w42 x3.1 (x3.2 + 2) [Value.slice A44 n45 c46] fun w47 =>
      jnC C3 ((x1.1, x1.2), (x2.1, x2.2), (x3.1, x3.2), ((IntKind.wrap .i64 (x4 + 1))), ()) w47))
  (ldA 3 w x3.1 x3.2 fun a48 =>
    gd (a48.length == 3) <|
    st w x2.1 x2.2 a48 fun w49 =>
    ldA 3 w49 x2.1 x2.2 fun a50 =>
    Q (ofL a50) w49)
def F14.b3 (Q : Value → World → Prop) : ((Nat × Nat) × (Nat × Nat) × (Nat × Nat) × Int × Unit) → World → (((Nat × Nat) × (Nat × Nat) × (Nat × Nat) × Int × Unit) → World → Prop) → Prop := fun s w C3 => ∀ _ : Nat → Value, F14.b3c Q C3 s.1 s.2.1 s.2.2.1 s.2.2.2.1 w
def F14.l3 (Q : Value → World → Prop) : ((Nat × Nat) × (Nat × Nat) × (Nat × Nat) × Int × Unit) → World → Prop := fun s w => ∃ n, loopC (F14.b3 Q) n s w
def F14.vc (x0 : List Value) (w : World) (Q : Value → World → Prop) : Prop :=
  nw w x0 30 fun b1 w2 =>
  nw w2 [Value.slice none 0 0, Value.slice none 0 0, Value.slice none 0 0] 44 fun b3 w4 =>
  ldSl w4.drew b1 (0 + 4) fun A5 n6 c7 =>
  ldSl w4.drew b1 (0 + 5) fun A8 n9 c10 =>
  (Calls Tryz.prog 55 #[Value.slice A5 n6 c7] w4.drew fun e12 w11 =>
    ∃ (A13 : Option Addr) (n14 c15 : Nat), e12 = .returned (Value.slice A13 n14 c15) ∧ (
      kp w4.drew b1 (0 + 5) 1 w11 <|
      (Calls Tryz.prog 56 #[Value.slice A8 n9 c10] w11 fun e17 w16 =>
        ∃ (A18 : Option Addr) (n19 c20 : Nat), e17 = .returned (Value.slice A18 n19 c20) ∧ (
          nw w16 [Value.slice none 0 0, Value.slice none 0 0, Value.slice none 0 0] 44 fun b21 w22 =>
          kp w4.drew b1 (0 + 5) 1 w22 <|
          kp w4.drew b1 (0 + 4) 1 w22 <|
          gd (([Value.slice A13 n14 c15] ++ ([Value.slice A18 n19 c20] ++ ([Value.slice none 0 0] ++ []))).length == 3) <|
          st w22 b21 0 ([Value.slice A13 n14 c15] ++ ([Value.slice A18 n19 c20] ++ ([Value.slice none 0 0] ++ []))) fun w23 =>
          jnC (F14.l3 Q) ((b1, 0), (b3, 0), (b21, 0), (0), ()) w23)) ∧
      (nw w11 [Value.slice none 0 0, Value.slice none 0 0, Value.slice none 0 0] 44 fun b51 w52 =>
        kp w4.drew b1 (0 + 5) 1 w52 <|
        kp w4.drew b1 (0 + 4) 1 w52 <|
        Calls Tryz.prog 56 #[Value.slice A8 n9 c10] w52 fun e54 w53 =>
        ∃ (A55 : Option Addr) (n56 c57 : Nat), e54 = .returned (Value.slice A55 n56 c57) ∧ (
          gd (([Value.slice A13 n14 c15] ++ ([Value.slice A55 n56 c57] ++ ([Value.slice none 0 0] ++ []))).length == 3) <|
          st w53 b51 0 ([Value.slice A13 n14 c15] ++ ([Value.slice A55 n56 c57] ++ ([Value.slice none 0 0] ++ []))) fun w58 =>
          jnC (F14.l3 Q) ((b1, 0), (b3, 0), (b51, 0), (0), ()) w58)))) ∧
  (nw w4.drew [Value.slice none 0 0, Value.slice none 0 0, Value.slice none 0 0] 44 fun b59 w60 =>
    kp w4.drew b1 (0 + 5) 1 w60 <|
    kp w4.drew b1 (0 + 4) 1 w60 <|
    Calls Tryz.prog 55 #[Value.slice A5 n6 c7] w60 fun e62 w61 =>
    ∃ (A63 : Option Addr) (n64 c65 : Nat), e62 = .returned (Value.slice A63 n64 c65) ∧ (
      kp w4.drew b1 (0 + 5) 1 w61 <|
      Calls Tryz.prog 56 #[Value.slice A8 n9 c10] w61 fun e67 w66 =>
      ∃ (A68 : Option Addr) (n69 c70 : Nat), e67 = .returned (Value.slice A68 n69 c70) ∧ (
        gd (([Value.slice A63 n64 c65] ++ ([Value.slice A68 n69 c70] ++ ([Value.slice none 0 0] ++ []))).length == 3) <|
        st w66 b59 0 ([Value.slice A63 n64 c65] ++ ([Value.slice A68 n69 c70] ++ ([Value.slice none 0 0] ++ []))) fun w71 =>
        jnC (F14.l3 Q) ((b1, 0), (b3, 0), (b59, 0), (0), ()) w71)))
def F14.an : Ann := ⟨[(3, [(1, .kL), (2, .kL), (3, .kL), (4, .kI .i64)])], []⟩
theorem F14.of (x0 : List Value) (w : World) {Q : Value → World → Prop} (h : F14.vc x0 w Q) : Calls Tryz.prog 14 #[ofL x0] w (fun e w' => ∃ v, e = .returned v ∧ Q v w') := vcFn_of (A := F14.an) noCount mixed h (by kernel_rfl)
/-! ### function 16: stillage/stillageref20.Get -/
def F16.b2c (Q : Value → World → Prop) (C2 : ((Option Addr × Nat × Nat) × (Nat × Nat) × (Nat × Nat) × Int × Unit) → World → Prop) (x0 : (Option Addr × Nat × Nat)) (x3 : (Nat × Nat)) (x4 : (Nat × Nat)) (x6 : Int) (w : World) : Prop :=
  vIf (decide (x6 < ((x0.2.1 : Nat) : Int)))
  (dr x0.1 fun b5 o6 =>
    gd (decide (0 ≤ x6)) <|
    gd (decide (x6 < ((x0.2.1 : Nat) : Int))) <|
    ldA 32 w.drew b5 (o6 + (x6).toNat * 38) fun a7 =>
    ldA 32 w.drew x3.1 x3.2 fun a8 =>
    eqAB 32 a7 a8 fun t9 =>
    vIf t9
    (dr x0.1 fun b10 o11 =>
      gd (decide (0 ≤ x6)) <|
      gd (decide (x6 < ((x0.2.1 : Nat) : Int))) <|
      ldA 38 w.drew b10 (o11 + (x6).toNat * 38) fun a12 =>
      gd (a12.length == 38) <|
      st w.drew x4.1 x4.2 a12 fun w13 =>
      ldA 38 w13 x4.1 x4.2 fun a14 =>
      Q (Value.tuple #[ofL a14, Value.bool true]) w13)
    (jnC C2 ((x0.1, x0.2.1, x0.2.2), (x3.1, x3.2), (x4.1, x4.2), ((IntKind.wrap .i64 (x6 + 1))), ()) w.drew))
  (gd (([Value.int .u8 0, Value.int .u8 0, Value.int .u8 0, Value.int .u8 0, Value.int .u8 0, Value.int .u8 0, Value.int .u8 0, Value.int .u8 0, Value.int .u8 0, Value.int .u8 0, Value.int .u8 0, Value.int .u8 0, Value.int .u8 0, Value.int .u8 0, Value.int .u8 0, Value.int .u8 0, Value.int .u8 0, Value.int .u8 0, Value.int .u8 0, Value.int .u8 0, Value.int .u8 0, Value.int .u8 0, Value.int .u8 0, Value.int .u8 0, Value.int .u8 0, Value.int .u8 0, Value.int .u8 0, Value.int .u8 0, Value.int .u8 0, Value.int .u8 0, Value.int .u8 0, Value.int .u8 0] ++ ([Value.int .i64 0] ++ ([Value.int .i64 0] ++ ([Value.int .i64 0, Value.int .i64 0, Value.int .i64 0] ++ ([Value.slice none 0 0] ++ []))))).length == 38) <|
    st w x4.1 x4.2 ([Value.int .u8 0, Value.int .u8 0, Value.int .u8 0, Value.int .u8 0, Value.int .u8 0, Value.int .u8 0, Value.int .u8 0, Value.int .u8 0, Value.int .u8 0, Value.int .u8 0, Value.int .u8 0, Value.int .u8 0, Value.int .u8 0, Value.int .u8 0, Value.int .u8 0, Value.int .u8 0, Value.int .u8 0, Value.int .u8 0, Value.int .u8 0, Value.int .u8 0, Value.int .u8 0, Value.int .u8 0, Value.int .u8 0, Value.int .u8 0, Value.int .u8 0, Value.int .u8 0, Value.int .u8 0, Value.int .u8 0, Value.int .u8 0, Value.int .u8 0, Value.int .u8 0, Value.int .u8 0] ++ ([Value.int .i64 0] ++ ([Value.int .i64 0] ++ ([Value.int .i64 0, Value.int .i64 0, Value.int .i64 0] ++ ([Value.slice none 0 0] ++ []))))) fun w15 =>
    ldA 38 w15 x4.1 x4.2 fun a16 =>
    Q (Value.tuple #[ofL a16, Value.bool false]) w15)
def F16.b2 (Q : Value → World → Prop) : ((Option Addr × Nat × Nat) × (Nat × Nat) × (Nat × Nat) × Int × Unit) → World → (((Option Addr × Nat × Nat) × (Nat × Nat) × (Nat × Nat) × Int × Unit) → World → Prop) → Prop := fun s w C2 => ∀ _ : Nat → Value, F16.b2c Q C2 s.1 s.2.1 s.2.2.1 s.2.2.2.1 w
def F16.l2 (Q : Value → World → Prop) : ((Option Addr × Nat × Nat) × (Nat × Nat) × (Nat × Nat) × Int × Unit) → World → Prop := fun s w => ∃ n, loopC (F16.b2 Q) n s w
def F16.vc (x0A : Option Addr) (x0n x0c : Nat) (x1 : List Value) (w : World) (Q : Value → World → Prop) : Prop :=
  nw w x1 33 fun b1 w2 =>
  nw w2 Z48 48 fun b3 w4 =>
  jnC (F16.l2 Q) ((x0A, x0n, x0c), (b1, 0), (b3, 0), (0), ()) w4
def F16.an : Ann := ⟨[(2, [(0, .kSl), (3, .kL), (4, .kL), (6, .kI .i64)])], []⟩
theorem F16.of (x0A : Option Addr) (x0n x0c : Nat) (x1 : List Value) (w : World) {Q : Value → World → Prop} (h : F16.vc x0A x0n x0c x1 w Q) : Calls Tryz.prog 16 #[Value.slice x0A x0n x0c, ofL x1] w (fun e w' => ∃ v, e = .returned v ∧ Q v w') := vcFn_of (A := F16.an) noCount mixed h (by kernel_rfl)
end Go.Proofs.YthcclmlbkfadcaaGreat
/- PRINTED BY MY OWN gen.py out of the translation: each function as a proposition. -/
namespace Go.Proofs.YthcclmlbkfadcaaGreat
open Go.GV
set_option linter.unusedVariables false
set_option maxRecDepth 100000
/-! ### function 18: stillage/stillageref21.Get -/
def F18.b2c (Q : Value → World → Prop) (C2 : ((Option Addr × Nat × Nat) × ByteArray × (Nat × Nat) × Int × Unit) → World → Prop) (x0 : (Option Addr × Nat × Nat)) (x1 : ByteArray) (x4 : (Nat × Nat)) (x6 : Int) (w : World) : Prop :=
  vIf (decide (x6 < ((x0.2.1 : Nat) : Int)))
  (dr x0.1 fun b3 o4 =>
    gd (decide (0 ≤ x6)) <|
    gd (decide (x6 < ((x0.2.1 : Nat) : Int))) <|
    ldS w b3 (o4 + (x6).toNat * 38) fun s5 =>
    vIf (s5.toList == x1.toList)
    (dr x0.1 fun b6 o7 =>
      gd (decide (0 ≤ x6)) <|
      gd (decide (x6 < ((x0.2.1 : Nat) : Int))) <|
      ldA 38 w b6 (o7 + (x6).toNat * 38) fun a8 =>
      gd (a8.length == 38) <|
      st w x4.1 x4.2 a8 fun w9 =>
      ldA 38 w9 x4.1 x4.2 fun a10 =>
      Q (Value.tuple #[ofL a10, Value.bool true]) w9)
    (jnC C2 ((x0.1, x0.2.1, x0.2.2), x1, (x4.1, x4.2), ((IntKind.wrap .i64 (x6 + 1))), ()) w))
  (gd (([Value.string (⟨#[]⟩ : ByteArray)] ++ ([Value.int .u8 0, Value.int .u8 0, Value.int .u8 0, Value.int .u8 0, Value.int .u8 0, Value.int .u8 0, Value.int .u8 0, Value.int .u8 0, Value.int .u8 0, Value.int .u8 0, Value.int .u8 0, Value.int .u8 0, Value.int .u8 0, Value.int .u8 0, Value.int .u8 0, Value.int .u8 0, Value.int .u8 0, Value.int .u8 0, Value.int .u8 0, Value.int .u8 0, Value.int .u8 0, Value.int .u8 0, Value.int .u8 0, Value.int .u8 0, Value.int .u8 0, Value.int .u8 0, Value.int .u8 0, Value.int .u8 0, Value.int .u8 0, Value.int .u8 0, Value.int .u8 0, Value.int .u8 0] ++ ([Value.bool false] ++ ([Value.int .i64 0, Value.int .i64 0, Value.int .i64 0] ++ ([Value.slice none 0 0] ++ []))))).length == 38) <|
    st w x4.1 x4.2 ([Value.string (⟨#[]⟩ : ByteArray)] ++ ([Value.int .u8 0, Value.int .u8 0, Value.int .u8 0, Value.int .u8 0, Value.int .u8 0, Value.int .u8 0, Value.int .u8 0, Value.int .u8 0, Value.int .u8 0, Value.int .u8 0, Value.int .u8 0, Value.int .u8 0, Value.int .u8 0, Value.int .u8 0, Value.int .u8 0, Value.int .u8 0, Value.int .u8 0, Value.int .u8 0, Value.int .u8 0, Value.int .u8 0, Value.int .u8 0, Value.int .u8 0, Value.int .u8 0, Value.int .u8 0, Value.int .u8 0, Value.int .u8 0, Value.int .u8 0, Value.int .u8 0, Value.int .u8 0, Value.int .u8 0, Value.int .u8 0, Value.int .u8 0] ++ ([Value.bool false] ++ ([Value.int .i64 0, Value.int .i64 0, Value.int .i64 0] ++ ([Value.slice none 0 0] ++ []))))) fun w11 =>
    ldA 38 w11 x4.1 x4.2 fun a12 =>
    Q (Value.tuple #[ofL a12, Value.bool false]) w11)
def F18.b2 (Q : Value → World → Prop) : ((Option Addr × Nat × Nat) × ByteArray × (Nat × Nat) × Int × Unit) → World → (((Option Addr × Nat × Nat) × ByteArray × (Nat × Nat) × Int × Unit) → World → Prop) → Prop := fun s w C2 => ∀ _ : Nat → Value, F18.b2c Q C2 s.1 s.2.1 s.2.2.1 s.2.2.2.1 w
def F18.l2 (Q : Value → World → Prop) : ((Option Addr × Nat × Nat) × ByteArray × (Nat × Nat) × Int × Unit) → World → Prop := fun s w => ∃ n, loopC (F18.b2 Q) n s w
def F18.vc (x0A : Option Addr) (x0n x0c : Nat) (x1 : ByteArray) (w : World) (Q : Value → World → Prop) : Prop :=
  nw w Z53 53 fun b1 w2 =>
  jnC (F18.l2 Q) ((x0A, x0n, x0c), x1, (b1, 0), (0), ()) w2
def F18.an : Ann := ⟨[(2, [(0, .kSl), (1, .kS), (4, .kL), (6, .kI .i64)])], []⟩
theorem F18.of (x0A : Option Addr) (x0n x0c : Nat) (x1 : ByteArray) (w : World) {Q : Value → World → Prop} (h : F18.vc x0A x0n x0c x1 w Q) : Calls Tryz.prog 18 #[Value.slice x0A x0n x0c, Value.string x1] w (fun e w' => ∃ v, e = .returned v ∧ Q v w') := vcFn_of (A := F18.an) noCount mixed h (by kernel_rfl)
/-! ### function 21: stillage/stillageref19.Same -/
def F21.vc (x0 : List Value) (x1 : List Value) (w : World) (Q : Value → World → Prop) : Prop :=
  nw w x0 48 fun b1 w2 =>
  nw w2 x1 48 fun b3 w4 =>
  ldA 32 w4 b1 0 fun a5 =>
  ldA 32 w4 b3 0 fun a6 =>
  eqAB 32 a5 a6 fun t7 =>
  vIf t7
  (ldI .i64 w4 b1 (0 + 32) fun i8 =>
    ldI .i64 w4 b3 (0 + 32) fun i9 =>
    vIf (i8 == i9)
    (ldI .i64 w4 b1 (0 + 33) fun i10 =>
      ldI .i64 w4 b3 (0 + 33) fun i11 =>
      vIf (i10 == i11)
      (ldA 3 w4 b1 (0 + 34) fun a12 =>
        ldA 3 w4 b3 (0 + 34) fun a13 =>
        eqI64 3 a12 a13 fun t14 =>
        vIf t14
        (ldSl w4 b1 (0 + 37) fun A15 n16 c17 =>
          ldSl w4 b3 (0 + 37) fun A18 n19 c20 =>
          Calls Tryz.prog 62 #[Value.slice A15 n16 c17, Value.slice A18 n19 c20] w4 fun e22 w21 =>
          ∃ t23 : Bool, e22 = .returned (Value.bool t23) ∧ (
            Q (Value.bool t23) w21))
        (Q (Value.bool false) w4))
      (Q (Value.bool false) w4))
    (Q (Value.bool false) w4))
  (Q (Value.bool false) w4)
def F21.an : Ann := ⟨[], []⟩
theorem F21.of (x0 : List Value) (x1 : List Value) (w : World) {Q : Value → World → Prop} (h : F21.vc x0 x1 w Q) : Calls Tryz.prog 21 #[ofL x0, ofL x1] w (fun e w' => ∃ v, e = .returned v ∧ Q v w') := vcFn_of (A := F21.an) noCount mixed h (by kernel_rfl)
/-! ### function 22: stillage/stillageref19.SameTag -/
def F22.vc (x0 : List Value) (x1 : List Value) (w : World) (Q : Value → World → Prop) : Prop :=
  nw w x0 53 fun b1 w2 =>
  nw w2 x1 53 fun b3 w4 =>
  ldS w4 b1 0 fun s5 =>
  ldS w4 b3 0 fun s6 =>
  vIf (s5.toList == s6.toList)
  (ldA 32 w4 b1 (0 + 1) fun a7 =>
    ldA 32 w4 b3 (0 + 1) fun a8 =>
    eqAB 32 a7 a8 fun t9 =>
    vIf t9
    (ldB w4 b1 (0 + 33) fun t10 =>
      ldB w4 b3 (0 + 33) fun t11 =>
      vIf (t10 == t11)
      (ldA 3 w4 b1 (0 + 34) fun a12 =>
        ldA 3 w4 b3 (0 + 34) fun a13 =>
        eqI64 3 a12 a13 fun t14 =>
        vIf t14
        (ldSl w4 b1 (0 + 37) fun A15 n16 c17 =>
          ldSl w4 b3 (0 + 37) fun A18 n19 c20 =>
          Calls Tryz.prog 62 #[Value.slice A15 n16 c17, Value.slice A18 n19 c20] w4 fun e22 w21 =>
          ∃ t23 : Bool, e22 = .returned (Value.bool t23) ∧ (
            Q (Value.bool t23) w21))
        (Q (Value.bool false) w4))
      (Q (Value.bool false) w4))
    (Q (Value.bool false) w4))
  (Q (Value.bool false) w4)
def F22.an : Ann := ⟨[], []⟩
theorem F22.of (x0 : List Value) (x1 : List Value) (w : World) {Q : Value → World → Prop} (h : F22.vc x0 x1 w Q) : Calls Tryz.prog 22 #[ofL x0, ofL x1] w (fun e w' => ∃ v, e = .returned v ∧ Q v w') := vcFn_of (A := F22.an) noCount mixed h (by kernel_rfl)
/-! ### function 29: stillage/stillageref22.Apply -/
def F29.k3c (Q : Value → World → Prop) (x2 : (Nat × Nat)) (x3 : (Nat × Nat)) (x4 : (Nat × Nat)) (x5 : (Nat × Nat)) (x24 : Bool) (w : World) : Prop :=
  vIf x24
  (ldSl w x2.1 (x2.2 + 2) fun A33 n34 c35 =>
    ldI .i64 w x3.1 (x3.2 + 36) fun i36 =>
    ldI .i64 w x3.1 ((x3.2 + 36) + 2) fun i37 =>
    Calls Tryz.prog 57 #[Value.slice A33 n34 c35, Value.int .i64 i36, Value.int .i64 i37, Value.bool false] w fun e39 w38 =>
    ∃ (A40 : Option Addr) (n41 c42 : Nat), e39 = .returned (Value.slice A40 n41 c42) ∧ (
      st w38 x5.1 (x5.2 + 2) [Value.slice A40 n41 c42] fun w43 =>
      ldA 3 w43 x5.1 x5.2 fun a44 =>
      gd (a44.length == 3) <|
      st w43 x4.1 x4.2 a44 fun w45 =>
      ldA 3 w45 x4.1 x4.2 fun a46 =>
      Q (ofL a46) w45))
  (ldA 3 w x5.1 x5.2 fun a47 =>
    gd (a47.length == 3) <|
    st w x4.1 x4.2 a47 fun w48 =>
    ldA 3 w48 x4.1 x4.2 fun a49 =>
    Q (ofL a49) w48)
def F29.k3 (Q : Value → World → Prop) : ((Nat × Nat) × (Nat × Nat) × (Nat × Nat) × (Nat × Nat) × Bool × Unit) → World → Prop := fun s w => ∀ _ : Nat → Value, F29.k3c Q s.1 s.2.1 s.2.2.1 s.2.2.2.1 s.2.2.2.2.1 w
def F29.vc (x0 : List Value) (x1 : List Value) (w : World) (Q : Value → World → Prop) : Prop :=
  nw w x0 44 fun b1 w2 =>
  nw w2 x1 37 fun b3 w4 =>
  nw w4 [Value.slice none 0 0, Value.slice none 0 0, Value.slice none 0 0] 44 fun b5 w6 =>
  ldSl w6.drew b1 0 fun A7 n8 c9 =>
  ldA 39 w6.drew b3 0 fun a10 =>
  ldSl w6.drew b1 (0 + 1) fun A11 n12 c13 =>
  ldA 39 w6.drew b3 0 fun a14 =>
  ldSl w6.drew b1 (0 + 2) fun A15 n16 c17 =>
  (Calls Tryz.prog 65 #[Value.slice A7 n8 c9, ofL a10] w6.drew fun e19 w18 =>
    ∃ (A20 : Option Addr) (n21 c22 : Nat), e19 = .returned (Value.slice A20 n21 c22) ∧ (
      kp w6.drew b1 (0 + 2) 1 w18 <|
      kp w6.drew b3 0 39 w18 <|
      kp w6.drew b1 (0 + 1) 1 w18 <|
      (Calls Tryz.prog 66 #[Value.slice A11 n12 c13, ofL a14] w18 fun e24 w23 =>
        ∃ (A25 : Option Addr) (n26 c27 : Nat), e24 = .returned (Value.slice A25 n26 c27) ∧ (
          kp w6.drew b1 (0 + 2) 1 w23 <|
          nw w23 [Value.slice none 0 0, Value.slice none 0 0, Value.slice none 0 0] 44 fun b28 w29 =>
          kp w6.drew b1 (0 + 2) 1 w29 <|
          kp w6.drew b3 0 39 w29 <|
          kp w6.drew b1 (0 + 1) 1 w29 <|
          kp w6.drew b3 0 39 w29 <|
          kp w6.drew b1 0 1 w29 <|
          gd (([Value.slice A20 n21 c22] ++ ([Value.slice A25 n26 c27] ++ ([Value.slice A15 n16 c17] ++ []))).length == 3) <|
          st w29 b28 0 ([Value.slice A20 n21 c22] ++ ([Value.slice A25 n26 c27] ++ ([Value.slice A15 n16 c17] ++ []))) fun w30 =>
          ldI .i64 w30 b3 0 fun i31 =>
          vIf (decide (i31 ≥ 1))
          (ldI .i64 w30 b3 0 fun i32 =>
            jnC (F29.k3 Q) ((b1, 0), (b3, 0), (b5, 0), (b28, 0), (decide (i32 ≤ 5)), ()) w30)
          (jnC (F29.k3 Q) ((b1, 0), (b3, 0), (b5, 0), (b28, 0), false, ()) w30))) ∧
      (nw w18 [Value.slice none 0 0, Value.slice none 0 0, Value.slice none 0 0] 44 fun b50 w51 =>
        kp w6.drew b1 (0 + 2) 1 w51 <|
        kp w6.drew b3 0 39 w51 <|
        kp w6.drew b1 (0 + 1) 1 w51 <|
        kp w6.drew b3 0 39 w51 <|
        kp w6.drew b1 0 1 w51 <|
        Calls Tryz.prog 66 #[Value.slice A11 n12 c13, ofL a14] w51 fun e53 w52 =>
        ∃ (A54 : Option Addr) (n55 c56 : Nat), e53 = .returned (Value.slice A54 n55 c56) ∧ (
          kp w6.drew b1 (0 + 2) 1 w52 <|
          gd (([Value.slice A20 n21 c22] ++ ([Value.slice A54 n55 c56] ++ ([Value.slice A15 n16 c17] ++ []))).length == 3) <|
          st w52 b50 0 ([Value.slice A20 n21 c22] ++ ([Value.slice A54 n55 c56] ++ ([Value.slice A15 n16 c17] ++ []))) fun w57 =>
          ldI .i64 w57 b3 0 fun i58 =>
          vIf (decide (i58 ≥ 1))
          (ldI .i64 w57 b3 0 fun i59 =>
            jnC (F29.k3 Q) ((b1, 0), (b3, 0), (b5, 0), (b50, 0), (decide (i59 ≤ 5)), ()) w57)
          (jnC (F29.k3 Q) ((b1, 0), (b3, 0), (b5, 0), (b50, 0), false, ()) w57))))) ∧
  (nw w6.drew [Value.slice none 0 0, Value.slice none 0 0, Value.slice none 0 0] 44 fun b60 w61 =>
    kp w6.drew b1 (0 + 2) 1 w61 <|
    kp w6.drew b3 0 39 w61 <|
    kp w6.drew b1 (0 + 1) 1 w61 <|
    kp w6.drew b3 0 39 w61 <|
    kp w6.drew b1 0 1 w61 <|
    Calls Tryz.prog 65 #[Value.slice A7 n8 c9, ofL a10] w61 fun e63 w62 =>
    ∃ (A64 : Option Addr) (n65 c66 : Nat), e63 = .returned (Value.slice A64 n65 c66) ∧ (
      kp w6.drew b1 (0 + 2) 1 w62 <|
      kp w6.drew b3 0 39 w62 <|
      kp w6.drew b1 (0 + 1) 1 w62 <|
      Calls Tryz.prog 66 #[Value.slice A11 n12 c13, ofL a14] w62 fun e68 w67 =>
      ∃ (A69 : Option Addr) (n70 c71 : Nat), e68 = .returned (Value.slice A69 n70 c71) ∧ (
        kp w6.drew b1 (0 + 2) 1 w67 <|
        gd (([Value.slice A64 n65 c66] ++ ([Value.slice A69 n70 c71] ++ ([Value.slice A15 n16 c17] ++ []))).length == 3) <|
        st w67 b60 0 ([Value.slice A64 n65 c66] ++ ([Value.slice A69 n70 c71] ++ ([Value.slice A15 n16 c17] ++ []))) fun w72 =>
        ldI .i64 w72 b3 0 fun i73 =>
        vIf (decide (i73 ≥ 1))
        (ldI .i64 w72 b3 0 fun i74 =>
          jnC (F29.k3 Q) ((b1, 0), (b3, 0), (b5, 0), (b60, 0), (decide (i74 ≤ 5)), ()) w72)
        (jnC (F29.k3 Q) ((b1, 0), (b3, 0), (b5, 0), (b60, 0), false, ()) w72))))
def F29.an : Ann := ⟨[], [(3, [(2, .kL), (3, .kL), (4, .kL), (5, .kL), (24, .kB)])]⟩
theorem F29.of (x0 : List Value) (x1 : List Value) (w : World) {Q : Value → World → Prop} (h : F29.vc x0 x1 w Q) : Calls Tryz.prog 29 #[ofL x0, ofL x1] w (fun e w' => ∃ v, e = .returned v ∧ Q v w') := vcFn_of (A := F29.an) noCount mixed h (by kernel_rfl)
/-! ### function 30: (*stillage/state.State).Keep -/
def F30.vc (x0 : Option Addr) (x1A : Option Addr) (x1n x1c : Nat) (w : World) (Q : Value → World → Prop) : Prop :=
  nw w [Value.slice x1A x1n x1c] 46 fun b1 w2 =>
  vIf x0.isNone
  (Q (Value.tuple #[]) w2)
  (dr x0 fun b3 o4 =>
    ldP w2.drew b3 o4 fun p5 =>
    ldSl w2.drew b1 0 fun A6 n7 c8 =>
    Calls Tryz.prog 67 #[Value.pointer p5, Value.slice A6 n7 c8] w2.drew fun e10 w9 =>
    e10 = .returned (Value.tuple #[]) ∧ (
      dr x0 fun b11 o12 =>
      ldP w9.drew b11 (o12 + 2) fun p13 =>
      ldSl w9.drew b1 0 fun A14 n15 c16 =>
      Calls Tryz.prog 68 #[Value.pointer p13, Value.slice A14 n15 c16] w9.drew fun e18 w17 =>
      e18 = .returned (Value.tuple #[]) ∧ (
        dr x0 fun b19 o20 =>
        ldSl w17 b19 (o20 + 1) fun A21 n22 c23 =>
        Calls Tryz.prog 69 #[Value.slice A21 n22 c23, Value.func (.func 70) #[] #[Value.pointer (some ⟨b1, 0, none⟩)]] w17 fun e25 w24 =>
        ∃ (A26 : Option Addr) (n27 c28 : Nat), e25 = .returned (Value.slice A26 n27 c28) ∧ (
          dr x0 fun b29 o30 =>
          st w24 b29 (o30 + 1) [Value.slice A26 n27 c28] fun w31 =>
          Q (Value.tuple #[]) w31))))
def F30.an : Ann := ⟨[], []⟩
theorem F30.of (x0 : Option Addr) (x1A : Option Addr) (x1n x1c : Nat) (w : World) {Q : Value → World → Prop} (h : F30.vc x0 x1A x1n x1c w Q) : Calls Tryz.prog 30 #[Value.pointer x0, Value.slice x1A x1n x1c] w (fun e w' => ∃ v, e = .returned v ∧ Q v w') := vcFn_of (A := F30.an) noCount mixed h (by kernel_rfl)
/-! ### function 31: stillage/stillageref22.Keep -/
def F31.b3c (Q : Value → World → Prop) (C3 : ((Option Addr × Nat × Nat) × (Nat × Nat) × (Nat × Nat) × (Nat × Nat) × Int × Unit) → World → Prop) (x1 : (Option Addr × Nat × Nat)) (x2 : (Nat × Nat)) (x4 : (Nat × Nat)) (x5 : (Nat × Nat)) (x6 : Int) (w : World) : Prop :=
  ldSl w x2.1 (x2.2 + 2) fun A24 n25 c26 =>
  vIf (decide (x6 < ((n25 : Nat) : Int)))
  (ldSl w x2.1 (x2.2 + 2) fun A27 n28 c29 =>
    dr A27 fun b30 o31 =>
    gd (decide (0 ≤ x6)) <|
    gd (decide (x6 < ((n28 : Nat) : Int))) <|
    ldI .i64 w b30 (o31 + (x6).toNat * 3) fun i32 =>
    Calls Tryz.prog 74 #[Value.slice x1.1 x1.2.1 x1.2.2, Value.int .i64 i32] w fun e34 w33 =>
    ∃ t35 : Bool, e34 = .returned (Value.bool t35) ∧ (
      vIf t35
      (ldSl w33.drew x5.1 (x5.2 + 2) fun A36 n37 c38 =>
        ldSl w33.drew x2.1 (x2.2 + 2) fun A39 n40 c41 =>
        dr A39 fun b42 o43 =>
        gd (decide (0 ≤ x6)) <|
        gd (decide (x6 < ((n40 : Nat) : Int))) <|
        ldA 3 w33.drew b42 (o43 + (x6).toNat * 3) fun a44 =>
        gd (a44.length == 3) <|
        nw w33.drew (a44 ++ []) 98 fun b45 w46 =>
        kp w33.drew x5.1 (x5.2 + 2) 1 w46 <|
        app w46 3 24 [Value.int .i64 0, Value.int .i64 0, Value.int .i64 0] 98 A36 n37 c38 (Value.slice (some ⟨b45, 0, none⟩) 1 1) fun A47 n48 c49 w50 =>
        st w50 x5.1 (x5.2 + 2) [Value.slice A47 n48 c49] fun w51 =>
        jnC C3 ((x1.1, x1.2.1, x1.2.2), (x2.1, x2.2), (x4.1, x4.2), (x5.1, x5.2), ((IntKind.wrap .i64 (x6 + 1))), ()) w51)
      (jnC C3 ((x1.1, x1.2.1, x1.2.2), (x2.1, x2.2), (x4.1, x4.2), (x5.1, x5.2), ((IntKind.wrap .i64 (x6 + 1))), ()) w33)))
  (ldA 3 w x5.1 x5.2 fun a52 =>
    gd (a52.length == 3) <|
    st w x4.1 x4.2 a52 fun w53 =>
    ldA 3 w53 x4.1 x4.2 fun a54 =>
    Q (ofL a54) w53)
def F31.b3 (Q : Value → World → Prop) : ((Option Addr × Nat × Nat) × (Nat × Nat) × (Nat × Nat) × (Nat × Nat) × Int × Unit) → World → (((Option Addr × Nat × Nat) × (Nat × Nat) × (Nat × Nat) × (Nat × Nat) × Int × Unit) → World → Prop) → Prop := fun s w C3 => ∀ _ : Nat → Value, F31.b3c Q C3 s.1 s.2.1 s.2.2.1 s.2.2.2.1 s.2.2.2.2.1 w
def F31.l3 (Q : Value → World → Prop) : ((Option Addr × Nat × Nat) × (Nat × Nat) × (Nat × Nat) × (Nat × Nat) × Int × Unit) → World → Prop := fun s w => ∃ n, loopC (F31.b3 Q) n s w
def F31.vc (x0 : List Value) (x1A : Option Addr) (x1n x1c : Nat) (w : World) (Q : Value → World → Prop) : Prop :=
  nw w x0 44 fun b1 w2 =>
  nw w2 [Value.slice none 0 0, Value.slice none 0 0, Value.slice none 0 0] 44 fun b3 w4 =>
  ldSl w4.drew b1 0 fun A5 n6 c7 =>
  ldSl w4.drew b1 (0 + 1) fun A8 n9 c10 =>
  (Calls Tryz.prog 72 #[Value.slice A5 n6 c7, Value.slice x1A x1n x1c] w4.drew fun e12 w11 =>
    ∃ (A13 : Option Addr) (n14 c15 : Nat), e12 = .returned (Value.slice A13 n14 c15) ∧ (
      kp w4.drew b1 (0 + 1) 1 w11 <|
      (Calls Tryz.prog 73 #[Value.slice A8 n9 c10, Value.slice x1A x1n x1c] w11 fun e17 w16 =>
        ∃ (A18 : Option Addr) (n19 c20 : Nat), e17 = .returned (Value.slice A18 n19 c20) ∧ (
          nw w16 [Value.slice none 0 0, Value.slice none 0 0, Value.slice none 0 0] 44 fun b21 w22 =>
          kp w4.drew b1 (0 + 1) 1 w22 <|
          kp w4.drew b1 0 1 w22 <|
          gd (([Value.slice A13 n14 c15] ++ ([Value.slice A18 n19 c20] ++ ([Value.slice none 0 0] ++ []))).length == 3) <|
          st w22 b21 0 ([Value.slice A13 n14 c15] ++ ([Value.slice A18 n19 c20] ++ ([Value.slice none 0 0] ++ []))) fun w23 =>
          jnC (F31.l3 Q) ((x1A, x1n, x1c), (b1, 0), (b3, 0), (b21, 0), (0), ()) w23)) ∧
      (nw w11 [Value.slice none 0 0, Value.slice none 0 0, Value.slice none 0 0] 44 fun b55 w56 =>
        kp w4.drew b1 (0 + 1) 1 w56 <|
        kp w4.drew b1 0 1 w56 <|
        Calls Tryz.prog 73 #[Value.slice A8 n9 c10, Value.slice x1A x1n x1c] w56 fun e58 w57 =>
        ∃ (A59 : Option Addr) (n60 c61 : Nat), e58 = .returned (Value.slice A59 n60 c61) ∧ (
          gd (([Value.slice A13 n14 c15] ++ ([Value.slice A59 n60 c61] ++ ([Value.slice none 0 0] ++ []))).length == 3) <|
          st w57 b55 0 ([Value.slice A13 n14 c15] ++ ([Value.slice A59 n60 c61] ++ ([Value.slice none 0 0] ++ []))) fun w62 =>
          jnC (F31.l3 Q) ((x1A, x1n, x1c), (b1, 0), (b3, 0), (b55, 0), (0), ()) w62)))) ∧
  (nw w4.drew [Value.slice none 0 0, Value.slice none 0 0, Value.slice none 0 0] 44 fun b63 w64 =>
    kp w4.drew b1 (0 + 1) 1 w64 <|
    kp w4.drew b1 0 1 w64 <|
    Calls Tryz.prog 72 #[Value.slice A5 n6 c7, Value.slice x1A x1n x1c] w64 fun e66 w65 =>
    ∃ (A67 : Option Addr) (n68 c69 : Nat), e66 = .returned (Value.slice A67 n68 c69) ∧ (
      kp w4.drew b1 (0 + 1) 1 w65 <|
      Calls Tryz.prog 73 #[Value.slice A8 n9 c10, Value.slice x1A x1n x1c] w65 fun e71 w70 =>
      ∃ (A72 : Option Addr) (n73 c74 : Nat), e71 = .returned (Value.slice A72 n73 c74) ∧ (
        gd (([Value.slice A67 n68 c69] ++ ([Value.slice A72 n73 c74] ++ ([Value.slice none 0 0] ++ []))).length == 3) <|
        st w70 b63 0 ([Value.slice A67 n68 c69] ++ ([Value.slice A72 n73 c74] ++ ([Value.slice none 0 0] ++ []))) fun w75 =>
        jnC (F31.l3 Q) ((x1A, x1n, x1c), (b1, 0), (b3, 0), (b63, 0), (0), ()) w75)))
def F31.an : Ann := ⟨[(3, [(1, .kSl), (2, .kL), (4, .kL), (5, .kL), (6, .kI .i64)])], []⟩
theorem F31.of (x0 : List Value) (x1A : Option Addr) (x1n x1c : Nat) (w : World) {Q : Value → World → Prop} (h : F31.vc x0 x1A x1n x1c w Q) : Calls Tryz.prog 31 #[ofL x0, Value.slice x1A x1n x1c] w (fun e w' => ∃ v, e = .returned v ∧ Q v w') := vcFn_of (A := F31.an) noCount mixed h (by kernel_rfl)
/-! ### function 32: stillage/stillageref22.Is -/
def F32.vc (x0 : List Value) (x1 : List Value) (w : World) (Q : Value → World → Prop) : Prop :=
  nw w x0 30 fun b1 w2 =>
  nw w2 x1 44 fun b3 w4 =>
  ldSl w4.drew b1 (0 + 4) fun A5 n6 c7 =>
  ldSl w4.drew b3 0 fun A8 n9 c10 =>
  Calls Tryz.prog 38 #[Value.slice A5 n6 c7, Value.slice A8 n9 c10] w4.drew fun e12 w11 =>
  ∃ t13 : Bool, e12 = .returned (Value.bool t13) ∧ (
    vIf t13
    (ldSl w11 b1 (0 + 5) fun A14 n15 c16 =>
      ldSl w11 b3 (0 + 1) fun A17 n18 c19 =>
      Calls Tryz.prog 39 #[Value.slice A14 n15 c16, Value.slice A17 n18 c19] w11 fun e21 w20 =>
      ∃ t22 : Bool, e21 = .returned (Value.bool t22) ∧ (
        vIf t22
        (ldSl w20 b1 (0 + 6) fun A23 n24 c25 =>
          ldA 3 w20 b3 0 fun a26 =>
          Calls Tryz.prog 37 #[ofL a26] w20 fun e28 w27 =>
          ∃ (A29 : Option Addr) (n30 c31 : Nat), e28 = .returned (Value.slice A29 n30 c31) ∧ (
            kp w20 b1 (0 + 6) 1 w27 <|
            Calls Tryz.prog 35 #[Value.slice A23 n24 c25, Value.slice A29 n30 c31] w27 fun e33 w32 =>
            ∃ t34 : Bool, e33 = .returned (Value.bool t34) ∧ (
              Q (Value.bool t34) w32)))
        (Q (Value.bool false) w20)))
    (Q (Value.bool false) w11))
def F32.an : Ann := ⟨[], []⟩
theorem F32.of (x0 : List Value) (x1 : List Value) (w : World) {Q : Value → World → Prop} (h : F32.vc x0 x1 w Q) : Calls Tryz.prog 32 #[ofL x0, ofL x1] w (fun e w' => ∃ v, e = .returned v ∧ Q v w') := vcFn_of (A := F32.an) noCount mixed h (by kernel_rfl)
/-! ### function 33: stillage/stillageref15.Words -/
def F33.b4c (Q : Value → World → Prop) (C4 : ((Option Addr × Nat × Nat) × (Option Addr × Nat × Nat) × Int × Unit) → World → Prop) (x0 : (Option Addr × Nat × Nat)) (x1 : (Option Addr × Nat × Nat)) (x5 : Int) (w : World) : Prop :=
  vIf (decide (x5 < ((x0.2.1 : Nat) : Int)))
  (dr x0.1 fun b1 o2 =>
    gd (decide (0 ≤ x5)) <|
    gd (decide (x5 < ((x0.2.1 : Nat) : Int))) <|
    ldA 39 w.drew b1 (o2 + (x5).toNat * 39) fun a3 =>
    dr x1.1 fun b4 o5 =>
    gd (decide (0 ≤ x5)) <|
    gd (decide (x5 < ((x1.2.1 : Nat) : Int))) <|
    ldA 39 w.drew b4 (o5 + (x5).toNat * 39) fun a6 =>
    eqPl PK36 a3 a6 fun t7 =>
    vIf (!t7)
    (Q (Value.bool false) w.drew)
    (jnC C4 ((x0.1, x0.2.1, x0.2.2), (x1.1, x1.2.1, x1.2.2), ((IntKind.wrap .i64 (x5 + 1))), ()) w.drew))
  (Q (Value.bool true) w)
def F33.b4 (Q : Value → World → Prop) : ((Option Addr × Nat × Nat) × (Option Addr × Nat × Nat) × Int × Unit) → World → (((Option Addr × Nat × Nat) × (Option Addr × Nat × Nat) × Int × Unit) → World → Prop) → Prop := fun s w C4 => ∀ _ : Nat → Value, F33.b4c Q C4 s.1 s.2.1 s.2.2.1 w
def F33.l4 (Q : Value → World → Prop) : ((Option Addr × Nat × Nat) × (Option Addr × Nat × Nat) × Int × Unit) → World → Prop := fun s w => ∃ n, loopC (F33.b4 Q) n s w
def F33.vc (x0A : Option Addr) (x0n x0c : Nat) (x1A : Option Addr) (x1n x1c : Nat) (w : World) (Q : Value → World → Prop) : Prop :=
  vIf (((x0n : Nat) : Int) != ((x1n : Nat) : Int))
  (Q (Value.bool false) w)
  (jnC (F33.l4 Q) ((x0A, x0n, x0c), (x1A, x1n, x1c), (0), ()) w)
def F33.an : Ann := ⟨[(4, [(0, .kSl), (1, .kSl), (5, .kI .i64)])], []⟩
theorem F33.of (x0A : Option Addr) (x0n x0c : Nat) (x1A : Option Addr) (x1n x1c : Nat) (w : World) {Q : Value → World → Prop} (h : F33.vc x0A x0n x0c x1A x1n x1c w Q) : Calls Tryz.prog 33 #[Value.slice x0A x0n x0c, Value.slice x1A x1n x1c] w (fun e w' => ∃ v, e = .returned v ∧ Q v w') := vcFn_of (A := F33.an) noCount mixed h (by kernel_rfl)
/-! ### function 34: stillage/stillageref22.Here -/
def F34.k7c (Q : Value → World → Prop) (C3 : (Int × (Nat × Nat) × (Option Addr × Nat × Nat) × Int × Unit) → World → Prop) (x1 : Int) (x2 : (Nat × Nat)) (x5 : (Option Addr × Nat × Nat)) (x6 : Int) (x7 : (Nat × Nat)) (x36 : Bool) (w : World) : Prop :=
  vIf x36
  (ldI .i64 w x7.1 (x7.2 + 32) fun i23 =>
    ldA 32 w x7.1 x7.2 fun a24 =>
    ldI .i64 w x7.1 (x7.2 + 33) fun i25 =>
    ldA 3 w x7.1 (x7.2 + 34) fun a26 =>
    gd (a24.length == 32) <|
    gd (a26.length == 3) <|
    Calls Tryz.prog 76 #[Value.slice x5.1 x5.2.1 x5.2.2, ofL ([Value.int .i64 i23] ++ ([Value.int .u64 0] ++ (a24 ++ ([Value.string (⟨#[]⟩ : ByteArray)] ++ ([Value.int .i64 i25] ++ (a26 ++ []))))))] w fun e28 w27 =>
    ∃ (A29 : Option Addr) (n30 c31 : Nat), e28 = .returned (Value.slice A29 n30 c31) ∧ (
      jnC C3 ((x1), (x2.1, x2.2), (A29, n30, c31), ((IntKind.wrap .i64 (x6 + 1))), ()) w27))
  (jnC C3 ((x1), (x2.1, x2.2), (x5.1, x5.2.1, x5.2.2), ((IntKind.wrap .i64 (x6 + 1))), ()) w)
def F34.k7 (Q : Value → World → Prop) (C3 : (Int × (Nat × Nat) × (Option Addr × Nat × Nat) × Int × Unit) → World → Prop) : (Int × (Nat × Nat) × (Option Addr × Nat × Nat) × Int × (Nat × Nat) × Bool × Unit) → World → Prop := fun s w => ∀ _ : Nat → Value, F34.k7c Q C3 s.1 s.2.1 s.2.2.1 s.2.2.2.1 s.2.2.2.2.1 s.2.2.2.2.2.1 w
def F34.k16c (Q : Value → World → Prop) (C9 : (Int × (Nat × Nat) × (Option Addr × Nat × Nat) × Int × Unit) → World → Prop) (x1 : Int) (x2 : (Nat × Nat)) (x5 : (Option Addr × Nat × Nat)) (x8 : Int) (x9 : (Nat × Nat)) (x10 : Int) (w : World) : Prop :=
  ldA 32 w x9.1 (x9.2 + 1) fun a53 =>
  ldS w x9.1 x9.2 fun s54 =>
  ldA 3 w x9.1 (x9.2 + 34) fun a55 =>
  gd (a53.length == 32) <|
  gd (a55.length == 3) <|
  Calls Tryz.prog 76 #[Value.slice x5.1 x5.2.1 x5.2.2, ofL ([Value.int .i64 x10] ++ ([Value.int .u64 0] ++ (a53 ++ ([Value.string s54] ++ ([Value.int .i64 0] ++ (a55 ++ []))))))] w fun e57 w56 =>
  ∃ (A58 : Option Addr) (n59 c60 : Nat), e57 = .returned (Value.slice A58 n59 c60) ∧ (
    jnC C9 ((x1), (x2.1, x2.2), (A58, n59, c60), ((IntKind.wrap .i64 (x8 + 1))), ()) w56)
def F34.k16 (Q : Value → World → Prop) (C9 : (Int × (Nat × Nat) × (Option Addr × Nat × Nat) × Int × Unit) → World → Prop) : (Int × (Nat × Nat) × (Option Addr × Nat × Nat) × Int × (Nat × Nat) × Int × Unit) → World → Prop := fun s w => ∀ _ : Nat → Value, F34.k16c Q C9 s.1 s.2.1 s.2.2.1 s.2.2.2.1 s.2.2.2.2.1 s.2.2.2.2.2.1 w
def F34.k13c (Q : Value → World → Prop) (C9 : (Int × (Nat × Nat) × (Option Addr × Nat × Nat) × Int × Unit) → World → Prop) (x1 : Int) (x2 : (Nat × Nat)) (x5 : (Option Addr × Nat × Nat)) (x8 : Int) (x9 : (Nat × Nat)) (x72 : Bool) (w : World) : Prop :=
  vIf x72
  (ldB w x9.1 (x9.2 + 33) fun t52 =>
    vIf t52
    (jnC (F34.k16 Q C9) ((x1), (x2.1, x2.2), (x5.1, x5.2.1, x5.2.2), (x8), (x9.1, x9.2), (4), ()) w)
    (jnC (F34.k16 Q C9) ((x1), (x2.1, x2.2), (x5.1, x5.2.1, x5.2.2), (x8), (x9.1, x9.2), (3), ()) w))
  (jnC C9 ((x1), (x2.1, x2.2), (x5.1, x5.2.1, x5.2.2), ((IntKind.wrap .i64 (x8 + 1))), ()) w)
def F34.k13 (Q : Value → World → Prop) (C9 : (Int × (Nat × Nat) × (Option Addr × Nat × Nat) × Int × Unit) → World → Prop) : (Int × (Nat × Nat) × (Option Addr × Nat × Nat) × Int × (Nat × Nat) × Bool × Unit) → World → Prop := fun s w => ∀ _ : Nat → Value, F34.k13c Q C9 s.1 s.2.1 s.2.2.1 s.2.2.2.1 s.2.2.2.2.1 s.2.2.2.2.2.1 w
def F34.b9c (Q : Value → World → Prop) (C9 : (Int × (Nat × Nat) × (Option Addr × Nat × Nat) × Int × Unit) → World → Prop) (x1 : Int) (x2 : (Nat × Nat)) (x5 : (Option Addr × Nat × Nat)) (x8 : Int) (w : World) : Prop :=
  ldSl w x2.1 (x2.2 + 1) fun A32 n33 c34 =>
  vIf (decide (x8 < ((n33 : Nat) : Int)))
  (ldSl w x2.1 (x2.2 + 1) fun A35 n36 c37 =>
    dr A35 fun b38 o39 =>
    gd (decide (0 ≤ x8)) <|
    gd (decide (x8 < ((n36 : Nat) : Int))) <|
    ldA 38 w b38 (o39 + (x8).toNat * 38) fun a40 =>
    nw w Z53 53 fun b41 w42 =>
    gd (a40.length == 38) <|
    st w42 b41 0 a40 fun w43 =>
    ldI .i64 w43 b41 (0 + 34) fun i44 =>
    vIf (i44 == x1)
    (ldB w43 b41 (0 + 33) fun t45 =>
      ldSl w43 b41 (0 + 37) fun A46 n47 c48 =>
      Calls Tryz.prog 75 #[Value.bool t45, Value.slice A46 n47 c48, Value.int .i64 x1] w43 fun e50 w49 =>
      ∃ t51 : Bool, e50 = .returned (Value.bool t51) ∧ (
        jnC (F34.k13 Q C9) ((x1), (x2.1, x2.2), (x5.1, x5.2.1, x5.2.2), (x8), (b41, 0), t51, ()) w49))
    (jnC (F34.k13 Q C9) ((x1), (x2.1, x2.2), (x5.1, x5.2.1, x5.2.2), (x8), (b41, 0), false, ()) w43))
  (Q (Value.slice x5.1 x5.2.1 x5.2.2) w)
def F34.b9 (Q : Value → World → Prop) : (Int × (Nat × Nat) × (Option Addr × Nat × Nat) × Int × Unit) → World → ((Int × (Nat × Nat) × (Option Addr × Nat × Nat) × Int × Unit) → World → Prop) → Prop := fun s w C9 => ∀ _ : Nat → Value, F34.b9c Q C9 s.1 s.2.1 s.2.2.1 s.2.2.2.1 w
def F34.l9 (Q : Value → World → Prop) : (Int × (Nat × Nat) × (Option Addr × Nat × Nat) × Int × Unit) → World → Prop := fun s w => ∃ n, loopC (F34.b9 Q) n s w
def F34.b3c (Q : Value → World → Prop) (C3 : (Int × (Nat × Nat) × (Option Addr × Nat × Nat) × Int × Unit) → World → Prop) (x1 : Int) (x2 : (Nat × Nat)) (x5 : (Option Addr × Nat × Nat)) (x6 : Int) (w : World) : Prop :=
  ldSl w x2.1 x2.2 fun A3 n4 c5 =>
  vIf (decide (x6 < ((n4 : Nat) : Int)))
  (ldSl w x2.1 x2.2 fun A6 n7 c8 =>
    dr A6 fun b9 o10 =>
    gd (decide (0 ≤ x6)) <|
    gd (decide (x6 < ((n7 : Nat) : Int))) <|
    ldA 38 w b9 (o10 + (x6).toNat * 38) fun a11 =>
    nw w Z48 48 fun b12 w13 =>
    gd (a11.length == 38) <|
    st w13 b12 0 a11 fun w14 =>
    ldI .i64 w14 b12 (0 + 34) fun i15 =>
    vIf (i15 == x1)
    (ldI .i64 w14 b12 (0 + 32) fun i16 =>
      ldSl w14 b12 (0 + 37) fun A17 n18 c19 =>
      Calls Tryz.prog 75 #[Value.bool (i16 == 5), Value.slice A17 n18 c19, Value.int .i64 x1] w14 fun e21 w20 =>
      ∃ t22 : Bool, e21 = .returned (Value.bool t22) ∧ (
        jnC (F34.k7 Q C3) ((x1), (x2.1, x2.2), (x5.1, x5.2.1, x5.2.2), (x6), (b12, 0), t22, ()) w20))
    (jnC (F34.k7 Q C3) ((x1), (x2.1, x2.2), (x5.1, x5.2.1, x5.2.2), (x6), (b12, 0), false, ()) w14))
  (jnC (F34.l9 Q) ((x1), (x2.1, x2.2), (x5.1, x5.2.1, x5.2.2), (0), ()) w)
def F34.b3 (Q : Value → World → Prop) : (Int × (Nat × Nat) × (Option Addr × Nat × Nat) × Int × Unit) → World → ((Int × (Nat × Nat) × (Option Addr × Nat × Nat) × Int × Unit) → World → Prop) → Prop := fun s w C3 => ∀ _ : Nat → Value, F34.b3c Q C3 s.1 s.2.1 s.2.2.1 s.2.2.2.1 w
def F34.l3 (Q : Value → World → Prop) : (Int × (Nat × Nat) × (Option Addr × Nat × Nat) × Int × Unit) → World → Prop := fun s w => ∃ n, loopC (F34.b3 Q) n s w
def F34.vc (x0 : List Value) (x1 : Int) (w : World) (Q : Value → World → Prop) : Prop :=
  nw w x0 44 fun b1 w2 =>
  jnC (F34.l3 Q) ((x1), (b1, 0), (none, 0, 0), (0), ()) w2
def F34.an : Ann := ⟨[(3, [(1, .kI .i64), (2, .kL), (5, .kSl), (6, .kI .i64)]), (9, [(1, .kI .i64), (2, .kL), (5, .kSl), (8, .kI .i64)])], [(7, [(1, .kI .i64), (2, .kL), (5, .kSl), (6, .kI .i64), (7, .kL), (36, .kB)]), (13, [(1, .kI .i64), (2, .kL), (5, .kSl), (8, .kI .i64), (9, .kL), (72, .kB)]), (16, [(1, .kI .i64), (2, .kL), (5, .kSl), (8, .kI .i64), (9, .kL), (10, .kI .i64)])]⟩
theorem F34.of (x0 : List Value) (x1 : Int) (w : World) {Q : Value → World → Prop} (h : F34.vc x0 x1 w Q) : Calls Tryz.prog 34 #[ofL x0, Value.int .i64 x1] w (fun e w' => ∃ v, e = .returned v ∧ Q v w') := vcFn_of (A := F34.an) noCount mixed h (by kernel_rfl)
/-! ### function 35: stillage/stillageref22.SameLoads -/
def F35.b4c (Q : Value → World → Prop) (C4 : ((Option Addr × Nat × Nat) × (Option Addr × Nat × Nat) × Int × Unit) → World → Prop) (x0 : (Option Addr × Nat × Nat)) (x1 : (Option Addr × Nat × Nat)) (x5 : Int) (w : World) : Prop :=
  vIf (decide (x5 < ((x0.2.1 : Nat) : Int)))
  (dr x0.1 fun b1 o2 =>
    gd (decide (0 ≤ x5)) <|
    gd (decide (x5 < ((x0.2.1 : Nat) : Int))) <|
    ldA 3 w.drew b1 (o2 + (x5).toNat * 3) fun a3 =>
    dr x1.1 fun b4 o5 =>
    gd (decide (0 ≤ x5)) <|
    gd (decide (x5 < ((x1.2.1 : Nat) : Int))) <|
    ldA 3 w.drew b4 (o5 + (x5).toNat * 3) fun a6 =>
    eqI64 3 a3 a6 fun t7 =>
    vIf (!t7)
    (Q (Value.bool false) w.drew)
    (jnC C4 ((x0.1, x0.2.1, x0.2.2), (x1.1, x1.2.1, x1.2.2), ((IntKind.wrap .i64 (x5 + 1))), ()) w.drew))
  (Q (Value.bool true) w)
def F35.b4 (Q : Value → World → Prop) : ((Option Addr × Nat × Nat) × (Option Addr × Nat × Nat) × Int × Unit) → World → (((Option Addr × Nat × Nat) × (Option Addr × Nat × Nat) × Int × Unit) → World → Prop) → Prop := fun s w C4 => ∀ _ : Nat → Value, F35.b4c Q C4 s.1 s.2.1 s.2.2.1 w
def F35.l4 (Q : Value → World → Prop) : ((Option Addr × Nat × Nat) × (Option Addr × Nat × Nat) × Int × Unit) → World → Prop := fun s w => ∃ n, loopC (F35.b4 Q) n s w
def F35.vc (x0A : Option Addr) (x0n x0c : Nat) (x1A : Option Addr) (x1n x1c : Nat) (w : World) (Q : Value → World → Prop) : Prop :=
  vIf (((x0n : Nat) : Int) != ((x1n : Nat) : Int))
  (Q (Value.bool false) w)
  (jnC (F35.l4 Q) ((x0A, x0n, x0c), (x1A, x1n, x1c), (0), ()) w)
def F35.an : Ann := ⟨[(4, [(0, .kSl), (1, .kSl), (5, .kI .i64)])], []⟩
theorem F35.of (x0A : Option Addr) (x0n x0c : Nat) (x1A : Option Addr) (x1n x1c : Nat) (w : World) {Q : Value → World → Prop} (h : F35.vc x0A x0n x0c x1A x1n x1c w Q) : Calls Tryz.prog 35 #[Value.slice x0A x0n x0c, Value.slice x1A x1n x1c] w (fun e w' => ∃ v, e = .returned v ∧ Q v w') := vcFn_of (A := F35.an) noCount mixed h (by kernel_rfl)
/-! ### function 36: (*stillage/state.State).Loads -/
def F36.b8c (Q : Value → World → Prop) (C5 : (Option Addr × (Option Addr × Nat × Nat) × Int × Int × Unit) → World → Prop) (C8 : (Option Addr × (Option Addr × Nat × Nat) × Int × Int × Int × (Option Addr × Nat × Nat) × Int × Int × Unit) → World → Prop) (x0 : Option Addr) (x3 : (Option Addr × Nat × Nat)) (x4 : Int) (x16 : Int) (x17 : Int) (x26 : (Option Addr × Nat × Nat)) (x27 : Int) (x28 : Int) (w : World) : Prop :=
  vIf (decide (x28 < x27))
  (dr x26.1 fun b19 o20 =>
    gd (decide (0 ≤ x28)) <|
    gd (decide (x28 < ((x26.2.1 : Nat) : Int))) <|
    ldA 39 w b19 (o20 + (x28).toNat * 39) fun a21 =>
    nw w Z37 37 fun b22 w23 =>
    gd (a21.length == 39) <|
    st w23 b22 0 a21 fun w24 =>
    dr x3.1 fun b25 o26 =>
    gd (decide (0 ≤ x4)) <|
    gd (decide (x4 < ((x3.2.1 : Nat) : Int))) <|
    ldI .i64 w24.drew b25 ((o26 + (x4).toNat * 3) + 2) fun i27 =>
    ldI .i64 w24.drew b22 ((0 + 36) + 2) fun i28 =>
    dr x3.1 fun b29 o30 =>
    gd (decide (0 ≤ x4)) <|
    gd (decide (x4 < ((x3.2.1 : Nat) : Int))) <|
    st w24.drew b29 ((o30 + (x4).toNat * 3) + 2) [Value.int .i64 (IntKind.wrap .i64 (i27 + i28))] fun w31 =>
    jnC C8 (x0, (x3.1, x3.2.1, x3.2.2), (x4), (x16), (x17), (x26.1, x26.2.1, x26.2.2), (x27), ((IntKind.wrap .i64 (x28 + 1))), ()) w31)
  (jnC C5 (x0, (x3.1, x3.2.1, x3.2.2), (x16), ((IntKind.wrap .i64 (x17 + 1))), ()) w)
def F36.b8 (Q : Value → World → Prop) (C5 : (Option Addr × (Option Addr × Nat × Nat) × Int × Int × Unit) → World → Prop) : (Option Addr × (Option Addr × Nat × Nat) × Int × Int × Int × (Option Addr × Nat × Nat) × Int × Int × Unit) → World → ((Option Addr × (Option Addr × Nat × Nat) × Int × Int × Int × (Option Addr × Nat × Nat) × Int × Int × Unit) → World → Prop) → Prop := fun s w C8 => ∀ _ : Nat → Value, F36.b8c Q C5 C8 s.1 s.2.1 s.2.2.1 s.2.2.2.1 s.2.2.2.2.1 s.2.2.2.2.2.1 s.2.2.2.2.2.2.1 s.2.2.2.2.2.2.2.1 w
def F36.l8 (Q : Value → World → Prop) (C5 : (Option Addr × (Option Addr × Nat × Nat) × Int × Int × Unit) → World → Prop) : (Option Addr × (Option Addr × Nat × Nat) × Int × Int × Int × (Option Addr × Nat × Nat) × Int × Int × Unit) → World → Prop := fun s w => ∃ n, loopC (F36.b8 Q C5) n s w
def F36.b5c (Q : Value → World → Prop) (C5 : (Option Addr × (Option Addr × Nat × Nat) × Int × Int × Unit) → World → Prop) (x0 : Option Addr) (x3 : (Option Addr × Nat × Nat)) (x16 : Int) (x17 : Int) (w : World) : Prop :=
  vIf (decide (x17 < x16))
  (dr x3.1 fun b11 o12 =>
    gd (decide (0 ≤ x17)) <|
    gd (decide (x17 < ((x3.2.1 : Nat) : Int))) <|
    ldI .i64 w b11 (o12 + (x17).toNat * 3) fun i13 =>
    Calls Tryz.prog 12 #[Value.pointer x0, Value.int .i64 i13] w fun e15 w14 =>
    ∃ (A16 : Option Addr) (n17 c18 : Nat), e15 = .returned (Value.slice A16 n17 c18) ∧ (
      jnC (F36.l8 Q C5) (x0, (x3.1, x3.2.1, x3.2.2), (x17), (x16), (x17), (A16, n17, c18), (((n17 : Nat) : Int)), (0), ()) w14))
  (Q (Value.slice x3.1 x3.2.1 x3.2.2) w)
def F36.b5 (Q : Value → World → Prop) : (Option Addr × (Option Addr × Nat × Nat) × Int × Int × Unit) → World → ((Option Addr × (Option Addr × Nat × Nat) × Int × Int × Unit) → World → Prop) → Prop := fun s w C5 => ∀ _ : Nat → Value, F36.b5c Q C5 s.1 s.2.1 s.2.2.1 s.2.2.2.1 w
def F36.l5 (Q : Value → World → Prop) : (Option Addr × (Option Addr × Nat × Nat) × Int × Int × Unit) → World → Prop := fun s w => ∃ n, loopC (F36.b5 Q) n s w
def F36.vc (x0 : Option Addr) (w : World) (Q : Value → World → Prop) : Prop :=
  vIf x0.isNone
  (Q (Value.slice none 0 0) w)
  (dr x0 fun b1 o2 =>
    ldSl w b1 (o2 + 1) fun A3 n4 c5 =>
    Calls Tryz.prog 77 #[Value.slice A3 n4 c5] w fun e7 w6 =>
    ∃ (A8 : Option Addr) (n9 c10 : Nat), e7 = .returned (Value.slice A8 n9 c10) ∧ (
      jnC (F36.l5 Q) (x0, (A8, n9, c10), (((n9 : Nat) : Int)), (0), ()) w6))
def F36.an : Ann := ⟨[(5, [(0, .kP), (3, .kSl), (16, .kI .i64), (17, .kI .i64)]), (8, [(0, .kP), (3, .kSl), (4, .kI .i64), (16, .kI .i64), (17, .kI .i64), (26, .kSl), (27, .kI .i64), (28, .kI .i64)])], []⟩
theorem F36.of (x0 : Option Addr) (w : World) {Q : Value → World → Prop} (h : F36.vc x0 w Q) : Calls Tryz.prog 36 #[Value.pointer x0] w (fun e w' => ∃ v, e = .returned v ∧ Q v w') := vcFn_of (A := F36.an) noCount mixed h (by kernel_rfl)
/-! ### function 37: stillage/stillageref22.Loads -/
def F37.b8c (Q : Value → World → Prop) (C3 : ((Nat × Nat) × (Option Addr × Nat × Nat) × Int × Unit) → World → Prop) (C8 : ((Nat × Nat) × (Option Addr × Nat × Nat) × Int × (Nat × Nat) × (Option Addr × Nat × Nat) × Int × Unit) → World → Prop) (x1 : (Nat × Nat)) (x3 : (Option Addr × Nat × Nat)) (x4 : Int) (x5 : (Nat × Nat)) (x6 : (Option Addr × Nat × Nat)) (x7 : Int) (w : World) : Prop :=
  vIf (decide (x7 < ((x6.2.1 : Nat) : Int)))
  (ldI .i64 w.drew x5.1 (x5.2 + 2) fun i28 =>
    dr x6.1 fun b29 o30 =>
    gd (decide (0 ≤ x7)) <|
    gd (decide (x7 < ((x6.2.1 : Nat) : Int))) <|
    ldI .i64 w.drew b29 (((o30 + (x7).toNat * 39) + 36) + 2) fun i31 =>
    st w.drew x5.1 (x5.2 + 2) [Value.int .i64 (IntKind.wrap .i64 (i28 + i31))] fun w32 =>
    jnC C8 ((x1.1, x1.2), (x3.1, x3.2.1, x3.2.2), (x4), (x5.1, x5.2), (x6.1, x6.2.1, x6.2.2), ((IntKind.wrap .i64 (x7 + 1))), ()) w32)
  (ldA 3 w x5.1 x5.2 fun a33 =>
    gd (a33.length == 3) <|
    nw w (a33 ++ []) 98 fun b34 w35 =>
    app w35 3 24 [Value.int .i64 0, Value.int .i64 0, Value.int .i64 0] 98 x3.1 x3.2.1 x3.2.2 (Value.slice (some ⟨b34, 0, none⟩) 1 1) fun A36 n37 c38 w39 =>
    jnC C3 ((x1.1, x1.2), (A36, n37, c38), ((IntKind.wrap .i64 (x4 + 1))), ()) w39)
def F37.b8 (Q : Value → World → Prop) (C3 : ((Nat × Nat) × (Option Addr × Nat × Nat) × Int × Unit) → World → Prop) : ((Nat × Nat) × (Option Addr × Nat × Nat) × Int × (Nat × Nat) × (Option Addr × Nat × Nat) × Int × Unit) → World → (((Nat × Nat) × (Option Addr × Nat × Nat) × Int × (Nat × Nat) × (Option Addr × Nat × Nat) × Int × Unit) → World → Prop) → Prop := fun s w C8 => ∀ _ : Nat → Value, F37.b8c Q C3 C8 s.1 s.2.1 s.2.2.1 s.2.2.2.1 s.2.2.2.2.1 s.2.2.2.2.2.1 w
def F37.l8 (Q : Value → World → Prop) (C3 : ((Nat × Nat) × (Option Addr × Nat × Nat) × Int × Unit) → World → Prop) : ((Nat × Nat) × (Option Addr × Nat × Nat) × Int × (Nat × Nat) × (Option Addr × Nat × Nat) × Int × Unit) → World → Prop := fun s w => ∃ n, loopC (F37.b8 Q C3) n s w
def F37.b3c (Q : Value → World → Prop) (C3 : ((Nat × Nat) × (Option Addr × Nat × Nat) × Int × Unit) → World → Prop) (x1 : (Nat × Nat)) (x3 : (Option Addr × Nat × Nat)) (x4 : Int) (w : World) : Prop :=
  ldSl w x1.1 (x1.2 + 2) fun A3 n4 c5 =>
  vIf (decide (x4 < ((n4 : Nat) : Int)))
  (ldSl w.drew x1.1 (x1.2 + 2) fun A6 n7 c8 =>
    dr A6 fun b9 o10 =>
    gd (decide (0 ≤ x4)) <|
    gd (decide (x4 < ((n7 : Nat) : Int))) <|
    ldI .i64 w.drew b9 (o10 + (x4).toNat * 3) fun i11 =>
    ldSl w.drew x1.1 (x1.2 + 2) fun A12 n13 c14 =>
    dr A12 fun b15 o16 =>
    gd (decide (0 ≤ x4)) <|
    gd (decide (x4 < ((n13 : Nat) : Int))) <|
    ldI .i64 w.drew b15 ((o16 + (x4).toNat * 3) + 1) fun i17 =>
    nw w.drew [Value.int .i64 0, Value.int .i64 0, Value.int .i64 0] 98 fun b18 w19 =>
    kp w.drew b15 ((o16 + (x4).toNat * 3) + 1) 1 w19 <|
    kp w.drew x1.1 (x1.2 + 2) 1 w19 <|
    kp w.drew b9 (o10 + (x4).toNat * 3) 1 w19 <|
    kp w.drew x1.1 (x1.2 + 2) 1 w19 <|
    gd (([Value.int .i64 i11] ++ ([Value.int .i64 i17] ++ ([Value.int .i64 0] ++ []))).length == 3) <|
    st w19 b18 0 ([Value.int .i64 i11] ++ ([Value.int .i64 i17] ++ ([Value.int .i64 0] ++ []))) fun w20 =>
    ldA 3 w20 x1.1 x1.2 fun a21 =>
    ldI .i64 w20 b18 0 fun i22 =>
    Calls Tryz.prog 34 #[ofL a21, Value.int .i64 i22] w20 fun e24 w23 =>
    ∃ (A25 : Option Addr) (n26 c27 : Nat), e24 = .returned (Value.slice A25 n26 c27) ∧ (
      jnC (F37.l8 Q C3) ((x1.1, x1.2), (x3.1, x3.2.1, x3.2.2), (x4), (b18, 0), (A25, n26, c27), (0), ()) w23))
  (Q (Value.slice x3.1 x3.2.1 x3.2.2) w)
def F37.b3 (Q : Value → World → Prop) : ((Nat × Nat) × (Option Addr × Nat × Nat) × Int × Unit) → World → (((Nat × Nat) × (Option Addr × Nat × Nat) × Int × Unit) → World → Prop) → Prop := fun s w C3 => ∀ _ : Nat → Value, F37.b3c Q C3 s.1 s.2.1 s.2.2.1 w
def F37.l3 (Q : Value → World → Prop) : ((Nat × Nat) × (Option Addr × Nat × Nat) × Int × Unit) → World → Prop := fun s w => ∃ n, loopC (F37.b3 Q) n s w
def F37.vc (x0 : List Value) (w : World) (Q : Value → World → Prop) : Prop :=
  nw w x0 44 fun b1 w2 =>
  jnC (F37.l3 Q) ((b1, 0), (none, 0, 0), (0), ()) w2
def F37.an : Ann := ⟨[(3, [(1, .kL), (3, .kSl), (4, .kI .i64)]), (8, [(1, .kL), (3, .kSl), (4, .kI .i64), (5, .kL), (6, .kSl), (7, .kI .i64)])], []⟩
theorem F37.of (x0 : List Value) (w : World) {Q : Value → World → Prop} (h : F37.vc x0 w Q) : Calls Tryz.prog 37 #[ofL x0] w (fun e w' => ∃ v, e = .returned v ∧ Q v w') := vcFn_of (A := F37.an) noCount mixed h (by kernel_rfl)
/-! ### function 38: stillage/stillageref20.Same -/
def F38.b4c (Q : Value → World → Prop) (C4 : ((Option Addr × Nat × Nat) × (Option Addr × Nat × Nat) × Int × Unit) → World → Prop) (x0 : (Option Addr × Nat × Nat)) (x1 : (Option Addr × Nat × Nat)) (x5 : Int) (w : World) : Prop :=
  vIf (decide (x5 < ((x0.2.1 : Nat) : Int)))
  (dr x0.1 fun b1 o2 =>
    gd (decide (0 ≤ x5)) <|
    gd (decide (x5 < ((x0.2.1 : Nat) : Int))) <|
    ldA 38 w.drew b1 (o2 + (x5).toNat * 38) fun a3 =>
    dr x1.1 fun b4 o5 =>
    gd (decide (0 ≤ x5)) <|
    gd (decide (x5 < ((x1.2.1 : Nat) : Int))) <|
    ldA 38 w.drew b4 (o5 + (x5).toNat * 38) fun a6 =>
    Calls Tryz.prog 21 #[ofL a3, ofL a6] w.drew fun e8 w7 =>
    ∃ t9 : Bool, e8 = .returned (Value.bool t9) ∧ (
      vIf (!t9)
      (Q (Value.bool false) w7)
      (jnC C4 ((x0.1, x0.2.1, x0.2.2), (x1.1, x1.2.1, x1.2.2), ((IntKind.wrap .i64 (x5 + 1))), ()) w7)))
  (Q (Value.bool true) w)
def F38.b4 (Q : Value → World → Prop) : ((Option Addr × Nat × Nat) × (Option Addr × Nat × Nat) × Int × Unit) → World → (((Option Addr × Nat × Nat) × (Option Addr × Nat × Nat) × Int × Unit) → World → Prop) → Prop := fun s w C4 => ∀ _ : Nat → Value, F38.b4c Q C4 s.1 s.2.1 s.2.2.1 w
def F38.l4 (Q : Value → World → Prop) : ((Option Addr × Nat × Nat) × (Option Addr × Nat × Nat) × Int × Unit) → World → Prop := fun s w => ∃ n, loopC (F38.b4 Q) n s w
def F38.vc (x0A : Option Addr) (x0n x0c : Nat) (x1A : Option Addr) (x1n x1c : Nat) (w : World) (Q : Value → World → Prop) : Prop :=
  vIf (((x0n : Nat) : Int) != ((x1n : Nat) : Int))
  (Q (Value.bool false) w)
  (jnC (F38.l4 Q) ((x0A, x0n, x0c), (x1A, x1n, x1c), (0), ()) w)
def F38.an : Ann := ⟨[(4, [(0, .kSl), (1, .kSl), (5, .kI .i64)])], []⟩
theorem F38.of (x0A : Option Addr) (x0n x0c : Nat) (x1A : Option Addr) (x1n x1c : Nat) (w : World) {Q : Value → World → Prop} (h : F38.vc x0A x0n x0c x1A x1n x1c w Q) : Calls Tryz.prog 38 #[Value.slice x0A x0n x0c, Value.slice x1A x1n x1c] w (fun e w' => ∃ v, e = .returned v ∧ Q v w') := vcFn_of (A := F38.an) noCount mixed h (by kernel_rfl)
/-! ### function 39: stillage/stillageref21.Same -/
def F39.b4c (Q : Value → World → Prop) (C4 : ((Option Addr × Nat × Nat) × (Option Addr × Nat × Nat) × Int × Unit) → World → Prop) (x0 : (Option Addr × Nat × Nat)) (x1 : (Option Addr × Nat × Nat)) (x5 : Int) (w : World) : Prop :=
  vIf (decide (x5 < ((x0.2.1 : Nat) : Int)))
  (dr x0.1 fun b1 o2 =>
    gd (decide (0 ≤ x5)) <|
    gd (decide (x5 < ((x0.2.1 : Nat) : Int))) <|
    ldA 38 w.drew b1 (o2 + (x5).toNat * 38) fun a3 =>
    dr x1.1 fun b4 o5 =>
    gd (decide (0 ≤ x5)) <|
    gd (decide (x5 < ((x1.2.1 : Nat) : Int))) <|
    ldA 38 w.drew b4 (o5 + (x5).toNat * 38) fun a6 =>
    Calls Tryz.prog 22 #[ofL a3, ofL a6] w.drew fun e8 w7 =>
    ∃ t9 : Bool, e8 = .returned (Value.bool t9) ∧ (
      vIf (!t9)
      (Q (Value.bool false) w7)
      (jnC C4 ((x0.1, x0.2.1, x0.2.2), (x1.1, x1.2.1, x1.2.2), ((IntKind.wrap .i64 (x5 + 1))), ()) w7)))
  (Q (Value.bool true) w)
def F39.b4 (Q : Value → World → Prop) : ((Option Addr × Nat × Nat) × (Option Addr × Nat × Nat) × Int × Unit) → World → (((Option Addr × Nat × Nat) × (Option Addr × Nat × Nat) × Int × Unit) → World → Prop) → Prop := fun s w C4 => ∀ _ : Nat → Value, F39.b4c Q C4 s.1 s.2.1 s.2.2.1 w
def F39.l4 (Q : Value → World → Prop) : ((Option Addr × Nat × Nat) × (Option Addr × Nat × Nat) × Int × Unit) → World → Prop := fun s w => ∃ n, loopC (F39.b4 Q) n s w
def F39.vc (x0A : Option Addr) (x0n x0c : Nat) (x1A : Option Addr) (x1n x1c : Nat) (w : World) (Q : Value → World → Prop) : Prop :=
  vIf (((x0n : Nat) : Int) != ((x1n : Nat) : Int))
  (Q (Value.bool false) w)
  (jnC (F39.l4 Q) ((x0A, x0n, x0c), (x1A, x1n, x1c), (0), ()) w)
def F39.an : Ann := ⟨[(4, [(0, .kSl), (1, .kSl), (5, .kI .i64)])], []⟩
theorem F39.of (x0A : Option Addr) (x0n x0c : Nat) (x1A : Option Addr) (x1n x1c : Nat) (w : World) {Q : Value → World → Prop} (h : F39.vc x0A x0n x0c x1A x1n x1c w Q) : Calls Tryz.prog 39 #[Value.slice x0A x0n x0c, Value.slice x1A x1n x1c] w (fun e w' => ∃ v, e = .returned v ∧ Q v w') := vcFn_of (A := F39.an) noCount mixed h (by kernel_rfl)
/-! ### function 40: stillage/index.New -/
def F40.b3c (Q : Value → World → Prop) (C3 : ((Nat × Nat) × (Option Addr × Nat × Nat) × Int × Int × Unit) → World → Prop) (x3 : (Nat × Nat)) (x9 : (Option Addr × Nat × Nat)) (x10 : Int) (x11 : Int) (w : World) : Prop :=
  vIf (decide (x11 < x10))
  (dr x9.1 fun b6 o7 =>
    gd (decide (0 ≤ x11)) <|
    gd (decide (x11 < ((x9.2.1 : Nat) : Int))) <|
    ldA 38 w b6 (o7 + (x11).toNat * 38) fun a8 =>
    nw w Z48 48 fun b9 w10 =>
    gd (a8.length == 38) <|
    st w10 b9 0 a8 fun w11 =>
    ldP w11.drew x3.1 x3.2 fun p12 =>
    ldA 32 w11.drew b9 0 fun a13 =>
    ldA 38 w11.drew b9 0 fun a14 =>
    Calls Tryz.prog 80 #[ofL a14] w11.drew fun e16 w15 =>
    ∃ a17 : List Value, e16 = .returned (ofL a17) ∧ (
      kp w11.drew b9 0 32 w15 <|
      kp w11.drew x3.1 x3.2 1 w15 <|
      Calls Tryz.prog 79 #[Value.pointer p12, ofL a13, ofL a17] w15 fun e19 w18 =>
      e19 = .returned (Value.tuple #[]) ∧ (
        jnC C3 ((x3.1, x3.2), (x9.1, x9.2.1, x9.2.2), (x10), ((IntKind.wrap .i64 (x11 + 1))), ()) w18)))
  (Q (Value.pointer (some ⟨x3.1, x3.2, none⟩)) w)
def F40.b3 (Q : Value → World → Prop) : ((Nat × Nat) × (Option Addr × Nat × Nat) × Int × Int × Unit) → World → (((Nat × Nat) × (Option Addr × Nat × Nat) × Int × Int × Unit) → World → Prop) → Prop := fun s w C3 => ∀ _ : Nat → Value, F40.b3c Q C3 s.1 s.2.1 s.2.2.1 s.2.2.2.1 w
def F40.l3 (Q : Value → World → Prop) : ((Nat × Nat) × (Option Addr × Nat × Nat) × Int × Int × Unit) → World → Prop := fun s w => ∃ n, loopC (F40.b3 Q) n s w
def F40.vc (x0A : Option Addr) (x0n x0c : Nat) (w : World) (Q : Value → World → Prop) : Prop :=
  Calls Tryz.prog 78 #[] w fun e2 w1 =>
  ∃ p3 : Option Addr, e2 = .returned (Value.pointer p3) ∧ (
    nw w1 ([Value.pointer p3] ++ []) 129 fun b4 w5 =>
    jnC (F40.l3 Q) ((b4, 0), (x0A, x0n, x0c), (((x0n : Nat) : Int)), (0), ()) w5)
def F40.an : Ann := ⟨[(3, [(3, .kL), (9, .kSl), (10, .kI .i64), (11, .kI .i64)])], []⟩
theorem F40.of (x0A : Option Addr) (x0n x0c : Nat) (w : World) {Q : Value → World → Prop} (h : F40.vc x0A x0n x0c w Q) : Calls Tryz.prog 40 #[Value.slice x0A x0n x0c] w (fun e w' => ∃ v, e = .returned v ∧ Q v w') := vcFn_of (A := F40.an) noCount mixed h (by kernel_rfl)
/-! ### function 41: stillage/tags.New -/
def F41.b3c (Q : Value → World → Prop) (C3 : ((Nat × Nat) × (Option Addr × Nat × Nat) × Int × Int × Unit) → World → Prop) (x3 : (Nat × Nat)) (x8 : (Option Addr × Nat × Nat)) (x9 : Int) (x10 : Int) (w : World) : Prop :=
  vIf (decide (x10 < x9))
  (dr x8.1 fun b3 o4 =>
    gd (decide (0 ≤ x10)) <|
    gd (decide (x10 < ((x8.2.1 : Nat) : Int))) <|
    ldA 38 w b3 (o4 + (x10).toNat * 38) fun a5 =>
    nw w Z53 53 fun b6 w7 =>
    gd (a5.length == 38) <|
    st w7 b6 0 a5 fun w8 =>
    ldA 38 w8 b6 0 fun a9 =>
    Calls Tryz.prog 82 #[ofL a9] w8 fun e11 w10 =>
    ∃ a12 : List Value, e11 = .returned (ofL a12) ∧ (
      Calls Tryz.prog 81 #[Value.pointer (some ⟨x3.1, x3.2, none⟩), ofL a12] w10 fun e14 w13 =>
      e14 = .returned (Value.tuple #[]) ∧ (
        jnC C3 ((x3.1, x3.2), (x8.1, x8.2.1, x8.2.2), (x9), ((IntKind.wrap .i64 (x10 + 1))), ()) w13)))
  (Q (Value.pointer (some ⟨x3.1, x3.2, none⟩)) w)
def F41.b3 (Q : Value → World → Prop) : ((Nat × Nat) × (Option Addr × Nat × Nat) × Int × Int × Unit) → World → (((Nat × Nat) × (Option Addr × Nat × Nat) × Int × Int × Unit) → World → Prop) → Prop := fun s w C3 => ∀ _ : Nat → Value, F41.b3c Q C3 s.1 s.2.1 s.2.2.1 s.2.2.2.1 w
def F41.l3 (Q : Value → World → Prop) : ((Nat × Nat) × (Option Addr × Nat × Nat) × Int × Int × Unit) → World → Prop := fun s w => ∃ n, loopC (F41.b3 Q) n s w
def F41.vc (x0A : Option Addr) (x0n x0c : Nat) (w : World) (Q : Value → World → Prop) : Prop :=
  nw w ([Value.slice none 0 0] ++ []) 133 fun b1 w2 =>
  jnC (F41.l3 Q) ((b1, 0), (x0A, x0n, x0c), (((x0n : Nat) : Int)), (0), ()) w2
def F41.an : Ann := ⟨[(3, [(3, .kL), (8, .kSl), (9, .kI .i64), (10, .kI .i64)])], []⟩
theorem F41.of (x0A : Option Addr) (x0n x0c : Nat) (w : World) {Q : Value → World → Prop} (h : F41.vc x0A x0n x0c w Q) : Calls Tryz.prog 41 #[Value.slice x0A x0n x0c] w (fun e w' => ∃ v, e = .returned v ∧ Q v w') := vcFn_of (A := F41.an) noCount mixed h (by kernel_rfl)
/-! ### function 42: (*stillage/state.State).set -/
def F42.k3c (Q : Value → World → Prop) (x0 : Option Addr) (x2 : Int) (x6 : Int) (w : World) : Prop :=
  dr x0 fun b20 o21 =>
  ldSl w b20 (o21 + 1) fun A22 n23 c24 =>
  dr A22 fun b25 o26 =>
  gd (decide (0 ≤ x6)) <|
  gd (decide (x6 < ((n23 : Nat) : Int))) <|
  st w b25 ((o26 + (x6).toNat * 3) + 1) [Value.int .i64 x2] fun w27 =>
  Q (Value.tuple #[]) w27
def F42.k3 (Q : Value → World → Prop) : (Option Addr × Int × Int × Unit) → World → Prop := fun s w => ∀ _ : Nat → Value, F42.k3c Q s.1 s.2.1 s.2.2.1 w
def F42.vc (x0 : Option Addr) (x1 : Int) (x2 : Int) (w : World) (Q : Value → World → Prop) : Prop :=
  Calls Tryz.prog 45 #[Value.pointer x0, Value.int .i64 x1] w fun e2 w1 =>
  ∃ i3 : Int, ∃ t4 : Bool, e2 = .returned (Value.tuple #[Value.int .i64 i3, Value.bool t4]) ∧ (
    vIf (!t4)
    (dr x0 fun b5 o6 =>
      ldSl w1 b5 (o6 + 1) fun A7 n8 c9 =>
      gd (([Value.int .i64 x1] ++ ([Value.int .i64 0] ++ ([Value.int .i64 0] ++ []))).length == 3) <|
      nw w1 (([Value.int .i64 x1] ++ ([Value.int .i64 0] ++ ([Value.int .i64 0] ++ []))) ++ []) 98 fun b10 w11 =>
      Calls Tryz.prog 83 #[Value.slice A7 n8 c9, Value.int .i64 i3, Value.slice (some ⟨b10, 0, none⟩) 1 1] w11 fun e13 w12 =>
      ∃ (A14 : Option Addr) (n15 c16 : Nat), e13 = .returned (Value.slice A14 n15 c16) ∧ (
        dr x0 fun b17 o18 =>
        st w12 b17 (o18 + 1) [Value.slice A14 n15 c16] fun w19 =>
        jnC (F42.k3 Q) (x0, (x2), (i3), ()) w19))
    (jnC (F42.k3 Q) (x0, (x2), (i3), ()) w1))
def F42.an : Ann := ⟨[], [(3, [(0, .kP), (2, .kI .i64), (6, .kI .i64)])]⟩
theorem F42.of (x0 : Option Addr) (x1 : Int) (x2 : Int) (w : World) {Q : Value → World → Prop} (h : F42.vc x0 x1 x2 w Q) : Calls Tryz.prog 42 #[Value.pointer x0, Value.int .i64 x1, Value.int .i64 x2] w (fun e w' => ∃ v, e = .returned v ∧ Q v w') := vcFn_of (A := F42.an) noCount mixed h (by kernel_rfl)
end Go.Proofs.YthcclmlbkfadcaaGreat
/- PRINTED BY MY OWN gen.py out of the translation: each function as a proposition. -/
namespace Go.Proofs.YthcclmlbkfadcaaGreat
open Go.GV
set_option linter.unusedVariables false
set_option maxRecDepth 100000
/-! ### function 43: (*stillage/index.Index).Apply -/
def F43.k6c (Q : Value → World → Prop) (x0 : Option Addr) (x3 : (Nat × Nat)) (x4 : (Nat × Nat)) (x5 : Bool) (x19 : Int) (x20 : Bool) (w : World) : Prop :=
  vIf x20
  (dr x0 fun b15 o16 =>
    ldP w.drew b15 o16 fun p17 =>
    ldA 32 w.drew x3.1 (x3.2 + 2) fun a18 =>
    ldA 38 w.drew x4.1 x4.2 fun a19 =>
    ldA 39 w.drew x3.1 x3.2 fun a20 =>
    Calls Tryz.prog 85 #[ofL a19, ofL a20] w.drew fun e22 w21 =>
    ∃ a23 : List Value, e22 = .returned (ofL a23) ∧ (
      kp w.drew x3.1 (x3.2 + 2) 32 w21 <|
      kp w.drew b15 o16 1 w21 <|
      Calls Tryz.prog 79 #[Value.pointer p17, ofL a18, ofL a23] w21 fun e25 w24 =>
      e25 = .returned (Value.tuple #[]) ∧ (
        Q (Value.tuple #[]) w24)))
  (vIf (x19 == 5)
    (vIf x5
      (dr x0 fun b26 o27 =>
        ldP w.drew b26 o27 fun p28 =>
        ldA 32 w.drew x3.1 (x3.2 + 2) fun a29 =>
        ldA 38 w.drew x4.1 x4.2 fun a30 =>
        ldA 39 w.drew x3.1 x3.2 fun a31 =>
        Calls Tryz.prog 86 #[ofL a30, ofL a31] w.drew fun e33 w32 =>
        ∃ a34 : List Value, e33 = .returned (ofL a34) ∧ (
          kp w.drew x3.1 (x3.2 + 2) 32 w32 <|
          kp w.drew b26 o27 1 w32 <|
          Calls Tryz.prog 79 #[Value.pointer p28, ofL a29, ofL a34] w32 fun e36 w35 =>
          e36 = .returned (Value.tuple #[]) ∧ (
            Q (Value.tuple #[]) w35)))
      (Q (Value.tuple #[]) w))
    (Q (Value.tuple #[]) w))
def F43.k6 (Q : Value → World → Prop) : (Option Addr × (Nat × Nat) × (Nat × Nat) × Bool × Int × Bool × Unit) → World → Prop := fun s w => ∀ _ : Nat → Value, F43.k6c Q s.1 s.2.1 s.2.2.1 s.2.2.2.1 s.2.2.2.2.1 s.2.2.2.2.2.1 w
def F43.vc (x0 : Option Addr) (x1 : List Value) (w : World) (Q : Value → World → Prop) : Prop :=
  nw w x1 37 fun b1 w2 =>
  vIf x0.isNone
  (Q (Value.tuple #[]) w2)
  (dr x0 fun b3 o4 =>
    ldP w2.drew b3 o4 fun p5 =>
    ldA 32 w2.drew b1 (0 + 2) fun a6 =>
    (Calls Tryz.prog 84 #[Value.pointer p5, ofL a6] w2.drew fun e8 w7 =>
      ∃ a9 : List Value, ∃ t10 : Bool, e8 = .returned (Value.tuple #[ofL a9, Value.bool t10]) ∧ (
        nw w7 Z48 48 fun b11 w12 =>
        kp w2.drew b1 (0 + 2) 32 w12 <|
        kp w2.drew b3 o4 1 w12 <|
        gd (a9.length == 38) <|
        st w12 b11 0 a9 fun w13 =>
        ldI .i64 w13 b1 0 fun i14 =>
        vIf (i14 == 1)
        (jnC (F43.k6 Q) (x0, (b1, 0), (b11, 0), t10, (i14), (i14 == 1), ()) w13)
        (jnC (F43.k6 Q) (x0, (b1, 0), (b11, 0), t10, (i14), (i14 == 2), ()) w13))) ∧
    (nw w2.drew Z48 48 fun b37 w38 =>
      kp w2.drew b1 (0 + 2) 32 w38 <|
      kp w2.drew b3 o4 1 w38 <|
      Calls Tryz.prog 84 #[Value.pointer p5, ofL a6] w38 fun e40 w39 =>
      ∃ a41 : List Value, ∃ t42 : Bool, e40 = .returned (Value.tuple #[ofL a41, Value.bool t42]) ∧ (
        gd (a41.length == 38) <|
        st w39 b37 0 a41 fun w43 =>
        ldI .i64 w43 b1 0 fun i44 =>
        vIf (i44 == 1)
        (jnC (F43.k6 Q) (x0, (b1, 0), (b37, 0), t42, (i44), (i44 == 1), ()) w43)
        (jnC (F43.k6 Q) (x0, (b1, 0), (b37, 0), t42, (i44), (i44 == 2), ()) w43))))
def F43.an : Ann := ⟨[], [(6, [(0, .kP), (3, .kL), (4, .kL), (5, .kB), (19, .kI .i64), (20, .kB)])]⟩
theorem F43.of (x0 : Option Addr) (x1 : List Value) (w : World) {Q : Value → World → Prop} (h : F43.vc x0 x1 w Q) : Calls Tryz.prog 43 #[Value.pointer x0, ofL x1] w (fun e w' => ∃ v, e = .returned v ∧ Q v w') := vcFn_of (A := F43.an) noCount mixed h (by kernel_rfl)
/-! ### function 44: (*stillage/tags.Tags).Apply -/
def F44.vc (x0 : Option Addr) (x1 : List Value) (w : World) (Q : Value → World → Prop) : Prop :=
  nw w x1 37 fun b1 w2 =>
  vIf x0.isNone
  (Q (Value.tuple #[]) w2)
  (ldS w2 b1 (0 + 34) fun s3 =>
    Calls Tryz.prog 59 #[Value.pointer x0, Value.string s3] w2 fun e5 w4 =>
    ∃ a6 : List Value, ∃ t7 : Bool, e5 = .returned (Value.tuple #[ofL a6, Value.bool t7]) ∧ (
      nw w4 Z53 53 fun b8 w9 =>
      gd (a6.length == 38) <|
      st w9 b8 0 a6 fun w10 =>
      ldI .i64 w10 b1 0 fun i11 =>
      vIf (i11 == 3)
      (ldA 38 w10 b8 0 fun a12 =>
        ldA 39 w10 b1 0 fun a13 =>
        Calls Tryz.prog 87 #[ofL a12, ofL a13] w10 fun e15 w14 =>
        ∃ a16 : List Value, e15 = .returned (ofL a16) ∧ (
          Calls Tryz.prog 81 #[Value.pointer x0, ofL a16] w14 fun e18 w17 =>
          e18 = .returned (Value.tuple #[]) ∧ (
            Q (Value.tuple #[]) w17)))
      (vIf (i11 == 4)
        (vIf t7
          (ldA 38 w10 b8 0 fun a19 =>
            ldA 39 w10 b1 0 fun a20 =>
            Calls Tryz.prog 88 #[ofL a19, ofL a20] w10 fun e22 w21 =>
            ∃ a23 : List Value, e22 = .returned (ofL a23) ∧ (
              Calls Tryz.prog 81 #[Value.pointer x0, ofL a23] w21 fun e25 w24 =>
              e25 = .returned (Value.tuple #[]) ∧ (
                Q (Value.tuple #[]) w24)))
          (Q (Value.tuple #[]) w10))
        (Q (Value.tuple #[]) w10))))
def F44.an : Ann := ⟨[], []⟩
theorem F44.of (x0 : Option Addr) (x1 : List Value) (w : World) {Q : Value → World → Prop} (h : F44.vc x0 x1 w Q) : Calls Tryz.prog 44 #[Value.pointer x0, ofL x1] w (fun e w' => ∃ v, e = .returned v ∧ Q v w') := vcFn_of (A := F44.an) noCount mixed h (by kernel_rfl)
/-! ### function 45: (*stillage/state.State).place -/
def F45.vc (x0 : Option Addr) (x1 : Int) (w : World) (Q : Value → World → Prop) : Prop :=
  dr x0 fun b1 o2 =>
  ldSl w b1 (o2 + 1) fun A3 n4 c5 =>
  Calls Tryz.prog 89 #[Value.slice A3 n4 c5, Value.int .i64 x1, Value.func (.func 90) #[] #[]] w fun e7 w6 =>
  ∃ i8 : Int, ∃ t9 : Bool, e7 = .returned (Value.tuple #[Value.int .i64 i8, Value.bool t9]) ∧ (
    Q (Value.tuple #[Value.int .i64 i8, Value.bool t9]) w6)
def F45.an : Ann := ⟨[], []⟩
theorem F45.of (x0 : Option Addr) (x1 : Int) (w : World) {Q : Value → World → Prop} (h : F45.vc x0 x1 w Q) : Calls Tryz.prog 45 #[Value.pointer x0, Value.int .i64 x1] w (fun e w' => ∃ v, e = .returned v ∧ Q v w') := vcFn_of (A := F45.an) noCount mixed h (by kernel_rfl)
/-! ### function 46: (*stillage/index.Index).Row -/
def F46.b6c (Q : Value → World → Prop) (C6 : (Option Addr × Unit × (Option Addr × Nat × Nat) × (Option Addr × Nat × Nat) × Int × Int × Unit) → World → Prop) (x0 : Option Addr) (x3 : Unit) (x4 : (Option Addr × Nat × Nat)) (x15 : (Option Addr × Nat × Nat)) (x16 : Int) (x17 : Int) (w : World) : Prop :=
  vIf (decide (x17 < x16))
  (dr x15.1 fun b9 o10 =>
    gd (decide (0 ≤ x17)) <|
    gd (decide (x17 < ((x15.2.1 : Nat) : Int))) <|
    ldA 32 w b9 (o10 + (x17).toNat * 32) fun a11 =>
    nw w Z33 33 fun b12 w13 =>
    gd (a11.length == 32) <|
    st w13 b12 0 a11 fun w14 =>
    ldA 32 w14 b12 0 fun a15 =>
    Calls Tryz.prog 58 #[Value.pointer x0, ofL a15] w14 fun e17 w16 =>
    ∃ a18 : List Value, ∃ t19 : Bool, e17 = .returned (Value.tuple #[ofL a18, Value.bool t19]) ∧ (
      nw w16 Z48 48 fun b20 w21 =>
      gd (a18.length == 38) <|
      st w21 b20 0 a18 fun w22 =>
      ldA 38 w22 b20 0 fun a23 =>
      gd (a23.length == 38) <|
      nw w22 (a23 ++ []) 48 fun b24 w25 =>
      app w25 38 96 Z48 48 x4.1 x4.2.1 x4.2.2 (Value.slice (some ⟨b24, 0, none⟩) 1 1) fun A26 n27 c28 w29 =>
      jnC C6 (x0, (), (A26, n27, c28), (x15.1, x15.2.1, x15.2.2), (x16), ((IntKind.wrap .i64 (x17 + 1))), ()) w29))
  (Q (Value.slice x4.1 x4.2.1 x4.2.2) w)
def F46.b6 (Q : Value → World → Prop) : (Option Addr × Unit × (Option Addr × Nat × Nat) × (Option Addr × Nat × Nat) × Int × Int × Unit) → World → ((Option Addr × Unit × (Option Addr × Nat × Nat) × (Option Addr × Nat × Nat) × Int × Int × Unit) → World → Prop) → Prop := fun s w C6 => ∀ _ : Nat → Value, F46.b6c Q C6 s.1 s.2.1 s.2.2.1 s.2.2.2.1 s.2.2.2.2.1 s.2.2.2.2.2.1 w
def F46.l6 (Q : Value → World → Prop) : (Option Addr × Unit × (Option Addr × Nat × Nat) × (Option Addr × Nat × Nat) × Int × Int × Unit) → World → Prop := fun s w => ∃ n, loopC (F46.b6 Q) n s w
def F46.vc (x0 : Option Addr) (w : World) (Q : Value → World → Prop) : Prop :=
  vIf x0.isNone
  (Q (Value.slice none 0 0) w)
  (dr x0 fun b1 o2 =>
    ldP w b1 o2 fun p3 =>
    Calls Tryz.prog 91 #[Value.pointer p3] w fun e5 w4 =>
    ∃ (A6 : Option Addr) (n7 c8 : Nat), e5 = .returned (Value.slice A6 n7 c8) ∧ (
      jnC (F46.l6 Q) (x0, (), (none, 0, 0), (A6, n7, c8), (((n7 : Nat) : Int)), (0), ()) w4))
def F46.an : Ann := ⟨[(6, [(0, .kP), (3, .kF 58), (4, .kSl), (15, .kSl), (16, .kI .i64), (17, .kI .i64)])], []⟩
theorem F46.of (x0 : Option Addr) (w : World) {Q : Value → World → Prop} (h : F46.vc x0 w Q) : Calls Tryz.prog 46 #[Value.pointer x0] w (fun e w' => ∃ v, e = .returned v ∧ Q v w') := vcFn_of (A := F46.an) noCount mixed h (by kernel_rfl)
/-! ### function 47: (*stillage/tags.Tags).Row -/
def F47.b5c (Q : Value → World → Prop) (C5 : ((Option Addr × Nat × Nat) × (Option Addr × Nat × Nat) × Int × Int × Unit) → World → Prop) (x3 : (Option Addr × Nat × Nat)) (x11 : (Option Addr × Nat × Nat)) (x12 : Int) (x13 : Int) (w : World) : Prop :=
  vIf (decide (x13 < x12))
  (dr x11.1 fun b6 o7 =>
    gd (decide (0 ≤ x13)) <|
    gd (decide (x13 < ((x11.2.1 : Nat) : Int))) <|
    ldA 38 w b6 (o7 + (x13).toNat * 38) fun a8 =>
    nw w Z53 53 fun b9 w10 =>
    gd (a8.length == 38) <|
    st w10 b9 0 a8 fun w11 =>
    ldA 38 w11 b9 0 fun a12 =>
    Calls Tryz.prog 82 #[ofL a12] w11 fun e14 w13 =>
    ∃ a15 : List Value, e14 = .returned (ofL a15) ∧ (
      gd (a15.length == 38) <|
      nw w13 (a15 ++ []) 53 fun b16 w17 =>
      app w17 38 104 Z53 53 x3.1 x3.2.1 x3.2.2 (Value.slice (some ⟨b16, 0, none⟩) 1 1) fun A18 n19 c20 w21 =>
      jnC C5 ((A18, n19, c20), (x11.1, x11.2.1, x11.2.2), (x12), ((IntKind.wrap .i64 (x13 + 1))), ()) w21))
  (Q (Value.slice x3.1 x3.2.1 x3.2.2) w)
def F47.b5 (Q : Value → World → Prop) : ((Option Addr × Nat × Nat) × (Option Addr × Nat × Nat) × Int × Int × Unit) → World → (((Option Addr × Nat × Nat) × (Option Addr × Nat × Nat) × Int × Int × Unit) → World → Prop) → Prop := fun s w C5 => ∀ _ : Nat → Value, F47.b5c Q C5 s.1 s.2.1 s.2.2.1 s.2.2.2.1 w
def F47.l5 (Q : Value → World → Prop) : ((Option Addr × Nat × Nat) × (Option Addr × Nat × Nat) × Int × Int × Unit) → World → Prop := fun s w => ∃ n, loopC (F47.b5 Q) n s w
def F47.vc (x0 : Option Addr) (w : World) (Q : Value → World → Prop) : Prop :=
  vIf x0.isNone
  (Q (Value.slice none 0 0) w)
  (dr x0 fun b1 o2 =>
    ldSl w b1 o2 fun A3 n4 c5 =>
    jnC (F47.l5 Q) ((none, 0, 0), (A3, n4, c5), (((n4 : Nat) : Int)), (0), ()) w)
def F47.an : Ann := ⟨[(5, [(3, .kSl), (11, .kSl), (12, .kI .i64), (13, .kI .i64)])], []⟩
theorem F47.of (x0 : Option Addr) (w : World) {Q : Value → World → Prop} (h : F47.vc x0 w Q) : Calls Tryz.prog 47 #[Value.pointer x0] w (fun e w' => ∃ v, e = .returned v ∧ Q v w') := vcFn_of (A := F47.an) noCount mixed h (by kernel_rfl)
/-! ### function 48: stillage/entry.Alive -/
def F48.vc (x0 : List Value) (w : World) (Q : Value → World → Prop) : Prop :=
  nw w x0 48 fun b1 w2 =>
  ldI .i64 w2 b1 (0 + 32) fun i3 =>
  vIf (i3 != 5)
  (Q (Value.bool true) w2)
  (ldSl w2 b1 (0 + 37) fun A4 n5 c6 =>
    ldI .i64 w2 b1 (0 + 34) fun i7 =>
    Calls Tryz.prog 92 #[Value.slice A4 n5 c6, Value.int .i64 i7] w2 fun e9 w8 =>
    ∃ t10 : Bool, e9 = .returned (Value.bool t10) ∧ (
      Q (Value.bool t10) w8))
def F48.an : Ann := ⟨[], []⟩
theorem F48.of (x0 : List Value) (w : World) {Q : Value → World → Prop} (h : F48.vc x0 w Q) : Calls Tryz.prog 48 #[ofL x0] w (fun e w' => ∃ v, e = .returned v ∧ Q v w') := vcFn_of (A := F48.an) noCount mixed h (by kernel_rfl)
/-! ### function 49: stillage/entry.AliveTag -/
def F49.vc (x0 : List Value) (w : World) (Q : Value → World → Prop) : Prop :=
  nw w x0 53 fun b1 w2 =>
  ldB w2 b1 (0 + 33) fun t3 =>
  vIf (!t3)
  (Q (Value.bool true) w2)
  (ldSl w2 b1 (0 + 37) fun A4 n5 c6 =>
    ldI .i64 w2 b1 (0 + 34) fun i7 =>
    Calls Tryz.prog 92 #[Value.slice A4 n5 c6, Value.int .i64 i7] w2 fun e9 w8 =>
    ∃ t10 : Bool, e9 = .returned (Value.bool t10) ∧ (
      Q (Value.bool t10) w8))
def F49.an : Ann := ⟨[], []⟩
theorem F49.of (x0 : List Value) (w : World) {Q : Value → World → Prop} (h : F49.vc x0 w Q) : Calls Tryz.prog 49 #[ofL x0] w (fun e w' => ∃ v, e = .returned v ∧ Q v w') := vcFn_of (A := F49.an) noCount mixed h (by kernel_rfl)
/-! ### function 50: stillage/state.word -/
def F50.vc (x0 : List Value) (w : World) (Q : Value → World → Prop) : Prop :=
  nw w x0 53 fun b1 w2 =>
  nw w2 Z37 37 fun b3 w4 =>
  ldS w4 b1 0 fun s5 =>
  ldA 32 w4 b1 (0 + 1) fun a6 =>
  ldA 3 w4 b1 (0 + 34) fun a7 =>
  gd (a6.length == 32) <|
  gd (a7.length == 3) <|
  nw w4 Z37 37 fun b8 w9 =>
  gd (([Value.int .i64 3] ++ ([Value.int .u64 0] ++ (a6 ++ ([Value.string s5] ++ ([Value.int .i64 0] ++ (a7 ++ [])))))).length == 39) <|
  st w9 b8 0 ([Value.int .i64 3] ++ ([Value.int .u64 0] ++ (a6 ++ ([Value.string s5] ++ ([Value.int .i64 0] ++ (a7 ++ [])))))) fun w10 =>
  ldB w10 b1 (0 + 33) fun t11 =>
  vIf t11
  (st w10 b8 0 [Value.int .i64 4] fun w12 =>
    ldA 39 w12 b8 0 fun a13 =>
    gd (a13.length == 39) <|
    st w12 b3 0 a13 fun w14 =>
    ldA 39 w14 b3 0 fun a15 =>
    Q (ofL a15) w14)
  (ldA 39 w10 b8 0 fun a16 =>
    gd (a16.length == 39) <|
    st w10 b3 0 a16 fun w17 =>
    ldA 39 w17 b3 0 fun a18 =>
    Q (ofL a18) w17)
def F50.an : Ann := ⟨[], []⟩
theorem F50.of (x0 : List Value) (w : World) {Q : Value → World → Prop} (h : F50.vc x0 w Q) : Calls Tryz.prog 50 #[ofL x0] w (fun e w' => ∃ v, e = .returned v ∧ Q v w') := vcFn_of (A := F50.an) noCount mixed h (by kernel_rfl)
/-! ### function 51: slices.SortStableFunc[[]stillage/api.Word,stillage/api.Word] -/
def F51s.vc (x0A : Option Addr) (x0n x0c : Nat) (w : World) (Q : Value → World → Prop) : Prop :=
  Calls Tryz.prog 93 #[Value.slice x0A x0n x0c, Value.int .i64 ((x0n : Nat) : Int), Value.func (.func 52) #[] #[]] w fun e2 w1 =>
  e2 = .returned (Value.tuple #[]) ∧ (
    Q (Value.tuple #[]) w1)
def F51s.an : Ann := ⟨[], []⟩
theorem F51s.of (x0A : Option Addr) (x0n x0c : Nat) (w : World) {Q : Value → World → Prop} (h : F51s.vc x0A x0n x0c w Q) : Calls Tryz.prog 51 #[Value.slice x0A x0n x0c, Value.func (.func 52) #[] #[]] w (fun e w' => ∃ v, e = .returned v ∧ Q v w') := vcFn_of (A := F51s.an) noCount mixed h (by kernel_rfl)
/-! ### function 52: (*stillage/state.State).Here$1 -/
def F52.vc (x0 : List Value) (x1 : List Value) (w : World) (Q : Value → World → Prop) : Prop :=
  nw w x0 37 fun b1 w2 =>
  nw w2 x1 37 fun b3 w4 =>
  ldI .i64 w4 b1 ((0 + 36) + 1) fun i5 =>
  ldI .i64 w4 b3 ((0 + 36) + 1) fun i6 =>
  Calls Tryz.prog 53 #[Value.int .i64 i5, Value.int .i64 i6] w4 fun e8 w7 =>
  ∃ i9 : Int, e8 = .returned (Value.int .i64 i9) ∧ (
    Q (Value.int .i64 i9) w7)
def F52.an : Ann := ⟨[], []⟩
theorem F52.of (x0 : List Value) (x1 : List Value) (w : World) {Q : Value → World → Prop} (h : F52.vc x0 x1 w Q) : Calls Tryz.prog 52 #[ofL x0, ofL x1] w (fun e w' => ∃ v, e = .returned v ∧ Q v w') := vcFn_of (A := F52.an) noCount mixed h (by kernel_rfl)
/-! ### function 53: cmp.Compare[int] -/
def F53.vc (x0 : Int) (x1 : Int) (w : World) (Q : Value → World → Prop) : Prop :=
  Calls Tryz.prog 94 #[Value.int .i64 x0] w fun e2 w1 =>
  ∃ t3 : Bool, e2 = .returned (Value.bool t3) ∧ (
    Calls Tryz.prog 94 #[Value.int .i64 x1] w1 fun e5 w4 =>
    ∃ t6 : Bool, e5 = .returned (Value.bool t6) ∧ (
      vIf t3
      (vIf t6
        (Q (Value.int .i64 0) w4)
        (Q (Value.int .i64 (-1)) w4))
      (vIf t6
        (Q (Value.int .i64 1) w4)
        (vIf (decide (x0 < x1))
          (Q (Value.int .i64 (-1)) w4)
          (vIf (decide (x0 > x1))
            (Q (Value.int .i64 1) w4)
            (Q (Value.int .i64 0) w4))))))
def F53.an : Ann := ⟨[], []⟩
theorem F53.of (x0 : Int) (x1 : Int) (w : World) {Q : Value → World → Prop} (h : F53.vc x0 x1 w Q) : Calls Tryz.prog 53 #[Value.int .i64 x0, Value.int .i64 x1] w (fun e w' => ∃ v, e = .returned v ∧ Q v w') := vcFn_of (A := F53.an) noCount mixed h (by kernel_rfl)
/-! ### function 55: stillage/stillageref20.New -/
def F55.b3c (Q : Value → World → Prop) (C3 : ((Option Addr × Nat × Nat) × (Option Addr × Nat × Nat) × Int × Unit) → World → Prop) (x0 : (Option Addr × Nat × Nat)) (x3 : (Option Addr × Nat × Nat)) (x4 : Int) (w : World) : Prop :=
  vIf (decide (x4 < ((x0.2.1 : Nat) : Int)))
  (dr x0.1 fun b1 o2 =>
    gd (decide (0 ≤ x4)) <|
    gd (decide (x4 < ((x0.2.1 : Nat) : Int))) <|
    ldA 38 w b1 (o2 + (x4).toNat * 38) fun a3 =>
    Calls Tryz.prog 95 #[Value.slice x3.1 x3.2.1 x3.2.2, ofL a3] w fun e5 w4 =>
    ∃ (A6 : Option Addr) (n7 c8 : Nat), e5 = .returned (Value.slice A6 n7 c8) ∧ (
      jnC C3 ((x0.1, x0.2.1, x0.2.2), (A6, n7, c8), ((IntKind.wrap .i64 (x4 + 1))), ()) w4))
  (Q (Value.slice x3.1 x3.2.1 x3.2.2) w)
def F55.b3 (Q : Value → World → Prop) : ((Option Addr × Nat × Nat) × (Option Addr × Nat × Nat) × Int × Unit) → World → (((Option Addr × Nat × Nat) × (Option Addr × Nat × Nat) × Int × Unit) → World → Prop) → Prop := fun s w C3 => ∀ _ : Nat → Value, F55.b3c Q C3 s.1 s.2.1 s.2.2.1 w
def F55.l3 (Q : Value → World → Prop) : ((Option Addr × Nat × Nat) × (Option Addr × Nat × Nat) × Int × Unit) → World → Prop := fun s w => ∃ n, loopC (F55.b3 Q) n s w
def F55.vc (x0A : Option Addr) (x0n x0c : Nat) (w : World) (Q : Value → World → Prop) : Prop :=
  jnC (F55.l3 Q) ((x0A, x0n, x0c), (none, 0, 0), (0), ()) w
def F55.an : Ann := ⟨[(3, [(0, .kSl), (3, .kSl), (4, .kI .i64)])], []⟩
theorem F55.of (x0A : Option Addr) (x0n x0c : Nat) (w : World) {Q : Value → World → Prop} (h : F55.vc x0A x0n x0c w Q) : Calls Tryz.prog 55 #[Value.slice x0A x0n x0c] w (fun e w' => ∃ v, e = .returned v ∧ Q v w') := vcFn_of (A := F55.an) noCount mixed h (by kernel_rfl)
/-! ### function 56: stillage/stillageref21.New -/
def F56.b3c (Q : Value → World → Prop) (C3 : ((Option Addr × Nat × Nat) × (Option Addr × Nat × Nat) × Int × Unit) → World → Prop) (x0 : (Option Addr × Nat × Nat)) (x3 : (Option Addr × Nat × Nat)) (x4 : Int) (w : World) : Prop :=
  vIf (decide (x4 < ((x0.2.1 : Nat) : Int)))
  (dr x0.1 fun b1 o2 =>
    gd (decide (0 ≤ x4)) <|
    gd (decide (x4 < ((x0.2.1 : Nat) : Int))) <|
    ldA 38 w b1 (o2 + (x4).toNat * 38) fun a3 =>
    Calls Tryz.prog 96 #[Value.slice x3.1 x3.2.1 x3.2.2, ofL a3] w fun e5 w4 =>
    ∃ (A6 : Option Addr) (n7 c8 : Nat), e5 = .returned (Value.slice A6 n7 c8) ∧ (
      jnC C3 ((x0.1, x0.2.1, x0.2.2), (A6, n7, c8), ((IntKind.wrap .i64 (x4 + 1))), ()) w4))
  (Q (Value.slice x3.1 x3.2.1 x3.2.2) w)
def F56.b3 (Q : Value → World → Prop) : ((Option Addr × Nat × Nat) × (Option Addr × Nat × Nat) × Int × Unit) → World → (((Option Addr × Nat × Nat) × (Option Addr × Nat × Nat) × Int × Unit) → World → Prop) → Prop := fun s w C3 => ∀ _ : Nat → Value, F56.b3c Q C3 s.1 s.2.1 s.2.2.1 w
def F56.l3 (Q : Value → World → Prop) : ((Option Addr × Nat × Nat) × (Option Addr × Nat × Nat) × Int × Unit) → World → Prop := fun s w => ∃ n, loopC (F56.b3 Q) n s w
def F56.vc (x0A : Option Addr) (x0n x0c : Nat) (w : World) (Q : Value → World → Prop) : Prop :=
  jnC (F56.l3 Q) ((x0A, x0n, x0c), (none, 0, 0), (0), ()) w
def F56.an : Ann := ⟨[(3, [(0, .kSl), (3, .kSl), (4, .kI .i64)])], []⟩
theorem F56.of (x0A : Option Addr) (x0n x0c : Nat) (w : World) {Q : Value → World → Prop} (h : F56.vc x0A x0n x0c w Q) : Calls Tryz.prog 56 #[Value.slice x0A x0n x0c] w (fun e w' => ∃ v, e = .returned v ∧ Q v w') := vcFn_of (A := F56.an) noCount mixed h (by kernel_rfl)
/-! ### function 57: stillage/stillageref22.load -/
def F57.k13c (Q : Value → World → Prop) (C4 : ((Option Addr × Nat × Nat) × Int × Int × Bool × (Option Addr × Nat × Nat) × Bool × Int × Unit) → World → Prop) (x0 : (Option Addr × Nat × Nat)) (x1 : Int) (x2 : Int) (x3 : Bool) (x9 : (Option Addr × Nat × Nat)) (x11 : Int) (x12 : (Nat × Nat)) (w : World) : Prop :=
  ldI .i64 w x12.1 (x12.2 + 1) fun i18 =>
  st w x12.1 (x12.2 + 1) [Value.int .i64 (IntKind.wrap .i64 (i18 + x2))] fun w19 =>
  ldA 3 w19 x12.1 x12.2 fun a20 =>
  gd (a20.length == 3) <|
  nw w19 (a20 ++ []) 98 fun b21 w22 =>
  app w22 3 24 [Value.int .i64 0, Value.int .i64 0, Value.int .i64 0] 98 x9.1 x9.2.1 x9.2.2 (Value.slice (some ⟨b21, 0, none⟩) 1 1) fun A23 n24 c25 w26 =>
  jnC C4 ((x0.1, x0.2.1, x0.2.2), (x1), (x2), x3, (A23, n24, c25), true, ((IntKind.wrap .i64 (x11 + 1))), ()) w26
def F57.k13 (Q : Value → World → Prop) (C4 : ((Option Addr × Nat × Nat) × Int × Int × Bool × (Option Addr × Nat × Nat) × Bool × Int × Unit) → World → Prop) : ((Option Addr × Nat × Nat) × Int × Int × Bool × (Option Addr × Nat × Nat) × Int × (Nat × Nat) × Unit) → World → Prop := fun s w => ∀ _ : Nat → Value, F57.k13c Q C4 s.1 s.2.1 s.2.2.1 s.2.2.2.1 s.2.2.2.2.1 s.2.2.2.2.2.1 s.2.2.2.2.2.2.1 w
def F57.k9c (Q : Value → World → Prop) (C4 : ((Option Addr × Nat × Nat) × Int × Int × Bool × (Option Addr × Nat × Nat) × Bool × Int × Unit) → World → Prop) (x0 : (Option Addr × Nat × Nat)) (x1 : Int) (x2 : Int) (x3 : Bool) (x9 : (Option Addr × Nat × Nat)) (x10 : Bool) (x11 : Int) (w : World) : Prop :=
  dr x0.1 fun b10 o11 =>
  gd (decide (0 ≤ x11)) <|
  gd (decide (x11 < ((x0.2.1 : Nat) : Int))) <|
  ldA 3 w b10 (o11 + (x11).toNat * 3) fun a12 =>
  nw w [Value.int .i64 0, Value.int .i64 0, Value.int .i64 0] 98 fun b13 w14 =>
  gd (a12.length == 3) <|
  st w14 b13 0 a12 fun w15 =>
  ldI .i64 w15 b13 0 fun i16 =>
  vIf (i16 == x1)
  (vIf x3
    (st w15 b13 (0 + 1) [Value.int .i64 0] fun w17 =>
      jnC (F57.k13 Q C4) ((x0.1, x0.2.1, x0.2.2), (x1), (x2), x3, (x9.1, x9.2.1, x9.2.2), (x11), (b13, 0), ()) w17)
    (jnC (F57.k13 Q C4) ((x0.1, x0.2.1, x0.2.2), (x1), (x2), x3, (x9.1, x9.2.1, x9.2.2), (x11), (b13, 0), ()) w15))
  (ldA 3 w15 b13 0 fun a27 =>
    gd (a27.length == 3) <|
    nw w15 (a27 ++ []) 98 fun b28 w29 =>
    app w29 3 24 [Value.int .i64 0, Value.int .i64 0, Value.int .i64 0] 98 x9.1 x9.2.1 x9.2.2 (Value.slice (some ⟨b28, 0, none⟩) 1 1) fun A30 n31 c32 w33 =>
    jnC C4 ((x0.1, x0.2.1, x0.2.2), (x1), (x2), x3, (A30, n31, c32), x10, ((IntKind.wrap .i64 (x11 + 1))), ()) w33)
def F57.k9 (Q : Value → World → Prop) (C4 : ((Option Addr × Nat × Nat) × Int × Int × Bool × (Option Addr × Nat × Nat) × Bool × Int × Unit) → World → Prop) : ((Option Addr × Nat × Nat) × Int × Int × Bool × (Option Addr × Nat × Nat) × Bool × Int × Unit) → World → Prop := fun s w => ∀ _ : Nat → Value, F57.k9c Q C4 s.1 s.2.1 s.2.2.1 s.2.2.2.1 s.2.2.2.2.1 s.2.2.2.2.2.1 s.2.2.2.2.2.2.1 w
def F57.k7c (Q : Value → World → Prop) (C4 : ((Option Addr × Nat × Nat) × Int × Int × Bool × (Option Addr × Nat × Nat) × Bool × Int × Unit) → World → Prop) (x0 : (Option Addr × Nat × Nat)) (x1 : Int) (x2 : Int) (x3 : Bool) (x9 : (Option Addr × Nat × Nat)) (x10 : Bool) (x11 : Int) (x29 : Bool) (w : World) : Prop :=
  vIf x29
  (gd (([Value.int .i64 x1] ++ ([Value.int .i64 x2] ++ ([Value.int .i64 0] ++ []))).length == 3) <|
    nw w (([Value.int .i64 x1] ++ ([Value.int .i64 x2] ++ ([Value.int .i64 0] ++ []))) ++ []) 98 fun b4 w5 =>
    app w5 3 24 [Value.int .i64 0, Value.int .i64 0, Value.int .i64 0] 98 x9.1 x9.2.1 x9.2.2 (Value.slice (some ⟨b4, 0, none⟩) 1 1) fun A6 n7 c8 w9 =>
    jnC (F57.k9 Q C4) ((x0.1, x0.2.1, x0.2.2), (x1), (x2), x3, (A6, n7, c8), true, (x11), ()) w9)
  (jnC (F57.k9 Q C4) ((x0.1, x0.2.1, x0.2.2), (x1), (x2), x3, (x9.1, x9.2.1, x9.2.2), x10, (x11), ()) w)
def F57.k7 (Q : Value → World → Prop) (C4 : ((Option Addr × Nat × Nat) × Int × Int × Bool × (Option Addr × Nat × Nat) × Bool × Int × Unit) → World → Prop) : ((Option Addr × Nat × Nat) × Int × Int × Bool × (Option Addr × Nat × Nat) × Bool × Int × Bool × Unit) → World → Prop := fun s w => ∀ _ : Nat → Value, F57.k7c Q C4 s.1 s.2.1 s.2.2.1 s.2.2.2.1 s.2.2.2.2.1 s.2.2.2.2.2.1 s.2.2.2.2.2.2.1 s.2.2.2.2.2.2.2.1 w
def F57.b4c (Q : Value → World → Prop) (C4 : ((Option Addr × Nat × Nat) × Int × Int × Bool × (Option Addr × Nat × Nat) × Bool × Int × Unit) → World → Prop) (x0 : (Option Addr × Nat × Nat)) (x1 : Int) (x2 : Int) (x3 : Bool) (x9 : (Option Addr × Nat × Nat)) (x10 : Bool) (x11 : Int) (w : World) : Prop :=
  vIf (decide (x11 < ((x0.2.1 : Nat) : Int)))
  (vIf (!x10)
    (dr x0.1 fun b1 o2 =>
      gd (decide (0 ≤ x11)) <|
      gd (decide (x11 < ((x0.2.1 : Nat) : Int))) <|
      ldI .i64 w b1 (o2 + (x11).toNat * 3) fun i3 =>
      jnC (F57.k7 Q C4) ((x0.1, x0.2.1, x0.2.2), (x1), (x2), x3, (x9.1, x9.2.1, x9.2.2), x10, (x11), (decide (i3 > x1)), ()) w)
    (jnC (F57.k7 Q C4) ((x0.1, x0.2.1, x0.2.2), (x1), (x2), x3, (x9.1, x9.2.1, x9.2.2), x10, (x11), false, ()) w))
  (vIf (!x10)
    (gd (([Value.int .i64 x1] ++ ([Value.int .i64 x2] ++ ([Value.int .i64 0] ++ []))).length == 3) <|
      nw w (([Value.int .i64 x1] ++ ([Value.int .i64 x2] ++ ([Value.int .i64 0] ++ []))) ++ []) 98 fun b34 w35 =>
      app w35 3 24 [Value.int .i64 0, Value.int .i64 0, Value.int .i64 0] 98 x9.1 x9.2.1 x9.2.2 (Value.slice (some ⟨b34, 0, none⟩) 1 1) fun A36 n37 c38 w39 =>
      Q (Value.slice A36 n37 c38) w39)
    (Q (Value.slice x9.1 x9.2.1 x9.2.2) w))
def F57.b4 (Q : Value → World → Prop) : ((Option Addr × Nat × Nat) × Int × Int × Bool × (Option Addr × Nat × Nat) × Bool × Int × Unit) → World → (((Option Addr × Nat × Nat) × Int × Int × Bool × (Option Addr × Nat × Nat) × Bool × Int × Unit) → World → Prop) → Prop := fun s w C4 => ∀ _ : Nat → Value, F57.b4c Q C4 s.1 s.2.1 s.2.2.1 s.2.2.2.1 s.2.2.2.2.1 s.2.2.2.2.2.1 s.2.2.2.2.2.2.1 w
def F57.l4 (Q : Value → World → Prop) : ((Option Addr × Nat × Nat) × Int × Int × Bool × (Option Addr × Nat × Nat) × Bool × Int × Unit) → World → Prop := fun s w => ∃ n, loopC (F57.b4 Q) n s w
def F57.vc (x0A : Option Addr) (x0n x0c : Nat) (x1 : Int) (x2 : Int) (x3 : Bool) (w : World) (Q : Value → World → Prop) : Prop :=
  jnC (F57.l4 Q) ((x0A, x0n, x0c), (x1), (x2), x3, (none, 0, 0), false, (0), ()) w
def F57.an : Ann := ⟨[(4, [(0, .kSl), (1, .kI .i64), (2, .kI .i64), (3, .kB), (9, .kSl), (10, .kB), (11, .kI .i64)])], [(7, [(0, .kSl), (1, .kI .i64), (2, .kI .i64), (3, .kB), (9, .kSl), (10, .kB), (11, .kI .i64), (29, .kB)]), (9, [(0, .kSl), (1, .kI .i64), (2, .kI .i64), (3, .kB), (9, .kSl), (10, .kB), (11, .kI .i64)]), (13, [(0, .kSl), (1, .kI .i64), (2, .kI .i64), (3, .kB), (9, .kSl), (11, .kI .i64), (12, .kL)])]⟩
theorem F57.of (x0A : Option Addr) (x0n x0c : Nat) (x1 : Int) (x2 : Int) (x3 : Bool) (w : World) {Q : Value → World → Prop} (h : F57.vc x0A x0n x0c x1 x2 x3 w Q) : Calls Tryz.prog 57 #[Value.slice x0A x0n x0c, Value.int .i64 x1, Value.int .i64 x2, Value.bool x3] w (fun e w' => ∃ v, e = .returned v ∧ Q v w') := vcFn_of (A := F57.an) noCount mixed h (by kernel_rfl)
/-! ### function 58: (*stillage/index.Index).Get -/
def F58.vc (x0 : Option Addr) (x1 : List Value) (w : World) (Q : Value → World → Prop) : Prop :=
  nw w x1 33 fun b1 w2 =>
  nw w2 Z48 48 fun b3 w4 =>
  vIf x0.isNone
  (gd (([Value.int .u8 0, Value.int .u8 0, Value.int .u8 0, Value.int .u8 0, Value.int .u8 0, Value.int .u8 0, Value.int .u8 0, Value.int .u8 0, Value.int .u8 0, Value.int .u8 0, Value.int .u8 0, Value.int .u8 0, Value.int .u8 0, Value.int .u8 0, Value.int .u8 0, Value.int .u8 0, Value.int .u8 0, Value.int .u8 0, Value.int .u8 0, Value.int .u8 0, Value.int .u8 0, Value.int .u8 0, Value.int .u8 0, Value.int .u8 0, Value.int .u8 0, Value.int .u8 0, Value.int .u8 0, Value.int .u8 0, Value.int .u8 0, Value.int .u8 0, Value.int .u8 0, Value.int .u8 0] ++ ([Value.int .i64 0] ++ ([Value.int .i64 0] ++ ([Value.int .i64 0, Value.int .i64 0, Value.int .i64 0] ++ ([Value.slice none 0 0] ++ []))))).length == 38) <|
    st w4 b3 0 ([Value.int .u8 0, Value.int .u8 0, Value.int .u8 0, Value.int .u8 0, Value.int .u8 0, Value.int .u8 0, Value.int .u8 0, Value.int .u8 0, Value.int .u8 0, Value.int .u8 0, Value.int .u8 0, Value.int .u8 0, Value.int .u8 0, Value.int .u8 0, Value.int .u8 0, Value.int .u8 0, Value.int .u8 0, Value.int .u8 0, Value.int .u8 0, Value.int .u8 0, Value.int .u8 0, Value.int .u8 0, Value.int .u8 0, Value.int .u8 0, Value.int .u8 0, Value.int .u8 0, Value.int .u8 0, Value.int .u8 0, Value.int .u8 0, Value.int .u8 0, Value.int .u8 0, Value.int .u8 0] ++ ([Value.int .i64 0] ++ ([Value.int .i64 0] ++ ([Value.int .i64 0, Value.int .i64 0, Value.int .i64 0] ++ ([Value.slice none 0 0] ++ []))))) fun w5 =>
    ldA 38 w5 b3 0 fun a6 =>
    Q (Value.tuple #[ofL a6, Value.bool false]) w5)
  (dr x0 fun b7 o8 =>
    ldP w4.drew b7 o8 fun p9 =>
    ldA 32 w4.drew b1 0 fun a10 =>
    (Calls Tryz.prog 84 #[Value.pointer p9, ofL a10] w4.drew fun e12 w11 =>
      ∃ a13 : List Value, ∃ t14 : Bool, e12 = .returned (Value.tuple #[ofL a13, Value.bool t14]) ∧ (
        nw w11 Z48 48 fun b15 w16 =>
        kp w4.drew b1 0 32 w16 <|
        kp w4.drew b7 o8 1 w16 <|
        gd (a13.length == 38) <|
        st w16 b15 0 a13 fun w17 =>
        ldA 38 w17 b15 0 fun a18 =>
        Calls Tryz.prog 80 #[ofL a18] w17 fun e20 w19 =>
        ∃ a21 : List Value, e20 = .returned (ofL a21) ∧ (
          gd (a21.length == 38) <|
          st w19 b3 0 a21 fun w22 =>
          ldA 38 w22 b3 0 fun a23 =>
          Q (Value.tuple #[ofL a23, Value.bool t14]) w22))) ∧
    (nw w4.drew Z48 48 fun b24 w25 =>
      kp w4.drew b1 0 32 w25 <|
      kp w4.drew b7 o8 1 w25 <|
      Calls Tryz.prog 84 #[Value.pointer p9, ofL a10] w25 fun e27 w26 =>
      ∃ a28 : List Value, ∃ t29 : Bool, e27 = .returned (Value.tuple #[ofL a28, Value.bool t29]) ∧ (
        gd (a28.length == 38) <|
        st w26 b24 0 a28 fun w30 =>
        ldA 38 w30 b24 0 fun a31 =>
        Calls Tryz.prog 80 #[ofL a31] w30 fun e33 w32 =>
        ∃ a34 : List Value, e33 = .returned (ofL a34) ∧ (
          gd (a34.length == 38) <|
          st w32 b3 0 a34 fun w35 =>
          ldA 38 w35 b3 0 fun a36 =>
          Q (Value.tuple #[ofL a36, Value.bool t29]) w35))))
def F58.an : Ann := ⟨[], []⟩
theorem F58.of (x0 : Option Addr) (x1 : List Value) (w : World) {Q : Value → World → Prop} (h : F58.vc x0 x1 w Q) : Calls Tryz.prog 58 #[Value.pointer x0, ofL x1] w (fun e w' => ∃ v, e = .returned v ∧ Q v w') := vcFn_of (A := F58.an) noCount mixed h (by kernel_rfl)
/-! ### function 59: (*stillage/tags.Tags).Get -/
def F59.vc (x0 : Option Addr) (x1 : ByteArray) (w : World) (Q : Value → World → Prop) : Prop :=
  nw w Z53 53 fun b1 w2 =>
  vIf x0.isNone
  (gd (([Value.string (⟨#[]⟩ : ByteArray)] ++ ([Value.int .u8 0, Value.int .u8 0, Value.int .u8 0, Value.int .u8 0, Value.int .u8 0, Value.int .u8 0, Value.int .u8 0, Value.int .u8 0, Value.int .u8 0, Value.int .u8 0, Value.int .u8 0, Value.int .u8 0, Value.int .u8 0, Value.int .u8 0, Value.int .u8 0, Value.int .u8 0, Value.int .u8 0, Value.int .u8 0, Value.int .u8 0, Value.int .u8 0, Value.int .u8 0, Value.int .u8 0, Value.int .u8 0, Value.int .u8 0, Value.int .u8 0, Value.int .u8 0, Value.int .u8 0, Value.int .u8 0, Value.int .u8 0, Value.int .u8 0, Value.int .u8 0, Value.int .u8 0] ++ ([Value.bool false] ++ ([Value.int .i64 0, Value.int .i64 0, Value.int .i64 0] ++ ([Value.slice none 0 0] ++ []))))).length == 38) <|
    st w2 b1 0 ([Value.string (⟨#[]⟩ : ByteArray)] ++ ([Value.int .u8 0, Value.int .u8 0, Value.int .u8 0, Value.int .u8 0, Value.int .u8 0, Value.int .u8 0, Value.int .u8 0, Value.int .u8 0, Value.int .u8 0, Value.int .u8 0, Value.int .u8 0, Value.int .u8 0, Value.int .u8 0, Value.int .u8 0, Value.int .u8 0, Value.int .u8 0, Value.int .u8 0, Value.int .u8 0, Value.int .u8 0, Value.int .u8 0, Value.int .u8 0, Value.int .u8 0, Value.int .u8 0, Value.int .u8 0, Value.int .u8 0, Value.int .u8 0, Value.int .u8 0, Value.int .u8 0, Value.int .u8 0, Value.int .u8 0, Value.int .u8 0, Value.int .u8 0] ++ ([Value.bool false] ++ ([Value.int .i64 0, Value.int .i64 0, Value.int .i64 0] ++ ([Value.slice none 0 0] ++ []))))) fun w3 =>
    ldA 38 w3 b1 0 fun a4 =>
    Q (Value.tuple #[ofL a4, Value.bool false]) w3)
  (Calls Tryz.prog 97 #[Value.pointer x0, Value.string x1] w2 fun e6 w5 =>
    ∃ i7 : Int, ∃ t8 : Bool, e6 = .returned (Value.tuple #[Value.int .i64 i7, Value.bool t8]) ∧ (
      vIf (!t8)
      (gd (([Value.string (⟨#[]⟩ : ByteArray)] ++ ([Value.int .u8 0, Value.int .u8 0, Value.int .u8 0, Value.int .u8 0, Value.int .u8 0, Value.int .u8 0, Value.int .u8 0, Value.int .u8 0, Value.int .u8 0, Value.int .u8 0, Value.int .u8 0, Value.int .u8 0, Value.int .u8 0, Value.int .u8 0, Value.int .u8 0, Value.int .u8 0, Value.int .u8 0, Value.int .u8 0, Value.int .u8 0, Value.int .u8 0, Value.int .u8 0, Value.int .u8 0, Value.int .u8 0, Value.int .u8 0, Value.int .u8 0, Value.int .u8 0, Value.int .u8 0, Value.int .u8 0, Value.int .u8 0, Value.int .u8 0, Value.int .u8 0, Value.int .u8 0] ++ ([Value.bool false] ++ ([Value.int .i64 0, Value.int .i64 0, Value.int .i64 0] ++ ([Value.slice none 0 0] ++ []))))).length == 38) <|
        st w5 b1 0 ([Value.string (⟨#[]⟩ : ByteArray)] ++ ([Value.int .u8 0, Value.int .u8 0, Value.int .u8 0, Value.int .u8 0, Value.int .u8 0, Value.int .u8 0, Value.int .u8 0, Value.int .u8 0, Value.int .u8 0, Value.int .u8 0, Value.int .u8 0, Value.int .u8 0, Value.int .u8 0, Value.int .u8 0, Value.int .u8 0, Value.int .u8 0, Value.int .u8 0, Value.int .u8 0, Value.int .u8 0, Value.int .u8 0, Value.int .u8 0, Value.int .u8 0, Value.int .u8 0, Value.int .u8 0, Value.int .u8 0, Value.int .u8 0, Value.int .u8 0, Value.int .u8 0, Value.int .u8 0, Value.int .u8 0, Value.int .u8 0, Value.int .u8 0] ++ ([Value.bool false] ++ ([Value.int .i64 0, Value.int .i64 0, Value.int .i64 0] ++ ([Value.slice none 0 0] ++ []))))) fun w9 =>
        ldA 38 w9 b1 0 fun a10 =>
        Q (Value.tuple #[ofL a10, Value.bool false]) w9)
      (dr x0 fun b11 o12 =>
        ldSl w5 b11 o12 fun A13 n14 c15 =>
        dr A13 fun b16 o17 =>
        gd (decide (0 ≤ i7)) <|
        gd (decide (i7 < ((n14 : Nat) : Int))) <|
        ldA 38 w5 b16 (o17 + (i7).toNat * 38) fun a18 =>
        Calls Tryz.prog 82 #[ofL a18] w5 fun e20 w19 =>
        ∃ a21 : List Value, e20 = .returned (ofL a21) ∧ (
          gd (a21.length == 38) <|
          st w19 b1 0 a21 fun w22 =>
          ldA 38 w22 b1 0 fun a23 =>
          Q (Value.tuple #[ofL a23, Value.bool true]) w22))))
def F59.an : Ann := ⟨[], []⟩
theorem F59.of (x0 : Option Addr) (x1 : ByteArray) (w : World) {Q : Value → World → Prop} (h : F59.vc x0 x1 w Q) : Calls Tryz.prog 59 #[Value.pointer x0, Value.string x1] w (fun e w' => ∃ v, e = .returned v ∧ Q v w') := vcFn_of (A := F59.an) noCount mixed h (by kernel_rfl)
/-! ### function 62: stillage/stillageref11.Ints -/
def F62.b4c (Q : Value → World → Prop) (C4 : ((Option Addr × Nat × Nat) × (Option Addr × Nat × Nat) × Int × Unit) → World → Prop) (x0 : (Option Addr × Nat × Nat)) (x1 : (Option Addr × Nat × Nat)) (x5 : Int) (w : World) : Prop :=
  vIf (decide (x5 < ((x0.2.1 : Nat) : Int)))
  (dr x0.1 fun b1 o2 =>
    gd (decide (0 ≤ x5)) <|
    gd (decide (x5 < ((x0.2.1 : Nat) : Int))) <|
    ldI .i64 w.drew b1 (o2 + (x5).toNat * 1) fun i3 =>
    dr x1.1 fun b4 o5 =>
    gd (decide (0 ≤ x5)) <|
    gd (decide (x5 < ((x1.2.1 : Nat) : Int))) <|
    ldI .i64 w.drew b4 (o5 + (x5).toNat * 1) fun i6 =>
    vIf (i3 != i6)
    (Q (Value.bool false) w.drew)
    (jnC C4 ((x0.1, x0.2.1, x0.2.2), (x1.1, x1.2.1, x1.2.2), ((IntKind.wrap .i64 (x5 + 1))), ()) w.drew))
  (Q (Value.bool true) w)
def F62.b4 (Q : Value → World → Prop) : ((Option Addr × Nat × Nat) × (Option Addr × Nat × Nat) × Int × Unit) → World → (((Option Addr × Nat × Nat) × (Option Addr × Nat × Nat) × Int × Unit) → World → Prop) → Prop := fun s w C4 => ∀ _ : Nat → Value, F62.b4c Q C4 s.1 s.2.1 s.2.2.1 w
def F62.l4 (Q : Value → World → Prop) : ((Option Addr × Nat × Nat) × (Option Addr × Nat × Nat) × Int × Unit) → World → Prop := fun s w => ∃ n, loopC (F62.b4 Q) n s w
def F62.vc (x0A : Option Addr) (x0n x0c : Nat) (x1A : Option Addr) (x1n x1c : Nat) (w : World) (Q : Value → World → Prop) : Prop :=
  vIf (((x0n : Nat) : Int) != ((x1n : Nat) : Int))
  (Q (Value.bool false) w)
  (jnC (F62.l4 Q) ((x0A, x0n, x0c), (x1A, x1n, x1c), (0), ()) w)
def F62.an : Ann := ⟨[(4, [(0, .kSl), (1, .kSl), (5, .kI .i64)])], []⟩
theorem F62.of (x0A : Option Addr) (x0n x0c : Nat) (x1A : Option Addr) (x1n x1c : Nat) (w : World) {Q : Value → World → Prop} (h : F62.vc x0A x0n x0c x1A x1n x1c w Q) : Calls Tryz.prog 62 #[Value.slice x0A x0n x0c, Value.slice x1A x1n x1c] w (fun e w' => ∃ v, e = .returned v ∧ Q v w') := vcFn_of (A := F62.an) noCount mixed h (by kernel_rfl)
/-! ### function 65: stillage/stillageref20.Apply -/
def F65.k5c (Q : Value → World → Prop) (x0 : (Option Addr × Nat × Nat)) (x3 : (Nat × Nat)) (x5 : (Nat × Nat)) (x32 : Bool) (w : World) : Prop :=
  vIf x32
  (ldA 38 w x5.1 x5.2 fun a23 =>
    ldA 39 w x3.1 x3.2 fun a24 =>
    Calls Tryz.prog 100 #[ofL a23, ofL a24] w fun e26 w25 =>
    ∃ a27 : List Value, e26 = .returned (ofL a27) ∧ (
      Calls Tryz.prog 95 #[Value.slice x0.1 x0.2.1 x0.2.2, ofL a27] w25 fun e29 w28 =>
      ∃ (A30 : Option Addr) (n31 c32 : Nat), e29 = .returned (Value.slice A30 n31 c32) ∧ (
        Q (Value.slice A30 n31 c32) w28)))
  (Q (Value.slice x0.1 x0.2.1 x0.2.2) w)
def F65.k5 (Q : Value → World → Prop) : ((Option Addr × Nat × Nat) × (Nat × Nat) × (Nat × Nat) × Bool × Unit) → World → Prop := fun s w => ∀ _ : Nat → Value, F65.k5c Q s.1 s.2.1 s.2.2.1 s.2.2.2.1 w
def F65.k4c (Q : Value → World → Prop) (x0 : (Option Addr × Nat × Nat)) (x3 : (Nat × Nat)) (x5 : (Nat × Nat)) (x6 : Bool) (w : World) : Prop :=
  ldI .i64 w x3.1 x3.2 fun i22 =>
  vIf (i22 == 5)
  (jnC (F65.k5 Q) ((x0.1, x0.2.1, x0.2.2), (x3.1, x3.2), (x5.1, x5.2), x6, ()) w)
  (jnC (F65.k5 Q) ((x0.1, x0.2.1, x0.2.2), (x3.1, x3.2), (x5.1, x5.2), false, ()) w)
def F65.k4 (Q : Value → World → Prop) : ((Option Addr × Nat × Nat) × (Nat × Nat) × (Nat × Nat) × Bool × Unit) → World → Prop := fun s w => ∀ _ : Nat → Value, F65.k4c Q s.1 s.2.1 s.2.2.1 s.2.2.2.1 w
def F65.k3c (Q : Value → World → Prop) (x0 : (Option Addr × Nat × Nat)) (x3 : (Nat × Nat)) (x5 : (Nat × Nat)) (x6 : Bool) (x21 : Bool) (w : World) : Prop :=
  vIf x21
  (ldA 38 w x5.1 x5.2 fun a12 =>
    ldA 39 w x3.1 x3.2 fun a13 =>
    Calls Tryz.prog 99 #[ofL a12, ofL a13] w fun e15 w14 =>
    ∃ a16 : List Value, e15 = .returned (ofL a16) ∧ (
      Calls Tryz.prog 95 #[Value.slice x0.1 x0.2.1 x0.2.2, ofL a16] w14 fun e18 w17 =>
      ∃ (A19 : Option Addr) (n20 c21 : Nat), e18 = .returned (Value.slice A19 n20 c21) ∧ (
        Q (Value.slice A19 n20 c21) w17)))
  (jnC (F65.k4 Q) ((x0.1, x0.2.1, x0.2.2), (x3.1, x3.2), (x5.1, x5.2), x6, ()) w)
def F65.k3 (Q : Value → World → Prop) : ((Option Addr × Nat × Nat) × (Nat × Nat) × (Nat × Nat) × Bool × Bool × Unit) → World → Prop := fun s w => ∀ _ : Nat → Value, F65.k3c Q s.1 s.2.1 s.2.2.1 s.2.2.2.1 s.2.2.2.2.1 w
def F65.vc (x0A : Option Addr) (x0n x0c : Nat) (x1 : List Value) (w : World) (Q : Value → World → Prop) : Prop :=
  nw w x1 37 fun b1 w2 =>
  ldA 32 w2 b1 (0 + 2) fun a3 =>
  Calls Tryz.prog 16 #[Value.slice x0A x0n x0c, ofL a3] w2 fun e5 w4 =>
  ∃ a6 : List Value, ∃ t7 : Bool, e5 = .returned (Value.tuple #[ofL a6, Value.bool t7]) ∧ (
    nw w4 Z48 48 fun b8 w9 =>
    gd (a6.length == 38) <|
    st w9 b8 0 a6 fun w10 =>
    ldI .i64 w10 b1 0 fun i11 =>
    vIf (i11 == 1)
    (jnC (F65.k3 Q) ((x0A, x0n, x0c), (b1, 0), (b8, 0), t7, true, ()) w10)
    (ldI .i64 w10 b1 0 fun i33 =>
      jnC (F65.k3 Q) ((x0A, x0n, x0c), (b1, 0), (b8, 0), t7, (i33 == 2), ()) w10))
def F65.an : Ann := ⟨[], [(3, [(0, .kSl), (3, .kL), (5, .kL), (6, .kB), (21, .kB)]), (4, [(0, .kSl), (3, .kL), (5, .kL), (6, .kB)]), (5, [(0, .kSl), (3, .kL), (5, .kL), (32, .kB)])]⟩
theorem F65.of (x0A : Option Addr) (x0n x0c : Nat) (x1 : List Value) (w : World) {Q : Value → World → Prop} (h : F65.vc x0A x0n x0c x1 w Q) : Calls Tryz.prog 65 #[Value.slice x0A x0n x0c, ofL x1] w (fun e w' => ∃ v, e = .returned v ∧ Q v w') := vcFn_of (A := F65.an) noCount mixed h (by kernel_rfl)
/-! ### function 66: stillage/stillageref21.Apply -/
def F66.k5c (Q : Value → World → Prop) (x0 : (Option Addr × Nat × Nat)) (x3 : (Nat × Nat)) (x5 : (Nat × Nat)) (x27 : Bool) (w : World) : Prop :=
  vIf x27
  (ldA 38 w x5.1 x5.2 fun a23 =>
    ldA 39 w x3.1 x3.2 fun a24 =>
    Calls Tryz.prog 102 #[ofL a23, ofL a24] w fun e26 w25 =>
    ∃ a27 : List Value, e26 = .returned (ofL a27) ∧ (
      Calls Tryz.prog 96 #[Value.slice x0.1 x0.2.1 x0.2.2, ofL a27] w25 fun e29 w28 =>
      ∃ (A30 : Option Addr) (n31 c32 : Nat), e29 = .returned (Value.slice A30 n31 c32) ∧ (
        Q (Value.slice A30 n31 c32) w28)))
  (Q (Value.slice x0.1 x0.2.1 x0.2.2) w)
def F66.k5 (Q : Value → World → Prop) : ((Option Addr × Nat × Nat) × (Nat × Nat) × (Nat × Nat) × Bool × Unit) → World → Prop := fun s w => ∀ _ : Nat → Value, F66.k5c Q s.1 s.2.1 s.2.2.1 s.2.2.2.1 w
def F66.vc (x0A : Option Addr) (x0n x0c : Nat) (x1 : List Value) (w : World) (Q : Value → World → Prop) : Prop :=
  nw w x1 37 fun b1 w2 =>
  ldS w2 b1 (0 + 34) fun s3 =>
  Calls Tryz.prog 18 #[Value.slice x0A x0n x0c, Value.string s3] w2 fun e5 w4 =>
  ∃ a6 : List Value, ∃ t7 : Bool, e5 = .returned (Value.tuple #[ofL a6, Value.bool t7]) ∧ (
    nw w4 Z53 53 fun b8 w9 =>
    gd (a6.length == 38) <|
    st w9 b8 0 a6 fun w10 =>
    ldI .i64 w10 b1 0 fun i11 =>
    vIf (i11 == 3)
    (ldA 38 w10 b8 0 fun a12 =>
      ldA 39 w10 b1 0 fun a13 =>
      Calls Tryz.prog 101 #[ofL a12, ofL a13] w10 fun e15 w14 =>
      ∃ a16 : List Value, e15 = .returned (ofL a16) ∧ (
        Calls Tryz.prog 96 #[Value.slice x0A x0n x0c, ofL a16] w14 fun e18 w17 =>
        ∃ (A19 : Option Addr) (n20 c21 : Nat), e18 = .returned (Value.slice A19 n20 c21) ∧ (
          Q (Value.slice A19 n20 c21) w17)))
    (ldI .i64 w10 b1 0 fun i22 =>
      vIf (i22 == 4)
      (jnC (F66.k5 Q) ((x0A, x0n, x0c), (b1, 0), (b8, 0), t7, ()) w10)
      (jnC (F66.k5 Q) ((x0A, x0n, x0c), (b1, 0), (b8, 0), false, ()) w10)))
def F66.an : Ann := ⟨[], [(5, [(0, .kSl), (3, .kL), (5, .kL), (27, .kB)])]⟩
theorem F66.of (x0A : Option Addr) (x0n x0c : Nat) (x1 : List Value) (w : World) {Q : Value → World → Prop} (h : F66.vc x0A x0n x0c x1 w Q) : Calls Tryz.prog 66 #[Value.slice x0A x0n x0c, ofL x1] w (fun e w' => ∃ v, e = .returned v ∧ Q v w') := vcFn_of (A := F66.an) noCount mixed h (by kernel_rfl)
/-! ### function 67: (*stillage/index.Index).Keep -/
def F67.b2c (Q : Value → World → Prop) (C2 : (Option Addr × (Option Addr × Nat × Nat) × (Option Addr × Nat × Nat) × Int × Int × Unit) → World → Prop) (x0 : Option Addr) (x1 : (Option Addr × Nat × Nat)) (x11 : (Option Addr × Nat × Nat)) (x12 : Int) (x13 : Int) (w : World) : Prop :=
  vIf (decide (x13 < x12))
  (dr x11.1 fun b6 o7 =>
    gd (decide (0 ≤ x13)) <|
    gd (decide (x13 < ((x11.2.1 : Nat) : Int))) <|
    ldA 38 w b6 (o7 + (x13).toNat * 38) fun a8 =>
    nw w Z48 48 fun b9 w10 =>
    gd (a8.length == 38) <|
    st w10 b9 0 a8 fun w11 =>
    ldA 38 w11 b9 0 fun a12 =>
    Calls Tryz.prog 103 #[ofL a12, Value.slice x1.1 x1.2.1 x1.2.2] w11 fun e14 w13 =>
    ∃ a15 : List Value, ∃ t16 : Bool, e14 = .returned (Value.tuple #[ofL a15, Value.bool t16]) ∧ (
      nw w13 Z48 48 fun b17 w18 =>
      gd (a15.length == 38) <|
      st w18 b17 0 a15 fun w19 =>
      vIf t16
      (dr x0 fun b20 o21 =>
        ldP w19.drew b20 o21 fun p22 =>
        ldA 32 w19.drew b9 0 fun a23 =>
        ldA 38 w19.drew b17 0 fun a24 =>
        Calls Tryz.prog 79 #[Value.pointer p22, ofL a23, ofL a24] w19.drew fun e26 w25 =>
        e26 = .returned (Value.tuple #[]) ∧ (
          jnC C2 (x0, (x1.1, x1.2.1, x1.2.2), (x11.1, x11.2.1, x11.2.2), (x12), ((IntKind.wrap .i64 (x13 + 1))), ()) w25))
      (dr x0 fun b27 o28 =>
        ldP w19.drew b27 o28 fun p29 =>
        ldA 32 w19.drew b9 0 fun a30 =>
        Calls Tryz.prog 104 #[Value.pointer p29, ofL a30] w19.drew fun e32 w31 =>
        ∃ t33 : Bool, e32 = .returned (Value.bool t33) ∧ (
          jnC C2 (x0, (x1.1, x1.2.1, x1.2.2), (x11.1, x11.2.1, x11.2.2), (x12), ((IntKind.wrap .i64 (x13 + 1))), ()) w31))))
  (Q (Value.tuple #[]) w)
def F67.b2 (Q : Value → World → Prop) : (Option Addr × (Option Addr × Nat × Nat) × (Option Addr × Nat × Nat) × Int × Int × Unit) → World → ((Option Addr × (Option Addr × Nat × Nat) × (Option Addr × Nat × Nat) × Int × Int × Unit) → World → Prop) → Prop := fun s w C2 => ∀ _ : Nat → Value, F67.b2c Q C2 s.1 s.2.1 s.2.2.1 s.2.2.2.1 s.2.2.2.2.1 w
def F67.l2 (Q : Value → World → Prop) : (Option Addr × (Option Addr × Nat × Nat) × (Option Addr × Nat × Nat) × Int × Int × Unit) → World → Prop := fun s w => ∃ n, loopC (F67.b2 Q) n s w
def F67.vc (x0 : Option Addr) (x1A : Option Addr) (x1n x1c : Nat) (w : World) (Q : Value → World → Prop) : Prop :=
  vIf x0.isNone
  (Q (Value.tuple #[]) w)
  (Calls Tryz.prog 46 #[Value.pointer x0] w fun e2 w1 =>
    ∃ (A3 : Option Addr) (n4 c5 : Nat), e2 = .returned (Value.slice A3 n4 c5) ∧ (
      jnC (F67.l2 Q) (x0, (x1A, x1n, x1c), (A3, n4, c5), (((n4 : Nat) : Int)), (0), ()) w1))
def F67.an : Ann := ⟨[(2, [(0, .kP), (1, .kSl), (11, .kSl), (12, .kI .i64), (13, .kI .i64)])], []⟩
theorem F67.of (x0 : Option Addr) (x1A : Option Addr) (x1n x1c : Nat) (w : World) {Q : Value → World → Prop} (h : F67.vc x0 x1A x1n x1c w Q) : Calls Tryz.prog 67 #[Value.pointer x0, Value.slice x1A x1n x1c] w (fun e w' => ∃ v, e = .returned v ∧ Q v w') := vcFn_of (A := F67.an) noCount mixed h (by kernel_rfl)
/-! ### function 68: (*stillage/tags.Tags).Keep -/
def F68.b3c (Q : Value → World → Prop) (C3 : (Option Addr × (Option Addr × Nat × Nat) × (Option Addr × Nat × Nat) × (Option Addr × Nat × Nat) × Int × Int × Unit) → World → Prop) (x0 : Option Addr) (x1 : (Option Addr × Nat × Nat)) (x4 : (Option Addr × Nat × Nat)) (x14 : (Option Addr × Nat × Nat)) (x15 : Int) (x16 : Int) (w : World) : Prop :=
  vIf (decide (x16 < x15))
  (dr x14.1 fun b6 o7 =>
    gd (decide (0 ≤ x16)) <|
    gd (decide (x16 < ((x14.2.1 : Nat) : Int))) <|
    ldA 38 w b6 (o7 + (x16).toNat * 38) fun a8 =>
    nw w Z53 53 fun b9 w10 =>
    gd (a8.length == 38) <|
    st w10 b9 0 a8 fun w11 =>
    ldA 38 w11 b9 0 fun a12 =>
    Calls Tryz.prog 105 #[ofL a12, Value.slice x1.1 x1.2.1 x1.2.2] w11 fun e14 w13 =>
    ∃ a15 : List Value, ∃ t16 : Bool, e14 = .returned (Value.tuple #[ofL a15, Value.bool t16]) ∧ (
      nw w13 Z53 53 fun b17 w18 =>
      gd (a15.length == 38) <|
      st w18 b17 0 a15 fun w19 =>
      vIf t16
      (ldA 38 w19 b17 0 fun a20 =>
        gd (a20.length == 38) <|
        nw w19 (a20 ++ []) 53 fun b21 w22 =>
        app w22 38 104 Z53 53 x4.1 x4.2.1 x4.2.2 (Value.slice (some ⟨b21, 0, none⟩) 1 1) fun A23 n24 c25 w26 =>
        jnC C3 (x0, (x1.1, x1.2.1, x1.2.2), (A23, n24, c25), (x14.1, x14.2.1, x14.2.2), (x15), ((IntKind.wrap .i64 (x16 + 1))), ()) w26)
      (jnC C3 (x0, (x1.1, x1.2.1, x1.2.2), (x4.1, x4.2.1, x4.2.2), (x14.1, x14.2.1, x14.2.2), (x15), ((IntKind.wrap .i64 (x16 + 1))), ()) w19)))
  (dr x0 fun b27 o28 =>
    st w b27 o28 [Value.slice x4.1 x4.2.1 x4.2.2] fun w29 =>
    Q (Value.tuple #[]) w29)
def F68.b3 (Q : Value → World → Prop) : (Option Addr × (Option Addr × Nat × Nat) × (Option Addr × Nat × Nat) × (Option Addr × Nat × Nat) × Int × Int × Unit) → World → ((Option Addr × (Option Addr × Nat × Nat) × (Option Addr × Nat × Nat) × (Option Addr × Nat × Nat) × Int × Int × Unit) → World → Prop) → Prop := fun s w C3 => ∀ _ : Nat → Value, F68.b3c Q C3 s.1 s.2.1 s.2.2.1 s.2.2.2.1 s.2.2.2.2.1 s.2.2.2.2.2.1 w
def F68.l3 (Q : Value → World → Prop) : (Option Addr × (Option Addr × Nat × Nat) × (Option Addr × Nat × Nat) × (Option Addr × Nat × Nat) × Int × Int × Unit) → World → Prop := fun s w => ∃ n, loopC (F68.b3 Q) n s w
def F68.vc (x0 : Option Addr) (x1A : Option Addr) (x1n x1c : Nat) (w : World) (Q : Value → World → Prop) : Prop :=
  vIf x0.isNone
  (Q (Value.tuple #[]) w)
  (dr x0 fun b1 o2 =>
    ldSl w b1 o2 fun A3 n4 c5 =>
    jnC (F68.l3 Q) (x0, (x1A, x1n, x1c), (none, 0, 0), (A3, n4, c5), (((n4 : Nat) : Int)), (0), ()) w)
def F68.an : Ann := ⟨[(3, [(0, .kP), (1, .kSl), (4, .kSl), (14, .kSl), (15, .kI .i64), (16, .kI .i64)])], []⟩
theorem F68.of (x0 : Option Addr) (x1A : Option Addr) (x1n x1c : Nat) (w : World) {Q : Value → World → Prop} (h : F68.vc x0 x1A x1n x1c w Q) : Calls Tryz.prog 68 #[Value.pointer x0, Value.slice x1A x1n x1c] w (fun e w' => ∃ v, e = .returned v ∧ Q v w') := vcFn_of (A := F68.an) noCount mixed h (by kernel_rfl)
/-! ### function 69: slices.DeleteFunc[[]stillage/api.Load,stillage/api.Load] -/
def F69s.k12c (Q : Value → World → Prop) (x0 : (Option Addr × Nat × Nat)) (x5 : Int) (w : World) : Prop :=
  gd (decide (0 ≤ x5)) <|
  gd (decide (x5 ≤ ((x0.2.2 : Nat) : Int))) <|
  Q (Value.slice (slA x0.1 x0.2.2 0 3) (x5).toNat x0.2.2) w
def F69s.k12 (Q : Value → World → Prop) : ((Option Addr × Nat × Nat) × Int × Unit) → World → Prop := fun s w => ∀ _ : Nat → Value, F69s.k12c Q s.1 s.2.1 w
def F69s.b5c (Q : Value → World → Prop) (C5 : ((Option Addr × Nat × Nat) × (Nat × Nat) × Int × Int × Unit) → World → Prop) (x0 : (Option Addr × Nat × Nat)) (x1 : (Nat × Nat)) (x5 : Int) (x6 : Int) (w : World) : Prop :=
  vIf (decide (x6 < ((x0.2.1 : Nat) : Int)))
  (dr x0.1 fun b4 o5 =>
    gd (decide (0 ≤ x6)) <|
    gd (decide (x6 < ((x0.2.1 : Nat) : Int))) <|
    ldA 3 w b4 (o5 + (x6).toNat * 3) fun a6 =>
    nw w [Value.int .i64 0, Value.int .i64 0, Value.int .i64 0] 98 fun b7 w8 =>
    gd (a6.length == 3) <|
    st w8 b7 0 a6 fun w9 =>
    ldA 3 w9 b7 0 fun a10 =>
    Calls Tryz.prog 70 #[ofL a10, Value.pointer (some ⟨x1.1, x1.2, none⟩)] w9 fun e12 w11 =>
    ∃ t13 : Bool, e12 = .returned (Value.bool t13) ∧ (
      vIf (!t13)
      (ldA 3 w11 b7 0 fun a14 =>
        dr x0.1 fun b15 o16 =>
        gd (decide (0 ≤ x5)) <|
        gd (decide (x5 < ((x0.2.1 : Nat) : Int))) <|
        gd (a14.length == 3) <|
        st w11 b15 (o16 + (x5).toNat * 3) a14 fun w17 =>
        jnC C5 ((x0.1, x0.2.1, x0.2.2), (x1.1, x1.2), ((IntKind.wrap .i64 (x5 + 1))), ((IntKind.wrap .i64 (x6 + 1))), ()) w17)
      (jnC C5 ((x0.1, x0.2.1, x0.2.2), (x1.1, x1.2), (x5), ((IntKind.wrap .i64 (x6 + 1))), ()) w11)))
  (gd (decide (0 ≤ x5)) <|
    gd (decide (x5 ≤ ((x0.2.1 : Nat) : Int))) <|
    vIf ((x0.2.1 - (x5).toNat) == 0)
    (jnC (F69s.k12 Q) ((x0.1, x0.2.1, x0.2.2), (x5), ()) w)
    (dr (slA x0.1 x0.2.2 (x5).toNat 3) fun b19 o20 =>
      st w b19 o20 (zeros (x0.2.1 - (x5).toNat) [Value.int .i64 0, Value.int .i64 0, Value.int .i64 0]) fun w18 =>
      jnC (F69s.k12 Q) ((x0.1, x0.2.1, x0.2.2), (x5), ()) w18))
def F69s.b5 (Q : Value → World → Prop) : ((Option Addr × Nat × Nat) × (Nat × Nat) × Int × Int × Unit) → World → (((Option Addr × Nat × Nat) × (Nat × Nat) × Int × Int × Unit) → World → Prop) → Prop := fun s w C5 => ∀ _ : Nat → Value, F69s.b5c Q C5 s.1 s.2.1 s.2.2.1 s.2.2.2.1 w
def F69s.l5 (Q : Value → World → Prop) : ((Option Addr × Nat × Nat) × (Nat × Nat) × Int × Int × Unit) → World → Prop := fun s w => ∃ n, loopC (F69s.b5 Q) n s w
def F69s.vc (x0A : Option Addr) (x0n x0c : Nat) (x1 : Nat × Nat) (w : World) (Q : Value → World → Prop) : Prop :=
  Calls Tryz.prog 106 #[Value.slice x0A x0n x0c, Value.func (.func 70) #[] #[Value.pointer (some ⟨x1.1, x1.2, none⟩)]] w fun e2 w1 =>
  ∃ i3 : Int, e2 = .returned (Value.int .i64 i3) ∧ (
    vIf (i3 == (-1))
    (Q (Value.slice x0A x0n x0c) w1)
    (jnC (F69s.l5 Q) ((x0A, x0n, x0c), (x1.1, x1.2), (i3), ((IntKind.wrap .i64 (i3 + 1))), ()) w1))
def F69s.an : Ann := ⟨[(5, [(0, .kSl), (1, .kG 70), (5, .kI .i64), (6, .kI .i64)])], [(12, [(0, .kSl), (5, .kI .i64)])]⟩
theorem F69s.of (x0A : Option Addr) (x0n x0c : Nat) (x1 : Nat × Nat) (w : World) {Q : Value → World → Prop} (h : F69s.vc x0A x0n x0c x1 w Q) : Calls Tryz.prog 69 #[Value.slice x0A x0n x0c, Value.func (.func 70) #[] #[Value.pointer (some ⟨x1.1, x1.2, none⟩)]] w (fun e w' => ∃ v, e = .returned v ∧ Q v w') := vcFn_of (A := F69s.an) noCount mixed h (by kernel_rfl)
end Go.Proofs.YthcclmlbkfadcaaGreat
/- PRINTED BY MY OWN gen.py out of the translation: each function as a proposition. -/
namespace Go.Proofs.YthcclmlbkfadcaaGreat
open Go.GV
set_option linter.unusedVariables false
set_option maxRecDepth 100000
/-! ### function 70: (*stillage/state.State).Keep$1 -/
def F70.vc (x0 : List Value) (x1 : Nat × Nat) (w : World) (Q : Value → World → Prop) : Prop :=
  nw w x0 98 fun b1 w2 =>
  ldSl w2 x1.1 x1.2 fun A3 n4 c5 =>
  ldI .i64 w2 b1 0 fun i6 =>
  Calls Tryz.prog 71 #[Value.slice A3 n4 c5, Value.int .i64 i6] w2 fun e8 w7 =>
  ∃ t9 : Bool, e8 = .returned (Value.bool t9) ∧ (
    Q (Value.bool (!t9)) w7)
def F70.an : Ann := ⟨[], []⟩
theorem F70.of (x0 : List Value) (x1 : Nat × Nat) (w : World) {Q : Value → World → Prop} (h : F70.vc x0 x1 w Q) : Calls Tryz.prog 70 #[ofL x0, Value.pointer (some ⟨x1.1, x1.2, none⟩)] w (fun e w' => ∃ v, e = .returned v ∧ Q v w') := vcFn_of (A := F70.an) noCount mixed h (by kernel_rfl)
/-! ### function 71: slices.Contains[[]int,int] -/
def F71.vc (x0A : Option Addr) (x0n x0c : Nat) (x1 : Int) (w : World) (Q : Value → World → Prop) : Prop :=
  Calls Tryz.prog 107 #[Value.slice x0A x0n x0c, Value.int .i64 x1] w fun e2 w1 =>
  ∃ i3 : Int, e2 = .returned (Value.int .i64 i3) ∧ (
    Q (Value.bool (decide (i3 ≥ 0))) w1)
def F71.an : Ann := ⟨[], []⟩
theorem F71.of (x0A : Option Addr) (x0n x0c : Nat) (x1 : Int) (w : World) {Q : Value → World → Prop} (h : F71.vc x0A x0n x0c x1 w Q) : Calls Tryz.prog 71 #[Value.slice x0A x0n x0c, Value.int .i64 x1] w (fun e w' => ∃ v, e = .returned v ∧ Q v w') := vcFn_of (A := F71.an) noCount mixed h (by kernel_rfl)
/-! ### function 72: stillage/stillageref20.Keep -/
def F72.b3c (Q : Value → World → Prop) (C3 : ((Option Addr × Nat × Nat) × (Option Addr × Nat × Nat) × (Option Addr × Nat × Nat) × Int × Unit) → World → Prop) (x0 : (Option Addr × Nat × Nat)) (x1 : (Option Addr × Nat × Nat)) (x5 : (Option Addr × Nat × Nat)) (x6 : Int) (w : World) : Prop :=
  vIf (decide (x6 < ((x0.2.1 : Nat) : Int)))
  (dr x0.1 fun b1 o2 =>
    gd (decide (0 ≤ x6)) <|
    gd (decide (x6 < ((x0.2.1 : Nat) : Int))) <|
    ldA 38 w b1 (o2 + (x6).toNat * 38) fun a3 =>
    Calls Tryz.prog 108 #[ofL a3, Value.slice x1.1 x1.2.1 x1.2.2] w fun e5 w4 =>
    ∃ a6 : List Value, ∃ t7 : Bool, e5 = .returned (Value.tuple #[ofL a6, Value.bool t7]) ∧ (
      nw w4 Z48 48 fun b8 w9 =>
      gd (a6.length == 38) <|
      st w9 b8 0 a6 fun w10 =>
      vIf t7
      (ldA 38 w10 b8 0 fun a11 =>
        gd (a11.length == 38) <|
        nw w10 (a11 ++ []) 48 fun b12 w13 =>
        app w13 38 96 Z48 48 x5.1 x5.2.1 x5.2.2 (Value.slice (some ⟨b12, 0, none⟩) 1 1) fun A14 n15 c16 w17 =>
        jnC C3 ((x0.1, x0.2.1, x0.2.2), (x1.1, x1.2.1, x1.2.2), (A14, n15, c16), ((IntKind.wrap .i64 (x6 + 1))), ()) w17)
      (jnC C3 ((x0.1, x0.2.1, x0.2.2), (x1.1, x1.2.1, x1.2.2), (x5.1, x5.2.1, x5.2.2), ((IntKind.wrap .i64 (x6 + 1))), ()) w10)))
  (Q (Value.slice x5.1 x5.2.1 x5.2.2) w)
def F72.b3 (Q : Value → World → Prop) : ((Option Addr × Nat × Nat) × (Option Addr × Nat × Nat) × (Option Addr × Nat × Nat) × Int × Unit) → World → (((Option Addr × Nat × Nat) × (Option Addr × Nat × Nat) × (Option Addr × Nat × Nat) × Int × Unit) → World → Prop) → Prop := fun s w C3 => ∀ _ : Nat → Value, F72.b3c Q C3 s.1 s.2.1 s.2.2.1 s.2.2.2.1 w
def F72.l3 (Q : Value → World → Prop) : ((Option Addr × Nat × Nat) × (Option Addr × Nat × Nat) × (Option Addr × Nat × Nat) × Int × Unit) → World → Prop := fun s w => ∃ n, loopC (F72.b3 Q) n s w
def F72.vc (x0A : Option Addr) (x0n x0c : Nat) (x1A : Option Addr) (x1n x1c : Nat) (w : World) (Q : Value → World → Prop) : Prop :=
  jnC (F72.l3 Q) ((x0A, x0n, x0c), (x1A, x1n, x1c), (none, 0, 0), (0), ()) w
def F72.an : Ann := ⟨[(3, [(0, .kSl), (1, .kSl), (5, .kSl), (6, .kI .i64)])], []⟩
theorem F72.of (x0A : Option Addr) (x0n x0c : Nat) (x1A : Option Addr) (x1n x1c : Nat) (w : World) {Q : Value → World → Prop} (h : F72.vc x0A x0n x0c x1A x1n x1c w Q) : Calls Tryz.prog 72 #[Value.slice x0A x0n x0c, Value.slice x1A x1n x1c] w (fun e w' => ∃ v, e = .returned v ∧ Q v w') := vcFn_of (A := F72.an) noCount mixed h (by kernel_rfl)
/-! ### function 73: stillage/stillageref21.Keep -/
def F73.b3c (Q : Value → World → Prop) (C3 : ((Option Addr × Nat × Nat) × (Option Addr × Nat × Nat) × (Option Addr × Nat × Nat) × Int × Unit) → World → Prop) (x0 : (Option Addr × Nat × Nat)) (x1 : (Option Addr × Nat × Nat)) (x5 : (Option Addr × Nat × Nat)) (x6 : Int) (w : World) : Prop :=
  vIf (decide (x6 < ((x0.2.1 : Nat) : Int)))
  (dr x0.1 fun b1 o2 =>
    gd (decide (0 ≤ x6)) <|
    gd (decide (x6 < ((x0.2.1 : Nat) : Int))) <|
    ldA 38 w b1 (o2 + (x6).toNat * 38) fun a3 =>
    Calls Tryz.prog 109 #[ofL a3, Value.slice x1.1 x1.2.1 x1.2.2] w fun e5 w4 =>
    ∃ a6 : List Value, ∃ t7 : Bool, e5 = .returned (Value.tuple #[ofL a6, Value.bool t7]) ∧ (
      nw w4 Z53 53 fun b8 w9 =>
      gd (a6.length == 38) <|
      st w9 b8 0 a6 fun w10 =>
      vIf t7
      (ldA 38 w10 b8 0 fun a11 =>
        gd (a11.length == 38) <|
        nw w10 (a11 ++ []) 53 fun b12 w13 =>
        app w13 38 104 Z53 53 x5.1 x5.2.1 x5.2.2 (Value.slice (some ⟨b12, 0, none⟩) 1 1) fun A14 n15 c16 w17 =>
        jnC C3 ((x0.1, x0.2.1, x0.2.2), (x1.1, x1.2.1, x1.2.2), (A14, n15, c16), ((IntKind.wrap .i64 (x6 + 1))), ()) w17)
      (jnC C3 ((x0.1, x0.2.1, x0.2.2), (x1.1, x1.2.1, x1.2.2), (x5.1, x5.2.1, x5.2.2), ((IntKind.wrap .i64 (x6 + 1))), ()) w10)))
  (Q (Value.slice x5.1 x5.2.1 x5.2.2) w)
def F73.b3 (Q : Value → World → Prop) : ((Option Addr × Nat × Nat) × (Option Addr × Nat × Nat) × (Option Addr × Nat × Nat) × Int × Unit) → World → (((Option Addr × Nat × Nat) × (Option Addr × Nat × Nat) × (Option Addr × Nat × Nat) × Int × Unit) → World → Prop) → Prop := fun s w C3 => ∀ _ : Nat → Value, F73.b3c Q C3 s.1 s.2.1 s.2.2.1 s.2.2.2.1 w
def F73.l3 (Q : Value → World → Prop) : ((Option Addr × Nat × Nat) × (Option Addr × Nat × Nat) × (Option Addr × Nat × Nat) × Int × Unit) → World → Prop := fun s w => ∃ n, loopC (F73.b3 Q) n s w
def F73.vc (x0A : Option Addr) (x0n x0c : Nat) (x1A : Option Addr) (x1n x1c : Nat) (w : World) (Q : Value → World → Prop) : Prop :=
  jnC (F73.l3 Q) ((x0A, x0n, x0c), (x1A, x1n, x1c), (none, 0, 0), (0), ()) w
def F73.an : Ann := ⟨[(3, [(0, .kSl), (1, .kSl), (5, .kSl), (6, .kI .i64)])], []⟩
theorem F73.of (x0A : Option Addr) (x0n x0c : Nat) (x1A : Option Addr) (x1n x1c : Nat) (w : World) {Q : Value → World → Prop} (h : F73.vc x0A x0n x0c x1A x1n x1c w Q) : Calls Tryz.prog 73 #[Value.slice x0A x0n x0c, Value.slice x1A x1n x1c] w (fun e w' => ∃ v, e = .returned v ∧ Q v w') := vcFn_of (A := F73.an) noCount mixed h (by kernel_rfl)
/-! ### function 74: stillage/stillageref22.in -/
def F74.b2c (Q : Value → World → Prop) (C2 : ((Option Addr × Nat × Nat) × Int × Int × Unit) → World → Prop) (x0 : (Option Addr × Nat × Nat)) (x1 : Int) (x5 : Int) (w : World) : Prop :=
  vIf (decide (x5 < ((x0.2.1 : Nat) : Int)))
  (dr x0.1 fun b1 o2 =>
    gd (decide (0 ≤ x5)) <|
    gd (decide (x5 < ((x0.2.1 : Nat) : Int))) <|
    ldI .i64 w b1 (o2 + (x5).toNat * 1) fun i3 =>
    vIf (i3 == x1)
    (Q (Value.bool true) w)
    (jnC C2 ((x0.1, x0.2.1, x0.2.2), (x1), ((IntKind.wrap .i64 (x5 + 1))), ()) w))
  (Q (Value.bool false) w)
def F74.b2 (Q : Value → World → Prop) : ((Option Addr × Nat × Nat) × Int × Int × Unit) → World → (((Option Addr × Nat × Nat) × Int × Int × Unit) → World → Prop) → Prop := fun s w C2 => ∀ _ : Nat → Value, F74.b2c Q C2 s.1 s.2.1 s.2.2.1 w
def F74.l2 (Q : Value → World → Prop) : ((Option Addr × Nat × Nat) × Int × Int × Unit) → World → Prop := fun s w => ∃ n, loopC (F74.b2 Q) n s w
def F74.vc (x0A : Option Addr) (x0n x0c : Nat) (x1 : Int) (w : World) (Q : Value → World → Prop) : Prop :=
  jnC (F74.l2 Q) ((x0A, x0n, x0c), (x1), (0), ()) w
def F74.an : Ann := ⟨[(2, [(0, .kSl), (1, .kI .i64), (5, .kI .i64)])], []⟩
theorem F74.of (x0A : Option Addr) (x0n x0c : Nat) (x1 : Int) (w : World) {Q : Value → World → Prop} (h : F74.vc x0A x0n x0c x1 w Q) : Calls Tryz.prog 74 #[Value.slice x0A x0n x0c, Value.int .i64 x1] w (fun e w' => ∃ v, e = .returned v ∧ Q v w') := vcFn_of (A := F74.an) noCount mixed h (by kernel_rfl)
/-! ### function 75: stillage/stillageref19.Alive -/
def F75.vc (x0 : Bool) (x1A : Option Addr) (x1n x1c : Nat) (x2 : Int) (w : World) (Q : Value → World → Prop) : Prop :=
  vIf (!x0)
  (Q (Value.bool true) w)
  (Calls Tryz.prog 110 #[Value.slice x1A x1n x1c, Value.int .i64 x2] w fun e2 w1 =>
    ∃ i3 : Int, e2 = .returned (Value.int .i64 i3) ∧ (
      Q (Value.bool (decide (i3 > 0))) w1))
def F75.an : Ann := ⟨[], []⟩
theorem F75.of (x0 : Bool) (x1A : Option Addr) (x1n x1c : Nat) (x2 : Int) (w : World) {Q : Value → World → Prop} (h : F75.vc x0 x1A x1n x1c x2 w Q) : Calls Tryz.prog 75 #[Value.bool x0, Value.slice x1A x1n x1c, Value.int .i64 x2] w (fun e w' => ∃ v, e = .returned v ∧ Q v w') := vcFn_of (A := F75.an) noCount mixed h (by kernel_rfl)
/-! ### function 76: stillage/stillageref22.put -/
def F76.k9c (Q : Value → World → Prop) (C4 : ((Option Addr × Nat × Nat) × (Nat × Nat) × (Option Addr × Nat × Nat) × Bool × Int × Unit) → World → Prop) (x0 : (Option Addr × Nat × Nat)) (x3 : (Nat × Nat)) (x5 : (Option Addr × Nat × Nat)) (x6 : Bool) (x7 : Int) (w : World) : Prop :=
  dr x0.1 fun b14 o15 =>
  gd (decide (0 ≤ x7)) <|
  gd (decide (x7 < ((x0.2.1 : Nat) : Int))) <|
  ldA 39 w b14 (o15 + (x7).toNat * 39) fun a16 =>
  gd (a16.length == 39) <|
  nw w (a16 ++ []) 37 fun b17 w18 =>
  app w18 39 96 Z37 37 x5.1 x5.2.1 x5.2.2 (Value.slice (some ⟨b17, 0, none⟩) 1 1) fun A19 n20 c21 w22 =>
  jnC C4 ((x0.1, x0.2.1, x0.2.2), (x3.1, x3.2), (A19, n20, c21), x6, ((IntKind.wrap .i64 (x7 + 1))), ()) w22
def F76.k9 (Q : Value → World → Prop) (C4 : ((Option Addr × Nat × Nat) × (Nat × Nat) × (Option Addr × Nat × Nat) × Bool × Int × Unit) → World → Prop) : ((Option Addr × Nat × Nat) × (Nat × Nat) × (Option Addr × Nat × Nat) × Bool × Int × Unit) → World → Prop := fun s w => ∀ _ : Nat → Value, F76.k9c Q C4 s.1 s.2.1 s.2.2.1 s.2.2.2.1 s.2.2.2.2.1 w
def F76.k7c (Q : Value → World → Prop) (C4 : ((Option Addr × Nat × Nat) × (Nat × Nat) × (Option Addr × Nat × Nat) × Bool × Int × Unit) → World → Prop) (x0 : (Option Addr × Nat × Nat)) (x3 : (Nat × Nat)) (x5 : (Option Addr × Nat × Nat)) (x6 : Bool) (x7 : Int) (x27 : Bool) (w : World) : Prop :=
  vIf x27
  (ldA 39 w x3.1 x3.2 fun a7 =>
    gd (a7.length == 39) <|
    nw w (a7 ++ []) 37 fun b8 w9 =>
    app w9 39 96 Z37 37 x5.1 x5.2.1 x5.2.2 (Value.slice (some ⟨b8, 0, none⟩) 1 1) fun A10 n11 c12 w13 =>
    jnC (F76.k9 Q C4) ((x0.1, x0.2.1, x0.2.2), (x3.1, x3.2), (A10, n11, c12), true, (x7), ()) w13)
  (jnC (F76.k9 Q C4) ((x0.1, x0.2.1, x0.2.2), (x3.1, x3.2), (x5.1, x5.2.1, x5.2.2), x6, (x7), ()) w)
def F76.k7 (Q : Value → World → Prop) (C4 : ((Option Addr × Nat × Nat) × (Nat × Nat) × (Option Addr × Nat × Nat) × Bool × Int × Unit) → World → Prop) : ((Option Addr × Nat × Nat) × (Nat × Nat) × (Option Addr × Nat × Nat) × Bool × Int × Bool × Unit) → World → Prop := fun s w => ∀ _ : Nat → Value, F76.k7c Q C4 s.1 s.2.1 s.2.2.1 s.2.2.2.1 s.2.2.2.2.1 s.2.2.2.2.2.1 w
def F76.b4c (Q : Value → World → Prop) (C4 : ((Option Addr × Nat × Nat) × (Nat × Nat) × (Option Addr × Nat × Nat) × Bool × Int × Unit) → World → Prop) (x0 : (Option Addr × Nat × Nat)) (x3 : (Nat × Nat)) (x5 : (Option Addr × Nat × Nat)) (x6 : Bool) (x7 : Int) (w : World) : Prop :=
  vIf (decide (x7 < ((x0.2.1 : Nat) : Int)))
  (vIf (!x6)
    (dr x0.1 fun b3 o4 =>
      gd (decide (0 ≤ x7)) <|
      gd (decide (x7 < ((x0.2.1 : Nat) : Int))) <|
      ldI .i64 w.drew b3 (((o4 + (x7).toNat * 39) + 36) + 1) fun i5 =>
      ldI .i64 w.drew x3.1 ((x3.2 + 36) + 1) fun i6 =>
      jnC (F76.k7 Q C4) ((x0.1, x0.2.1, x0.2.2), (x3.1, x3.2), (x5.1, x5.2.1, x5.2.2), x6, (x7), (decide (i5 > i6)), ()) w.drew)
    (jnC (F76.k7 Q C4) ((x0.1, x0.2.1, x0.2.2), (x3.1, x3.2), (x5.1, x5.2.1, x5.2.2), x6, (x7), false, ()) w.drew))
  (vIf (!x6)
    (ldA 39 w x3.1 x3.2 fun a23 =>
      gd (a23.length == 39) <|
      nw w (a23 ++ []) 37 fun b24 w25 =>
      app w25 39 96 Z37 37 x5.1 x5.2.1 x5.2.2 (Value.slice (some ⟨b24, 0, none⟩) 1 1) fun A26 n27 c28 w29 =>
      Q (Value.slice A26 n27 c28) w29)
    (Q (Value.slice x5.1 x5.2.1 x5.2.2) w))
def F76.b4 (Q : Value → World → Prop) : ((Option Addr × Nat × Nat) × (Nat × Nat) × (Option Addr × Nat × Nat) × Bool × Int × Unit) → World → (((Option Addr × Nat × Nat) × (Nat × Nat) × (Option Addr × Nat × Nat) × Bool × Int × Unit) → World → Prop) → Prop := fun s w C4 => ∀ _ : Nat → Value, F76.b4c Q C4 s.1 s.2.1 s.2.2.1 s.2.2.2.1 s.2.2.2.2.1 w
def F76.l4 (Q : Value → World → Prop) : ((Option Addr × Nat × Nat) × (Nat × Nat) × (Option Addr × Nat × Nat) × Bool × Int × Unit) → World → Prop := fun s w => ∃ n, loopC (F76.b4 Q) n s w
def F76.vc (x0A : Option Addr) (x0n x0c : Nat) (x1 : List Value) (w : World) (Q : Value → World → Prop) : Prop :=
  nw w x1 37 fun b1 w2 =>
  jnC (F76.l4 Q) ((x0A, x0n, x0c), (b1, 0), (none, 0, 0), false, (0), ()) w2
def F76.an : Ann := ⟨[(4, [(0, .kSl), (3, .kL), (5, .kSl), (6, .kB), (7, .kI .i64)])], [(7, [(0, .kSl), (3, .kL), (5, .kSl), (6, .kB), (7, .kI .i64), (27, .kB)]), (9, [(0, .kSl), (3, .kL), (5, .kSl), (6, .kB), (7, .kI .i64)])]⟩
theorem F76.of (x0A : Option Addr) (x0n x0c : Nat) (x1 : List Value) (w : World) {Q : Value → World → Prop} (h : F76.vc x0A x0n x0c x1 w Q) : Calls Tryz.prog 76 #[Value.slice x0A x0n x0c, ofL x1] w (fun e w' => ∃ v, e = .returned v ∧ Q v w') := vcFn_of (A := F76.an) noCount mixed h (by kernel_rfl)
/-! ### function 77: slices.Clone[[]stillage/api.Load,stillage/api.Load] -/
def F77.vc (x0A : Option Addr) (x0n x0c : Nat) (w : World) (Q : Value → World → Prop) : Prop :=
  vIf x0A.isNone
  (Q (Value.slice none 0 0) w)
  (nw w [] 98 fun b1 w2 =>
    app w2 3 24 [Value.int .i64 0, Value.int .i64 0, Value.int .i64 0] 98 (some ⟨b1, 0, none⟩) 0 0 (Value.slice x0A x0n x0c) fun A3 n4 c5 w6 =>
    Q (Value.slice A3 n4 c5) w6)
def F77.an : Ann := ⟨[], []⟩
theorem F77.of (x0A : Option Addr) (x0n x0c : Nat) (w : World) {Q : Value → World → Prop} (h : F77.vc x0A x0n x0c w Q) : Calls Tryz.prog 77 #[Value.slice x0A x0n x0c] w (fun e w' => ∃ v, e = .returned v ∧ Q v w') := vcFn_of (A := F77.an) noCount mixed h (by kernel_rfl)
/-! ### function 78: stillage/slots.New[stillage/api.Entry] -/
def F78.vc  (w : World) (Q : Value → World → Prop) : Prop :=
  nw w (zeros 8 Z157) 157 fun b1 w2 =>
  nw w2 ([Value.slice (some ⟨b1, 0, none⟩) 8 8] ++ ([Value.int .i64 0] ++ [])) 154 fun b3 w4 =>
  Q (Value.pointer (some ⟨b3, 0, none⟩)) w4
def F78.an : Ann := ⟨[], []⟩
theorem F78.of  (w : World) {Q : Value → World → Prop} (h : F78.vc  w Q) : Calls Tryz.prog 78 #[] w (fun e w' => ∃ v, e = .returned v ∧ Q v w') := vcFn_of (A := F78.an) noCount mixed h (by kernel_rfl)
/-! ### function 79: (*stillage/slots.Table[stillage/api.Entry]).Put -/
def F79.k8c (Q : Value → World → Prop) (x0 : Option Addr) (x4 : (Nat × Nat)) (x5 : (Nat × Nat)) (x6 : Int) (w : World) : Prop :=
  dr x0 fun b31 o32 =>
  ldSl w.drew b31 o32 fun A33 n34 c35 =>
  ldA 32 w.drew x4.1 x4.2 fun a36 =>
  ldA 38 w.drew x5.1 x5.2 fun a37 =>
  gd (a36.length == 32) <|
  gd (a37.length == 38) <|
  dr A33 fun b38 o39 =>
  gd (decide (0 ≤ x6)) <|
  gd (decide (x6 < ((n34 : Nat) : Int))) <|
  gd (([Value.bool true] ++ (a36 ++ (a37 ++ []))).length == 71) <|
  st w.drew b38 (o39 + (x6).toNat * 71) ([Value.bool true] ++ (a36 ++ (a37 ++ []))) fun w40 =>
  Q (Value.tuple #[]) w40
def F79.k8 (Q : Value → World → Prop) : (Option Addr × (Nat × Nat) × (Nat × Nat) × Int × Unit) → World → Prop := fun s w => ∀ _ : Nat → Value, F79.k8c Q s.1 s.2.1 s.2.2.1 s.2.2.2.1 w
def F79.k7c (Q : Value → World → Prop) (x0 : Option Addr) (x4 : (Nat × Nat)) (x5 : (Nat × Nat)) (x6 : Int) (w : World) : Prop :=
  dr x0 fun b25 o26 =>
  ldI .i64 w b25 (o26 + 1) fun i27 =>
  dr x0 fun b28 o29 =>
  st w b28 (o29 + 1) [Value.int .i64 (IntKind.wrap .i64 (i27 + 1))] fun w30 =>
  jnC (F79.k8 Q) (x0, (x4.1, x4.2), (x5.1, x5.2), (x6), ()) w30
def F79.k7 (Q : Value → World → Prop) : (Option Addr × (Nat × Nat) × (Nat × Nat) × Int × Unit) → World → Prop := fun s w => ∀ _ : Nat → Value, F79.k7c Q s.1 s.2.1 s.2.2.1 s.2.2.2.1 w
def F79.vc (x0 : Option Addr) (x1 : List Value) (x2 : List Value) (w : World) (Q : Value → World → Prop) : Prop :=
  nw w x1 33 fun b1 w2 =>
  nw w2 x2 48 fun b3 w4 =>
  vIf x0.isNone
  (Q (Value.tuple #[]) w4)
  (ldA 32 w4 b1 0 fun a5 =>
    Calls Tryz.prog 111 #[Value.pointer x0, ofL a5] w4 fun e7 w6 =>
    ∃ i8 : Int, ∃ t9 : Bool, e7 = .returned (Value.tuple #[Value.int .i64 i8, Value.bool t9]) ∧ (
      vIf (!t9)
      (dr x0 fun b10 o11 =>
        ldI .i64 w6.drew b10 (o11 + 1) fun i12 =>
        dr x0 fun b13 o14 =>
        ldSl w6.drew b13 o14 fun A15 n16 c17 =>
        vIf (decide ((IntKind.wrap .i64 (4 * (IntKind.wrap .i64 (i12 + 1)))) > (IntKind.wrap .i64 (3 * ((n16 : Nat) : Int)))))
        (Calls Tryz.prog 112 #[Value.pointer x0] w6.drew fun e19 w18 =>
          e19 = .returned (Value.tuple #[]) ∧ (
            ldA 32 w18 b1 0 fun a20 =>
            Calls Tryz.prog 111 #[Value.pointer x0, ofL a20] w18 fun e22 w21 =>
            ∃ i23 : Int, ∃ t24 : Bool, e22 = .returned (Value.tuple #[Value.int .i64 i23, Value.bool t24]) ∧ (
              jnC (F79.k7 Q) (x0, (b1, 0), (b3, 0), (i23), ()) w21)))
        (jnC (F79.k7 Q) (x0, (b1, 0), (b3, 0), (i8), ()) w6.drew))
      (jnC (F79.k8 Q) (x0, (b1, 0), (b3, 0), (i8), ()) w6)))
def F79.an : Ann := ⟨[], [(7, [(0, .kP), (4, .kL), (5, .kL), (6, .kI .i64)]), (8, [(0, .kP), (4, .kL), (5, .kL), (6, .kI .i64)])]⟩
theorem F79.of (x0 : Option Addr) (x1 : List Value) (x2 : List Value) (w : World) {Q : Value → World → Prop} (h : F79.vc x0 x1 x2 w Q) : Calls Tryz.prog 79 #[Value.pointer x0, ofL x1, ofL x2] w (fun e w' => ∃ v, e = .returned v ∧ Q v w') := vcFn_of (A := F79.an) noCount mixed h (by kernel_rfl)
/-! ### function 80: stillage/index.fresh -/
def F80.vc (x0 : List Value) (w : World) (Q : Value → World → Prop) : Prop :=
  nw w x0 48 fun b1 w2 =>
  nw w2 Z48 48 fun b3 w4 =>
  ldSl w4 b1 (0 + 37) fun A5 n6 c7 =>
  Calls Tryz.prog 113 #[Value.slice A5 n6 c7] w4 fun e9 w8 =>
  ∃ (A10 : Option Addr) (n11 c12 : Nat), e9 = .returned (Value.slice A10 n11 c12) ∧ (
    st w8 b1 (0 + 37) [Value.slice A10 n11 c12] fun w13 =>
    ldA 38 w13 b1 0 fun a14 =>
    gd (a14.length == 38) <|
    st w13 b3 0 a14 fun w15 =>
    ldA 38 w15 b3 0 fun a16 =>
    Q (ofL a16) w15)
def F80.an : Ann := ⟨[], []⟩
theorem F80.of (x0 : List Value) (w : World) {Q : Value → World → Prop} (h : F80.vc x0 w Q) : Calls Tryz.prog 80 #[ofL x0] w (fun e w' => ∃ v, e = .returned v ∧ Q v w') := vcFn_of (A := F80.an) noCount mixed h (by kernel_rfl)
/-! ### function 81: (*stillage/tags.Tags).put -/
def F81.vc (x0 : Option Addr) (x1 : List Value) (w : World) (Q : Value → World → Prop) : Prop :=
  nw w x1 53 fun b1 w2 =>
  ldS w2 b1 0 fun s3 =>
  Calls Tryz.prog 97 #[Value.pointer x0, Value.string s3] w2 fun e5 w4 =>
  ∃ i6 : Int, ∃ t7 : Bool, e5 = .returned (Value.tuple #[Value.int .i64 i6, Value.bool t7]) ∧ (
    vIf t7
    (dr x0 fun b8 o9 =>
      ldSl w4.drew b8 o9 fun A10 n11 c12 =>
      ldA 38 w4.drew b1 0 fun a13 =>
      dr A10 fun b14 o15 =>
      gd (decide (0 ≤ i6)) <|
      gd (decide (i6 < ((n11 : Nat) : Int))) <|
      gd (a13.length == 38) <|
      st w4.drew b14 (o15 + (i6).toNat * 38) a13 fun w16 =>
      Q (Value.tuple #[]) w16)
    (dr x0 fun b17 o18 =>
      ldSl w4 b17 o18 fun A19 n20 c21 =>
      gd (decide (0 ≤ i6)) <|
      gd (decide (i6 ≤ ((n20 : Nat) : Int))) <|
      Calls Tryz.prog 114 #[Value.slice (slA A19 c21 (i6).toNat 38) (n20 - (i6).toNat) (c21 - (i6).toNat)] w4 fun e23 w22 =>
      ∃ (A24 : Option Addr) (n25 c26 : Nat), e23 = .returned (Value.slice A24 n25 c26) ∧ (
        dr x0 fun b27 o28 =>
        ldSl w22.drew b27 o28 fun A29 n30 c31 =>
        gd (decide (0 ≤ i6)) <|
        gd (decide (i6 ≤ ((c31 : Nat) : Int))) <|
        gd (decide (0 ≤ i6)) <|
        gd (decide (i6 ≤ (((i6).toNat : Nat) : Int))) <|
        ldA 38 w22.drew b1 0 fun a32 =>
        gd (a32.length == 38) <|
        nw w22.drew (a32 ++ []) 53 fun b33 w34 =>
        kp w22.drew b27 o28 1 w34 <|
        app w34 38 104 Z53 53 (slA A29 (i6).toNat 0 38) ((i6).toNat) ((i6).toNat) (Value.slice (some ⟨b33, 0, none⟩) 1 1) fun A35 n36 c37 w38 =>
        app w38 38 104 Z53 53 A35 n36 c37 (Value.slice A24 n25 c26) fun A39 n40 c41 w42 =>
        dr x0 fun b43 o44 =>
        st w42 b43 o44 [Value.slice A39 n40 c41] fun w45 =>
        Q (Value.tuple #[]) w45)))
def F81.an : Ann := ⟨[], []⟩
theorem F81.of (x0 : Option Addr) (x1 : List Value) (w : World) {Q : Value → World → Prop} (h : F81.vc x0 x1 w Q) : Calls Tryz.prog 81 #[Value.pointer x0, ofL x1] w (fun e w' => ∃ v, e = .returned v ∧ Q v w') := vcFn_of (A := F81.an) noCount mixed h (by kernel_rfl)
/-! ### function 82: stillage/tags.fresh -/
def F82.vc (x0 : List Value) (w : World) (Q : Value → World → Prop) : Prop :=
  nw w x0 53 fun b1 w2 =>
  nw w2 Z53 53 fun b3 w4 =>
  ldSl w4 b1 (0 + 37) fun A5 n6 c7 =>
  Calls Tryz.prog 113 #[Value.slice A5 n6 c7] w4 fun e9 w8 =>
  ∃ (A10 : Option Addr) (n11 c12 : Nat), e9 = .returned (Value.slice A10 n11 c12) ∧ (
    st w8 b1 (0 + 37) [Value.slice A10 n11 c12] fun w13 =>
    ldA 38 w13 b1 0 fun a14 =>
    gd (a14.length == 38) <|
    st w13 b3 0 a14 fun w15 =>
    ldA 38 w15 b3 0 fun a16 =>
    Q (ofL a16) w15)
def F82.an : Ann := ⟨[], []⟩
theorem F82.of (x0 : List Value) (w : World) {Q : Value → World → Prop} (h : F82.vc x0 w Q) : Calls Tryz.prog 82 #[ofL x0] w (fun e w' => ∃ v, e = .returned v ∧ Q v w') := vcFn_of (A := F82.an) noCount mixed h (by kernel_rfl)
/-! ### function 83: slices.Insert[[]stillage/api.Load,stillage/api.Load] -/
def F83.vc (x0A : Option Addr) (x0n x0c : Nat) (x1 : Int) (x2A : Option Addr) (x2n x2c : Nat) (w : World) (Q : Value → World → Prop) : Prop :=
  gd (decide (0 ≤ x1)) <|
  gd (decide (x1 ≤ ((x0n : Nat) : Int))) <|
  vIf (((x2n : Nat) : Int) == 0)
  (Q (Value.slice x0A x0n x0c) w)
  (vIf (x1 == ((x0n : Nat) : Int))
    (app w 3 24 [Value.int .i64 0, Value.int .i64 0, Value.int .i64 0] 98 x0A x0n x0c (Value.slice x2A x2n x2c) fun A1 n2 c3 w4 =>
      Q (Value.slice A1 n2 c3) w4)
    (vIf (decide ((IntKind.wrap .i64 (((x0n : Nat) : Int) + ((x2n : Nat) : Int))) > ((x0c : Nat) : Int)))
      (gd (decide (0 ≤ x1)) <|
        gd (decide (x1 ≤ ((x0c : Nat) : Int))) <|
        appZ w 3 24 [Value.int .i64 0, Value.int .i64 0, Value.int .i64 0] 98 (slA x0A x0c 0 3) ((x1).toNat) x0c (IntKind.wrap .i64 ((IntKind.wrap .i64 (((x0n : Nat) : Int) + ((x2n : Nat) : Int))) - x1)) fun A5 n6 c7 w8 =>
        gd (decide (0 ≤ x1)) <|
        gd (decide (x1 ≤ ((n6 : Nat) : Int))) <|
        cpy w8 3 (slA A5 c7 (x1).toNat 3) (n6 - (x1).toNat) (Value.slice x2A x2n x2c) fun n9 w10 =>
        gd (decide (0 ≤ (IntKind.wrap .i64 (x1 + ((x2n : Nat) : Int))))) <|
        gd (decide ((IntKind.wrap .i64 (x1 + ((x2n : Nat) : Int))) ≤ ((n6 : Nat) : Int))) <|
        gd (decide (0 ≤ x1)) <|
        gd (decide (x1 ≤ ((x0n : Nat) : Int))) <|
        cpy w10.drew 3 (slA A5 c7 ((IntKind.wrap .i64 (x1 + ((x2n : Nat) : Int)))).toNat 3) (n6 - ((IntKind.wrap .i64 (x1 + ((x2n : Nat) : Int)))).toNat) (Value.slice (slA x0A x0c (x1).toNat 3) (x0n - (x1).toNat) (x0c - (x1).toNat)) fun n11 w12 =>
        Q (Value.slice A5 n6 c7) w12)
      (gd (decide (0 ≤ (IntKind.wrap .i64 (((x0n : Nat) : Int) + ((x2n : Nat) : Int))))) <|
        gd (decide ((IntKind.wrap .i64 (((x0n : Nat) : Int) + ((x2n : Nat) : Int))) ≤ ((x0c : Nat) : Int))) <|
        gd (decide (0 ≤ (IntKind.wrap .i64 (x1 + ((x2n : Nat) : Int))))) <|
        gd (decide ((IntKind.wrap .i64 (x1 + ((x2n : Nat) : Int))) ≤ ((((IntKind.wrap .i64 (((x0n : Nat) : Int) + ((x2n : Nat) : Int)))).toNat : Nat) : Int))) <|
        extC Tryz.prog 115 #[Value.slice x2A x2n x2c, Value.slice (slA (slA x0A x0c 0 3) x0c ((IntKind.wrap .i64 (x1 + ((x2n : Nat) : Int)))).toNat 3) (((IntKind.wrap .i64 (((x0n : Nat) : Int) + ((x2n : Nat) : Int)))).toNat - ((IntKind.wrap .i64 (x1 + ((x2n : Nat) : Int)))).toNat) (x0c - ((IntKind.wrap .i64 (x1 + ((x2n : Nat) : Int)))).toNat)] w fun v15 w13 =>
        ∃ t16 : Bool, v15 = Value.bool t16 ∧ (
          vIf (!t16)
          (gd (decide (0 ≤ (IntKind.wrap .i64 (x1 + ((x2n : Nat) : Int))))) <|
            gd (decide ((IntKind.wrap .i64 (x1 + ((x2n : Nat) : Int))) ≤ ((((IntKind.wrap .i64 (((x0n : Nat) : Int) + ((x2n : Nat) : Int)))).toNat : Nat) : Int))) <|
            gd (decide (0 ≤ x1)) <|
            gd (decide (x1 ≤ ((((IntKind.wrap .i64 (((x0n : Nat) : Int) + ((x2n : Nat) : Int)))).toNat : Nat) : Int))) <|
            cpy w13.drew 3 (slA (slA x0A x0c 0 3) x0c ((IntKind.wrap .i64 (x1 + ((x2n : Nat) : Int)))).toNat 3) (((IntKind.wrap .i64 (((x0n : Nat) : Int) + ((x2n : Nat) : Int)))).toNat - ((IntKind.wrap .i64 (x1 + ((x2n : Nat) : Int)))).toNat) (Value.slice (slA (slA x0A x0c 0 3) x0c (x1).toNat 3) (((IntKind.wrap .i64 (((x0n : Nat) : Int) + ((x2n : Nat) : Int)))).toNat - (x1).toNat) (x0c - (x1).toNat)) fun n17 w18 =>
            gd (decide (0 ≤ x1)) <|
            gd (decide (x1 ≤ ((((IntKind.wrap .i64 (((x0n : Nat) : Int) + ((x2n : Nat) : Int)))).toNat : Nat) : Int))) <|
            cpy w18 3 (slA (slA x0A x0c 0 3) x0c (x1).toNat 3) (((IntKind.wrap .i64 (((x0n : Nat) : Int) + ((x2n : Nat) : Int)))).toNat - (x1).toNat) (Value.slice x2A x2n x2c) fun n19 w20 =>
            Q (Value.slice (slA x0A x0c 0 3) ((IntKind.wrap .i64 (((x0n : Nat) : Int) + ((x2n : Nat) : Int)))).toNat x0c) w20)
          (gd (decide (0 ≤ ((x0n : Nat) : Int))) <|
            gd (decide (((x0n : Nat) : Int) ≤ ((((IntKind.wrap .i64 (((x0n : Nat) : Int) + ((x2n : Nat) : Int)))).toNat : Nat) : Int))) <|
            cpy w13 3 (slA (slA x0A x0c 0 3) x0c (((x0n : Nat) : Int)).toNat 3) (((IntKind.wrap .i64 (((x0n : Nat) : Int) + ((x2n : Nat) : Int)))).toNat - (((x0n : Nat) : Int)).toNat) (Value.slice x2A x2n x2c) fun n21 w22 =>
            gd (decide (0 ≤ x1)) <|
            gd (decide (x1 ≤ ((((IntKind.wrap .i64 (((x0n : Nat) : Int) + ((x2n : Nat) : Int)))).toNat : Nat) : Int))) <|
            Calls Tryz.prog 116 #[Value.slice (slA (slA x0A x0c 0 3) x0c (x1).toNat 3) (((IntKind.wrap .i64 (((x0n : Nat) : Int) + ((x2n : Nat) : Int)))).toNat - (x1).toNat) (x0c - (x1).toNat), Value.int .i64 ((x2n : Nat) : Int)] w22 fun e24 w23 =>
            e24 = .returned (Value.tuple #[]) ∧ (
              Q (Value.slice (slA x0A x0c 0 3) ((IntKind.wrap .i64 (((x0n : Nat) : Int) + ((x2n : Nat) : Int)))).toNat x0c) w23))))))
def F83.an : Ann := ⟨[], []⟩
theorem F83.of (x0A : Option Addr) (x0n x0c : Nat) (x1 : Int) (x2A : Option Addr) (x2n x2c : Nat) (w : World) {Q : Value → World → Prop} (h : F83.vc x0A x0n x0c x1 x2A x2n x2c w Q) : Calls Tryz.prog 83 #[Value.slice x0A x0n x0c, Value.int .i64 x1, Value.slice x2A x2n x2c] w (fun e w' => ∃ v, e = .returned v ∧ Q v w') := vcFn_of (A := F83.an) noCount mixed h (by kernel_rfl)
/-! ### function 84: (*stillage/slots.Table[stillage/api.Entry]).Get -/
def F84.vc (x0 : Option Addr) (x1 : List Value) (w : World) (Q : Value → World → Prop) : Prop :=
  nw w x1 33 fun b1 w2 =>
  nw w2 Z48 48 fun b3 w4 =>
  nw w4 Z48 48 fun b5 w6 =>
  vIf x0.isNone
  (ldA 38 w6 b5 0 fun a7 =>
    gd (a7.length == 38) <|
    st w6 b3 0 a7 fun w8 =>
    ldA 38 w8 b3 0 fun a9 =>
    Q (Value.tuple #[ofL a9, Value.bool false]) w8)
  (ldA 32 w6 b1 0 fun a10 =>
    Calls Tryz.prog 111 #[Value.pointer x0, ofL a10] w6 fun e12 w11 =>
    ∃ i13 : Int, ∃ t14 : Bool, e12 = .returned (Value.tuple #[Value.int .i64 i13, Value.bool t14]) ∧ (
      vIf (!t14)
      (ldA 38 w11 b5 0 fun a15 =>
        gd (a15.length == 38) <|
        st w11 b3 0 a15 fun w16 =>
        ldA 38 w16 b3 0 fun a17 =>
        Q (Value.tuple #[ofL a17, Value.bool false]) w16)
      (dr x0 fun b18 o19 =>
        ldSl w11 b18 o19 fun A20 n21 c22 =>
        dr A20 fun b23 o24 =>
        gd (decide (0 ≤ i13)) <|
        gd (decide (i13 < ((n21 : Nat) : Int))) <|
        ldA 38 w11 b23 ((o24 + (i13).toNat * 71) + 33) fun a25 =>
        gd (a25.length == 38) <|
        st w11 b3 0 a25 fun w26 =>
        ldA 38 w26 b3 0 fun a27 =>
        Q (Value.tuple #[ofL a27, Value.bool true]) w26)))
def F84.an : Ann := ⟨[], []⟩
theorem F84.of (x0 : Option Addr) (x1 : List Value) (w : World) {Q : Value → World → Prop} (h : F84.vc x0 x1 w Q) : Calls Tryz.prog 84 #[Value.pointer x0, ofL x1] w (fun e w' => ∃ v, e = .returned v ∧ Q v w') := vcFn_of (A := F84.an) noCount mixed h (by kernel_rfl)
/-! ### function 85: stillage/entry.Put -/
def F85.vc (x0 : List Value) (x1 : List Value) (w : World) (Q : Value → World → Prop) : Prop :=
  nw w x0 48 fun b1 w2 =>
  nw w2 x1 37 fun b3 w4 =>
  nw w4 Z48 48 fun b5 w6 =>
  ldA 32 w6.drew b3 (0 + 2) fun a7 =>
  ldI .i64 w6.drew b3 0 fun i8 =>
  ldI .i64 w6.drew b3 (0 + 35) fun i9 =>
  ldA 3 w6.drew b3 (0 + 36) fun a10 =>
  ldSl w6.drew b1 (0 + 37) fun A11 n12 c13 =>
  ldI .i64 w6.drew b3 (0 + 36) fun i14 =>
  nw w6.drew ([Value.int .i64 i14] ++ []) 3 fun b15 w16 =>
  kp w6.drew b1 (0 + 37) 1 w16 <|
  kp w6.drew b3 (0 + 36) 3 w16 <|
  kp w6.drew b3 (0 + 35) 1 w16 <|
  kp w6.drew b3 0 1 w16 <|
  kp w6.drew b3 (0 + 2) 32 w16 <|
  nw w16 ([Value.slice A11 n12 c13] ++ ([Value.slice (some ⟨b15, 0, none⟩) 1 1] ++ [])) 46 fun b17 w18 =>
  kp w6.drew b3 (0 + 36) 3 w18 <|
  kp w6.drew b3 (0 + 35) 1 w18 <|
  kp w6.drew b3 0 1 w18 <|
  kp w6.drew b3 (0 + 2) 32 w18 <|
  Calls Tryz.prog 117 #[Value.slice (some ⟨b17, 0, none⟩) 2 2] w18 fun e20 w19 =>
  ∃ (A21 : Option Addr) (n22 c23 : Nat), e20 = .returned (Value.slice A21 n22 c23) ∧ (
    kp w6.drew b3 (0 + 36) 3 w19 <|
    kp w6.drew b3 (0 + 35) 1 w19 <|
    kp w6.drew b3 0 1 w19 <|
    kp w6.drew b3 (0 + 2) 32 w19 <|
    gd (a7.length == 32) <|
    gd (a10.length == 3) <|
    gd ((a7 ++ ([Value.int .i64 i8] ++ ([Value.int .i64 i9] ++ (a10 ++ ([Value.slice A21 n22 c23] ++ []))))).length == 38) <|
    st w19 b5 0 (a7 ++ ([Value.int .i64 i8] ++ ([Value.int .i64 i9] ++ (a10 ++ ([Value.slice A21 n22 c23] ++ []))))) fun w24 =>
    ldA 38 w24 b5 0 fun a25 =>
    Q (ofL a25) w24)
def F85.an : Ann := ⟨[], []⟩
theorem F85.of (x0 : List Value) (x1 : List Value) (w : World) {Q : Value → World → Prop} (h : F85.vc x0 x1 w Q) : Calls Tryz.prog 85 #[ofL x0, ofL x1] w (fun e w' => ∃ v, e = .returned v ∧ Q v w') := vcFn_of (A := F85.an) noCount mixed h (by kernel_rfl)
/-! ### function 86: stillage/entry.Delete -/
def F86.vc (x0 : List Value) (x1 : List Value) (w : World) (Q : Value → World → Prop) : Prop :=
  nw w x0 48 fun b1 w2 =>
  nw w2 x1 37 fun b3 w4 =>
  nw w4 Z48 48 fun b5 w6 =>
  ldA 32 w6.drew b1 0 fun a7 =>
  ldA 3 w6.drew b3 (0 + 36) fun a8 =>
  ldSl w6.drew b1 (0 + 37) fun A9 n10 c11 =>
  nw w6.drew ([Value.slice A9 n10 c11] ++ []) 46 fun b12 w13 =>
  kp w6.drew b3 (0 + 36) 3 w13 <|
  kp w6.drew b1 0 32 w13 <|
  Calls Tryz.prog 117 #[Value.slice (some ⟨b12, 0, none⟩) 1 1] w13 fun e15 w14 =>
  ∃ (A16 : Option Addr) (n17 c18 : Nat), e15 = .returned (Value.slice A16 n17 c18) ∧ (
    kp w6.drew b3 (0 + 36) 3 w14 <|
    kp w6.drew b1 0 32 w14 <|
    gd (a7.length == 32) <|
    gd (a8.length == 3) <|
    gd ((a7 ++ ([Value.int .i64 5] ++ ([Value.int .i64 0] ++ (a8 ++ ([Value.slice A16 n17 c18] ++ []))))).length == 38) <|
    st w14 b5 0 (a7 ++ ([Value.int .i64 5] ++ ([Value.int .i64 0] ++ (a8 ++ ([Value.slice A16 n17 c18] ++ []))))) fun w19 =>
    ldA 38 w19 b5 0 fun a20 =>
    Q (ofL a20) w19)
def F86.an : Ann := ⟨[], []⟩
theorem F86.of (x0 : List Value) (x1 : List Value) (w : World) {Q : Value → World → Prop} (h : F86.vc x0 x1 w Q) : Calls Tryz.prog 86 #[ofL x0, ofL x1] w (fun e w' => ∃ v, e = .returned v ∧ Q v w') := vcFn_of (A := F86.an) noCount mixed h (by kernel_rfl)
/-! ### function 87: stillage/entry.Tag -/
def F87.vc (x0 : List Value) (x1 : List Value) (w : World) (Q : Value → World → Prop) : Prop :=
  nw w x0 53 fun b1 w2 =>
  nw w2 x1 37 fun b3 w4 =>
  nw w4 Z53 53 fun b5 w6 =>
  ldS w6.drew b3 (0 + 34) fun s7 =>
  ldA 32 w6.drew b3 (0 + 2) fun a8 =>
  ldA 3 w6.drew b3 (0 + 36) fun a9 =>
  ldSl w6.drew b1 (0 + 37) fun A10 n11 c12 =>
  ldI .i64 w6.drew b3 (0 + 36) fun i13 =>
  nw w6.drew ([Value.int .i64 i13] ++ []) 3 fun b14 w15 =>
  kp w6.drew b1 (0 + 37) 1 w15 <|
  kp w6.drew b3 (0 + 36) 3 w15 <|
  kp w6.drew b3 (0 + 2) 32 w15 <|
  kp w6.drew b3 (0 + 34) 1 w15 <|
  nw w15 ([Value.slice A10 n11 c12] ++ ([Value.slice (some ⟨b14, 0, none⟩) 1 1] ++ [])) 46 fun b16 w17 =>
  kp w6.drew b3 (0 + 36) 3 w17 <|
  kp w6.drew b3 (0 + 2) 32 w17 <|
  kp w6.drew b3 (0 + 34) 1 w17 <|
  Calls Tryz.prog 117 #[Value.slice (some ⟨b16, 0, none⟩) 2 2] w17 fun e19 w18 =>
  ∃ (A20 : Option Addr) (n21 c22 : Nat), e19 = .returned (Value.slice A20 n21 c22) ∧ (
    kp w6.drew b3 (0 + 36) 3 w18 <|
    kp w6.drew b3 (0 + 2) 32 w18 <|
    kp w6.drew b3 (0 + 34) 1 w18 <|
    gd (a8.length == 32) <|
    gd (a9.length == 3) <|
    gd (([Value.string s7] ++ (a8 ++ ([Value.bool false] ++ (a9 ++ ([Value.slice A20 n21 c22] ++ []))))).length == 38) <|
    st w18 b5 0 ([Value.string s7] ++ (a8 ++ ([Value.bool false] ++ (a9 ++ ([Value.slice A20 n21 c22] ++ []))))) fun w23 =>
    ldA 38 w23 b5 0 fun a24 =>
    Q (ofL a24) w23)
def F87.an : Ann := ⟨[], []⟩
theorem F87.of (x0 : List Value) (x1 : List Value) (w : World) {Q : Value → World → Prop} (h : F87.vc x0 x1 w Q) : Calls Tryz.prog 87 #[ofL x0, ofL x1] w (fun e w' => ∃ v, e = .returned v ∧ Q v w') := vcFn_of (A := F87.an) noCount mixed h (by kernel_rfl)
/-! ### function 88: stillage/entry.Untag -/
def F88.vc (x0 : List Value) (x1 : List Value) (w : World) (Q : Value → World → Prop) : Prop :=
  nw w x0 53 fun b1 w2 =>
  nw w2 x1 37 fun b3 w4 =>
  nw w4 Z53 53 fun b5 w6 =>
  ldS w6.drew b1 0 fun s7 =>
  ldA 3 w6.drew b3 (0 + 36) fun a8 =>
  ldSl w6.drew b1 (0 + 37) fun A9 n10 c11 =>
  nw w6.drew ([Value.slice A9 n10 c11] ++ []) 46 fun b12 w13 =>
  kp w6.drew b3 (0 + 36) 3 w13 <|
  kp w6.drew b1 0 1 w13 <|
  Calls Tryz.prog 117 #[Value.slice (some ⟨b12, 0, none⟩) 1 1] w13 fun e15 w14 =>
  ∃ (A16 : Option Addr) (n17 c18 : Nat), e15 = .returned (Value.slice A16 n17 c18) ∧ (
    kp w6.drew b3 (0 + 36) 3 w14 <|
    kp w6.drew b1 0 1 w14 <|
    gd (a8.length == 3) <|
    gd (([Value.string s7] ++ ([Value.int .u8 0, Value.int .u8 0, Value.int .u8 0, Value.int .u8 0, Value.int .u8 0, Value.int .u8 0, Value.int .u8 0, Value.int .u8 0, Value.int .u8 0, Value.int .u8 0, Value.int .u8 0, Value.int .u8 0, Value.int .u8 0, Value.int .u8 0, Value.int .u8 0, Value.int .u8 0, Value.int .u8 0, Value.int .u8 0, Value.int .u8 0, Value.int .u8 0, Value.int .u8 0, Value.int .u8 0, Value.int .u8 0, Value.int .u8 0, Value.int .u8 0, Value.int .u8 0, Value.int .u8 0, Value.int .u8 0, Value.int .u8 0, Value.int .u8 0, Value.int .u8 0, Value.int .u8 0] ++ ([Value.bool true] ++ (a8 ++ ([Value.slice A16 n17 c18] ++ []))))).length == 38) <|
    st w14 b5 0 ([Value.string s7] ++ ([Value.int .u8 0, Value.int .u8 0, Value.int .u8 0, Value.int .u8 0, Value.int .u8 0, Value.int .u8 0, Value.int .u8 0, Value.int .u8 0, Value.int .u8 0, Value.int .u8 0, Value.int .u8 0, Value.int .u8 0, Value.int .u8 0, Value.int .u8 0, Value.int .u8 0, Value.int .u8 0, Value.int .u8 0, Value.int .u8 0, Value.int .u8 0, Value.int .u8 0, Value.int .u8 0, Value.int .u8 0, Value.int .u8 0, Value.int .u8 0, Value.int .u8 0, Value.int .u8 0, Value.int .u8 0, Value.int .u8 0, Value.int .u8 0, Value.int .u8 0, Value.int .u8 0, Value.int .u8 0] ++ ([Value.bool true] ++ (a8 ++ ([Value.slice A16 n17 c18] ++ []))))) fun w19 =>
    ldA 38 w19 b5 0 fun a20 =>
    Q (ofL a20) w19)
def F88.an : Ann := ⟨[], []⟩
theorem F88.of (x0 : List Value) (x1 : List Value) (w : World) {Q : Value → World → Prop} (h : F88.vc x0 x1 w Q) : Calls Tryz.prog 88 #[ofL x0, ofL x1] w (fun e w' => ∃ v, e = .returned v ∧ Q v w') := vcFn_of (A := F88.an) noCount mixed h (by kernel_rfl)
/-! ### function 89: slices.BinarySearchFunc[[]stillage/api.Load,stillage/api.Load,int] -/
def F89s.b3c (Q : Value → World → Prop) (C3 : ((Option Addr × Nat × Nat) × Int × Unit × Int × Int × Int × Unit) → World → Prop) (x0 : (Option Addr × Nat × Nat)) (x1 : Int) (x2 : Unit) (x8 : Int) (x9 : Int) (x10 : Int) (w : World) : Prop :=
  vIf (decide (x9 < x10))
  (dr x0.1 fun b1 o2 =>
    gd (decide (0 ≤ (IntKind.wrap .i64 (Int.fdiv (IntKind.wrap .u64 (IntKind.wrap .i64 (x9 + x10))) (2 ^ 1))))) <|
    gd (decide ((IntKind.wrap .i64 (Int.fdiv (IntKind.wrap .u64 (IntKind.wrap .i64 (x9 + x10))) (2 ^ 1))) < ((x0.2.1 : Nat) : Int))) <|
    ldA 3 w b1 (o2 + ((IntKind.wrap .i64 (Int.fdiv (IntKind.wrap .u64 (IntKind.wrap .i64 (x9 + x10))) (2 ^ 1)))).toNat * 3) fun a3 =>
    Calls Tryz.prog 90 #[ofL a3, Value.int .i64 x1] w fun e5 w4 =>
    ∃ i6 : Int, e5 = .returned (Value.int .i64 i6) ∧ (
      vIf (decide (i6 < 0))
      (jnC C3 ((x0.1, x0.2.1, x0.2.2), (x1), (), (x8), ((IntKind.wrap .i64 ((IntKind.wrap .i64 (Int.fdiv (IntKind.wrap .u64 (IntKind.wrap .i64 (x9 + x10))) (2 ^ 1))) + 1))), (x10), ()) w4)
      (jnC C3 ((x0.1, x0.2.1, x0.2.2), (x1), (), (x8), (x9), ((IntKind.wrap .i64 (Int.fdiv (IntKind.wrap .u64 (IntKind.wrap .i64 (x9 + x10))) (2 ^ 1)))), ()) w4)))
  (vIf (decide (x9 < x8))
    (dr x0.1 fun b7 o8 =>
      gd (decide (0 ≤ x9)) <|
      gd (decide (x9 < ((x0.2.1 : Nat) : Int))) <|
      ldA 3 w b7 (o8 + (x9).toNat * 3) fun a9 =>
      Calls Tryz.prog 90 #[ofL a9, Value.int .i64 x1] w fun e11 w10 =>
      ∃ i12 : Int, e11 = .returned (Value.int .i64 i12) ∧ (
        Q (Value.tuple #[Value.int .i64 x9, Value.bool (i12 == 0)]) w10))
    (Q (Value.tuple #[Value.int .i64 x9, Value.bool false]) w))
def F89s.b3 (Q : Value → World → Prop) : ((Option Addr × Nat × Nat) × Int × Unit × Int × Int × Int × Unit) → World → (((Option Addr × Nat × Nat) × Int × Unit × Int × Int × Int × Unit) → World → Prop) → Prop := fun s w C3 => ∀ _ : Nat → Value, F89s.b3c Q C3 s.1 s.2.1 s.2.2.1 s.2.2.2.1 s.2.2.2.2.1 s.2.2.2.2.2.1 w
def F89s.l3 (Q : Value → World → Prop) : ((Option Addr × Nat × Nat) × Int × Unit × Int × Int × Int × Unit) → World → Prop := fun s w => ∃ n, loopC (F89s.b3 Q) n s w
def F89s.vc (x0A : Option Addr) (x0n x0c : Nat) (x1 : Int) (w : World) (Q : Value → World → Prop) : Prop :=
  jnC (F89s.l3 Q) ((x0A, x0n, x0c), (x1), (), (((x0n : Nat) : Int)), (0), (((x0n : Nat) : Int)), ()) w
def F89s.an : Ann := ⟨[(3, [(0, .kSl), (1, .kI .i64), (2, .kF 90), (8, .kI .i64), (9, .kI .i64), (10, .kI .i64)])], []⟩
theorem F89s.of (x0A : Option Addr) (x0n x0c : Nat) (x1 : Int) (w : World) {Q : Value → World → Prop} (h : F89s.vc x0A x0n x0c x1 w Q) : Calls Tryz.prog 89 #[Value.slice x0A x0n x0c, Value.int .i64 x1, Value.func (.func 90) #[] #[]] w (fun e w' => ∃ v, e = .returned v ∧ Q v w') := vcFn_of (A := F89s.an) noCount mixed h (by kernel_rfl)
/-! ### function 90: (*stillage/state.State).place$1 -/
def F90.vc (x0 : List Value) (x1 : Int) (w : World) (Q : Value → World → Prop) : Prop :=
  nw w x0 98 fun b1 w2 =>
  ldI .i64 w2 b1 0 fun i3 =>
  Calls Tryz.prog 53 #[Value.int .i64 i3, Value.int .i64 x1] w2 fun e5 w4 =>
  ∃ i6 : Int, e5 = .returned (Value.int .i64 i6) ∧ (
    Q (Value.int .i64 i6) w4)
def F90.an : Ann := ⟨[], []⟩
theorem F90.of (x0 : List Value) (x1 : Int) (w : World) {Q : Value → World → Prop} (h : F90.vc x0 x1 w Q) : Calls Tryz.prog 90 #[ofL x0, Value.int .i64 x1] w (fun e w' => ∃ v, e = .returned v ∧ Q v w') := vcFn_of (A := F90.an) noCount mixed h (by kernel_rfl)
/-! ### function 91: (*stillage/slots.Table[stillage/api.Entry]).Row -/
def F91.b5c (Q : Value → World → Prop) (C5 : ((Option Addr × Nat × Nat) × (Option Addr × Nat × Nat) × Int × Int × Unit) → World → Prop) (x3 : (Option Addr × Nat × Nat)) (x11 : (Option Addr × Nat × Nat)) (x12 : Int) (x13 : Int) (w : World) : Prop :=
  vIf (decide (x13 < x12))
  (dr x11.1 fun b6 o7 =>
    gd (decide (0 ≤ x13)) <|
    gd (decide (x13 < ((x11.2.1 : Nat) : Int))) <|
    ldA 71 w b6 (o7 + (x13).toNat * 71) fun a8 =>
    nw w Z157 157 fun b9 w10 =>
    gd (a8.length == 71) <|
    st w10 b9 0 a8 fun w11 =>
    ldB w11 b9 0 fun t12 =>
    vIf t12
    (ldA 32 w11 b9 (0 + 1) fun a13 =>
      gd (a13.length == 32) <|
      nw w11 (a13 ++ []) 33 fun b14 w15 =>
      app w15 32 32 Z33 33 x3.1 x3.2.1 x3.2.2 (Value.slice (some ⟨b14, 0, none⟩) 1 1) fun A16 n17 c18 w19 =>
      jnC C5 ((A16, n17, c18), (x11.1, x11.2.1, x11.2.2), (x12), ((IntKind.wrap .i64 (x13 + 1))), ()) w19)
    (jnC C5 ((x3.1, x3.2.1, x3.2.2), (x11.1, x11.2.1, x11.2.2), (x12), ((IntKind.wrap .i64 (x13 + 1))), ()) w11))
  (Calls Tryz.prog 118 #[Value.slice x3.1 x3.2.1 x3.2.2] w fun e21 w20 =>
    ∃ (A22 : Option Addr) (n23 c24 : Nat), e21 = .returned (Value.slice A22 n23 c24) ∧ (
      Q (Value.slice A22 n23 c24) w20))
def F91.b5 (Q : Value → World → Prop) : ((Option Addr × Nat × Nat) × (Option Addr × Nat × Nat) × Int × Int × Unit) → World → (((Option Addr × Nat × Nat) × (Option Addr × Nat × Nat) × Int × Int × Unit) → World → Prop) → Prop := fun s w C5 => ∀ _ : Nat → Value, F91.b5c Q C5 s.1 s.2.1 s.2.2.1 s.2.2.2.1 w
def F91.l5 (Q : Value → World → Prop) : ((Option Addr × Nat × Nat) × (Option Addr × Nat × Nat) × Int × Int × Unit) → World → Prop := fun s w => ∃ n, loopC (F91.b5 Q) n s w
def F91.vc (x0 : Option Addr) (w : World) (Q : Value → World → Prop) : Prop :=
  vIf x0.isNone
  (Q (Value.slice none 0 0) w)
  (dr x0 fun b1 o2 =>
    ldSl w b1 o2 fun A3 n4 c5 =>
    jnC (F91.l5 Q) ((none, 0, 0), (A3, n4, c5), (((n4 : Nat) : Int)), (0), ()) w)
def F91.an : Ann := ⟨[(5, [(3, .kSl), (11, .kSl), (12, .kI .i64), (13, .kI .i64)])], []⟩
theorem F91.of (x0 : Option Addr) (w : World) {Q : Value → World → Prop} (h : F91.vc x0 w Q) : Calls Tryz.prog 91 #[Value.pointer x0] w (fun e w' => ∃ v, e = .returned v ∧ Q v w') := vcFn_of (A := F91.an) noCount mixed h (by kernel_rfl)
/-! ### function 92: stillage/entry.other -/
def F92.vc (x0A : Option Addr) (x0n x0c : Nat) (x1 : Int) (w : World) (Q : Value → World → Prop) : Prop :=
  nw w [Value.int .i64 x1] 3 fun b1 w2 =>
  Calls Tryz.prog 119 #[Value.slice x0A x0n x0c, Value.func (.func 120) #[] #[Value.pointer (some ⟨b1, 0, none⟩)]] w2 fun e4 w3 =>
  ∃ t5 : Bool, e4 = .returned (Value.bool t5) ∧ (
    Q (Value.bool t5) w3)
def F92.an : Ann := ⟨[], []⟩
theorem F92.of (x0A : Option Addr) (x0n x0c : Nat) (x1 : Int) (w : World) {Q : Value → World → Prop} (h : F92.vc x0A x0n x0c x1 w Q) : Calls Tryz.prog 92 #[Value.slice x0A x0n x0c, Value.int .i64 x1] w (fun e w' => ∃ v, e = .returned v ∧ Q v w') := vcFn_of (A := F92.an) noCount mixed h (by kernel_rfl)
/-! ### function 93: slices.stableCmpFunc[stillage/api.Word] -/
def F93s.b9c (Q : Value → World → Prop) (C7 : ((Option Addr × Nat × Nat) × Int × Unit × Int × Unit) → World → Prop) (C9 : ((Option Addr × Nat × Nat) × Int × Unit × Int × Int × Int × Unit) → World → Prop) (x0 : (Option Addr × Nat × Nat)) (x1 : Int) (x2 : Unit) (x6 : Int) (x7 : Int) (x8 : Int) (w : World) : Prop :=
  vIf (decide (x8 ≤ x1))
  (Calls Tryz.prog 122 #[Value.slice x0.1 x0.2.1 x0.2.2, Value.int .i64 x7, Value.int .i64 (IntKind.wrap .i64 (x7 + x6)), Value.int .i64 x8, Value.func (.func 52) #[] #[]] w fun e6 w5 =>
    e6 = .returned (Value.tuple #[]) ∧ (
      jnC C9 ((x0.1, x0.2.1, x0.2.2), (x1), (), (x6), (x8), ((IntKind.wrap .i64 (x8 + (IntKind.wrap .i64 (2 * x6))))), ()) w5))
  (vIf (decide ((IntKind.wrap .i64 (x7 + x6)) < x1))
    (Calls Tryz.prog 122 #[Value.slice x0.1 x0.2.1 x0.2.2, Value.int .i64 x7, Value.int .i64 (IntKind.wrap .i64 (x7 + x6)), Value.int .i64 x1, Value.func (.func 52) #[] #[]] w fun e8 w7 =>
      e8 = .returned (Value.tuple #[]) ∧ (
        jnC C7 ((x0.1, x0.2.1, x0.2.2), (x1), (), ((IntKind.wrap .i64 (x6 * 2))), ()) w7))
    (jnC C7 ((x0.1, x0.2.1, x0.2.2), (x1), (), ((IntKind.wrap .i64 (x6 * 2))), ()) w))
def F93s.b9 (Q : Value → World → Prop) (C7 : ((Option Addr × Nat × Nat) × Int × Unit × Int × Unit) → World → Prop) : ((Option Addr × Nat × Nat) × Int × Unit × Int × Int × Int × Unit) → World → (((Option Addr × Nat × Nat) × Int × Unit × Int × Int × Int × Unit) → World → Prop) → Prop := fun s w C9 => ∀ _ : Nat → Value, F93s.b9c Q C7 C9 s.1 s.2.1 s.2.2.1 s.2.2.2.1 s.2.2.2.2.1 s.2.2.2.2.2.1 w
def F93s.l9 (Q : Value → World → Prop) (C7 : ((Option Addr × Nat × Nat) × Int × Unit × Int × Unit) → World → Prop) : ((Option Addr × Nat × Nat) × Int × Unit × Int × Int × Int × Unit) → World → Prop := fun s w => ∃ n, loopC (F93s.b9 Q C7) n s w
def F93s.b7c (Q : Value → World → Prop) (C7 : ((Option Addr × Nat × Nat) × Int × Unit × Int × Unit) → World → Prop) (x0 : (Option Addr × Nat × Nat)) (x1 : Int) (x2 : Unit) (x6 : Int) (w : World) : Prop :=
  vIf (decide (x6 < x1))
  (jnC (F93s.l9 Q C7) ((x0.1, x0.2.1, x0.2.2), (x1), (), (x6), (0), ((IntKind.wrap .i64 (2 * x6))), ()) w)
  (Q (Value.tuple #[]) w)
def F93s.b7 (Q : Value → World → Prop) : ((Option Addr × Nat × Nat) × Int × Unit × Int × Unit) → World → (((Option Addr × Nat × Nat) × Int × Unit × Int × Unit) → World → Prop) → Prop := fun s w C7 => ∀ _ : Nat → Value, F93s.b7c Q C7 s.1 s.2.1 s.2.2.1 s.2.2.2.1 w
def F93s.l7 (Q : Value → World → Prop) : ((Option Addr × Nat × Nat) × Int × Unit × Int × Unit) → World → Prop := fun s w => ∃ n, loopC (F93s.b7 Q) n s w
def F93s.b2c (Q : Value → World → Prop) (C2 : ((Option Addr × Nat × Nat) × Int × Unit × Int × Int × Int × Unit) → World → Prop) (x0 : (Option Addr × Nat × Nat)) (x1 : Int) (x2 : Unit) (x6 : Int) (x7 : Int) (x8 : Int) (w : World) : Prop :=
  vIf (decide (x8 ≤ x1))
  (Calls Tryz.prog 121 #[Value.slice x0.1 x0.2.1 x0.2.2, Value.int .i64 x7, Value.int .i64 x8, Value.func (.func 52) #[] #[]] w fun e2 w1 =>
    e2 = .returned (Value.tuple #[]) ∧ (
      jnC C2 ((x0.1, x0.2.1, x0.2.2), (x1), (), (x6), (x8), ((IntKind.wrap .i64 (x8 + x6))), ()) w1))
  (Calls Tryz.prog 121 #[Value.slice x0.1 x0.2.1 x0.2.2, Value.int .i64 x7, Value.int .i64 x1, Value.func (.func 52) #[] #[]] w fun e4 w3 =>
    e4 = .returned (Value.tuple #[]) ∧ (
      jnC (F93s.l7 Q) ((x0.1, x0.2.1, x0.2.2), (x1), (), (x6), ()) w3))
def F93s.b2 (Q : Value → World → Prop) : ((Option Addr × Nat × Nat) × Int × Unit × Int × Int × Int × Unit) → World → (((Option Addr × Nat × Nat) × Int × Unit × Int × Int × Int × Unit) → World → Prop) → Prop := fun s w C2 => ∀ _ : Nat → Value, F93s.b2c Q C2 s.1 s.2.1 s.2.2.1 s.2.2.2.1 s.2.2.2.2.1 s.2.2.2.2.2.1 w
def F93s.l2 (Q : Value → World → Prop) : ((Option Addr × Nat × Nat) × Int × Unit × Int × Int × Int × Unit) → World → Prop := fun s w => ∃ n, loopC (F93s.b2 Q) n s w
def F93s.vc (x0A : Option Addr) (x0n x0c : Nat) (x1 : Int) (w : World) (Q : Value → World → Prop) : Prop :=
  jnC (F93s.l2 Q) ((x0A, x0n, x0c), (x1), (), (20), (0), (20), ()) w
def F93s.an : Ann := ⟨[(2, [(0, .kSl), (1, .kI .i64), (2, .kF 52), (6, .kI .i64), (7, .kI .i64), (8, .kI .i64)]), (7, [(0, .kSl), (1, .kI .i64), (2, .kF 52), (6, .kI .i64)]), (9, [(0, .kSl), (1, .kI .i64), (2, .kF 52), (6, .kI .i64), (7, .kI .i64), (8, .kI .i64)])], []⟩
theorem F93s.of (x0A : Option Addr) (x0n x0c : Nat) (x1 : Int) (w : World) {Q : Value → World → Prop} (h : F93s.vc x0A x0n x0c x1 w Q) : Calls Tryz.prog 93 #[Value.slice x0A x0n x0c, Value.int .i64 x1, Value.func (.func 52) #[] #[]] w (fun e w' => ∃ v, e = .returned v ∧ Q v w') := vcFn_of (A := F93s.an) noCount mixed h (by kernel_rfl)
/-! ### function 94: cmp.isNaN[int] -/
def F94.vc (x0 : Int) (w : World) (Q : Value → World → Prop) : Prop :=
  Q (Value.bool (x0 != x0)) w
def F94.an : Ann := ⟨[], []⟩
theorem F94.of (x0 : Int) (w : World) {Q : Value → World → Prop} (h : F94.vc x0 w Q) : Calls Tryz.prog 94 #[Value.int .i64 x0] w (fun e w' => ∃ v, e = .returned v ∧ Q v w') := vcFn_of (A := F94.an) noCount mixed h (by kernel_rfl)
/-! ### function 95: stillage/stillageref20.Set -/
def F95.k9c (Q : Value → World → Prop) (C4 : ((Option Addr × Nat × Nat) × (Nat × Nat) × (Option Addr × Nat × Nat) × Bool × Int × Unit) → World → Prop) (x0 : (Option Addr × Nat × Nat)) (x3 : (Nat × Nat)) (x5 : (Option Addr × Nat × Nat)) (x6 : Bool) (x7 : Int) (w : World) : Prop :=
  dr x0.1 fun b17 o18 =>
  gd (decide (0 ≤ x7)) <|
  gd (decide (x7 < ((x0.2.1 : Nat) : Int))) <|
  ldA 32 w.drew b17 (o18 + (x7).toNat * 38) fun a19 =>
  ldA 32 w.drew x3.1 x3.2 fun a20 =>
  eqAB 32 a19 a20 fun t21 =>
  vIf (!t21)
  (dr x0.1 fun b22 o23 =>
    gd (decide (0 ≤ x7)) <|
    gd (decide (x7 < ((x0.2.1 : Nat) : Int))) <|
    ldA 38 w.drew b22 (o23 + (x7).toNat * 38) fun a24 =>
    gd (a24.length == 38) <|
    nw w.drew (a24 ++ []) 48 fun b25 w26 =>
    app w26 38 96 Z48 48 x5.1 x5.2.1 x5.2.2 (Value.slice (some ⟨b25, 0, none⟩) 1 1) fun A27 n28 c29 w30 =>
    jnC C4 ((x0.1, x0.2.1, x0.2.2), (x3.1, x3.2), (A27, n28, c29), x6, ((IntKind.wrap .i64 (x7 + 1))), ()) w30)
  (jnC C4 ((x0.1, x0.2.1, x0.2.2), (x3.1, x3.2), (x5.1, x5.2.1, x5.2.2), x6, ((IntKind.wrap .i64 (x7 + 1))), ()) w.drew)
def F95.k9 (Q : Value → World → Prop) (C4 : ((Option Addr × Nat × Nat) × (Nat × Nat) × (Option Addr × Nat × Nat) × Bool × Int × Unit) → World → Prop) : ((Option Addr × Nat × Nat) × (Nat × Nat) × (Option Addr × Nat × Nat) × Bool × Int × Unit) → World → Prop := fun s w => ∀ _ : Nat → Value, F95.k9c Q C4 s.1 s.2.1 s.2.2.1 s.2.2.2.1 s.2.2.2.2.1 w
def F95.k7c (Q : Value → World → Prop) (C4 : ((Option Addr × Nat × Nat) × (Nat × Nat) × (Option Addr × Nat × Nat) × Bool × Int × Unit) → World → Prop) (x0 : (Option Addr × Nat × Nat)) (x3 : (Nat × Nat)) (x5 : (Option Addr × Nat × Nat)) (x6 : Bool) (x7 : Int) (x26 : Bool) (w : World) : Prop :=
  vIf x26
  (ldA 38 w x3.1 x3.2 fun a10 =>
    gd (a10.length == 38) <|
    nw w (a10 ++ []) 48 fun b11 w12 =>
    app w12 38 96 Z48 48 x5.1 x5.2.1 x5.2.2 (Value.slice (some ⟨b11, 0, none⟩) 1 1) fun A13 n14 c15 w16 =>
    jnC (F95.k9 Q C4) ((x0.1, x0.2.1, x0.2.2), (x3.1, x3.2), (A13, n14, c15), true, (x7), ()) w16)
  (jnC (F95.k9 Q C4) ((x0.1, x0.2.1, x0.2.2), (x3.1, x3.2), (x5.1, x5.2.1, x5.2.2), x6, (x7), ()) w)
def F95.k7 (Q : Value → World → Prop) (C4 : ((Option Addr × Nat × Nat) × (Nat × Nat) × (Option Addr × Nat × Nat) × Bool × Int × Unit) → World → Prop) : ((Option Addr × Nat × Nat) × (Nat × Nat) × (Option Addr × Nat × Nat) × Bool × Int × Bool × Unit) → World → Prop := fun s w => ∀ _ : Nat → Value, F95.k7c Q C4 s.1 s.2.1 s.2.2.1 s.2.2.2.1 s.2.2.2.2.1 s.2.2.2.2.2.1 w
def F95.b4c (Q : Value → World → Prop) (C4 : ((Option Addr × Nat × Nat) × (Nat × Nat) × (Option Addr × Nat × Nat) × Bool × Int × Unit) → World → Prop) (x0 : (Option Addr × Nat × Nat)) (x3 : (Nat × Nat)) (x5 : (Option Addr × Nat × Nat)) (x6 : Bool) (x7 : Int) (w : World) : Prop :=
  vIf (decide (x7 < ((x0.2.1 : Nat) : Int)))
  (vIf (!x6)
    (dr x0.1 fun b3 o4 =>
      gd (decide (0 ≤ x7)) <|
      gd (decide (x7 < ((x0.2.1 : Nat) : Int))) <|
      ldA 32 w.drew b3 (o4 + (x7).toNat * 38) fun a5 =>
      ldA 32 w.drew x3.1 x3.2 fun a6 =>
      Calls Tryz.prog 123 #[ofL a5, ofL a6] w.drew fun e8 w7 =>
      ∃ t9 : Bool, e8 = .returned (Value.bool t9) ∧ (
        jnC (F95.k7 Q C4) ((x0.1, x0.2.1, x0.2.2), (x3.1, x3.2), (x5.1, x5.2.1, x5.2.2), x6, (x7), (!t9), ()) w7))
    (jnC (F95.k7 Q C4) ((x0.1, x0.2.1, x0.2.2), (x3.1, x3.2), (x5.1, x5.2.1, x5.2.2), x6, (x7), false, ()) w.drew))
  (vIf (!x6)
    (ldA 38 w x3.1 x3.2 fun a31 =>
      gd (a31.length == 38) <|
      nw w (a31 ++ []) 48 fun b32 w33 =>
      app w33 38 96 Z48 48 x5.1 x5.2.1 x5.2.2 (Value.slice (some ⟨b32, 0, none⟩) 1 1) fun A34 n35 c36 w37 =>
      Q (Value.slice A34 n35 c36) w37)
    (Q (Value.slice x5.1 x5.2.1 x5.2.2) w))
def F95.b4 (Q : Value → World → Prop) : ((Option Addr × Nat × Nat) × (Nat × Nat) × (Option Addr × Nat × Nat) × Bool × Int × Unit) → World → (((Option Addr × Nat × Nat) × (Nat × Nat) × (Option Addr × Nat × Nat) × Bool × Int × Unit) → World → Prop) → Prop := fun s w C4 => ∀ _ : Nat → Value, F95.b4c Q C4 s.1 s.2.1 s.2.2.1 s.2.2.2.1 s.2.2.2.2.1 w
def F95.l4 (Q : Value → World → Prop) : ((Option Addr × Nat × Nat) × (Nat × Nat) × (Option Addr × Nat × Nat) × Bool × Int × Unit) → World → Prop := fun s w => ∃ n, loopC (F95.b4 Q) n s w
def F95.vc (x0A : Option Addr) (x0n x0c : Nat) (x1 : List Value) (w : World) (Q : Value → World → Prop) : Prop :=
  nw w x1 48 fun b1 w2 =>
  jnC (F95.l4 Q) ((x0A, x0n, x0c), (b1, 0), (none, 0, 0), false, (0), ()) w2
def F95.an : Ann := ⟨[(4, [(0, .kSl), (3, .kL), (5, .kSl), (6, .kB), (7, .kI .i64)])], [(7, [(0, .kSl), (3, .kL), (5, .kSl), (6, .kB), (7, .kI .i64), (26, .kB)]), (9, [(0, .kSl), (3, .kL), (5, .kSl), (6, .kB), (7, .kI .i64)])]⟩
theorem F95.of (x0A : Option Addr) (x0n x0c : Nat) (x1 : List Value) (w : World) {Q : Value → World → Prop} (h : F95.vc x0A x0n x0c x1 w Q) : Calls Tryz.prog 95 #[Value.slice x0A x0n x0c, ofL x1] w (fun e w' => ∃ v, e = .returned v ∧ Q v w') := vcFn_of (A := F95.an) noCount mixed h (by kernel_rfl)
/-! ### function 96: stillage/stillageref21.Set -/
def F96.k9c (Q : Value → World → Prop) (C4 : ((Option Addr × Nat × Nat) × (Nat × Nat) × (Option Addr × Nat × Nat) × Bool × Int × Unit) → World → Prop) (x0 : (Option Addr × Nat × Nat)) (x3 : (Nat × Nat)) (x5 : (Option Addr × Nat × Nat)) (x6 : Bool) (x7 : Int) (w : World) : Prop :=
  dr x0.1 fun b14 o15 =>
  gd (decide (0 ≤ x7)) <|
  gd (decide (x7 < ((x0.2.1 : Nat) : Int))) <|
  ldS w.drew b14 (o15 + (x7).toNat * 38) fun s16 =>
  ldS w.drew x3.1 x3.2 fun s17 =>
  vIf (!(s16.toList == s17.toList))
  (dr x0.1 fun b18 o19 =>
    gd (decide (0 ≤ x7)) <|
    gd (decide (x7 < ((x0.2.1 : Nat) : Int))) <|
    ldA 38 w.drew b18 (o19 + (x7).toNat * 38) fun a20 =>
    gd (a20.length == 38) <|
    nw w.drew (a20 ++ []) 53 fun b21 w22 =>
    app w22 38 104 Z53 53 x5.1 x5.2.1 x5.2.2 (Value.slice (some ⟨b21, 0, none⟩) 1 1) fun A23 n24 c25 w26 =>
    jnC C4 ((x0.1, x0.2.1, x0.2.2), (x3.1, x3.2), (A23, n24, c25), x6, ((IntKind.wrap .i64 (x7 + 1))), ()) w26)
  (jnC C4 ((x0.1, x0.2.1, x0.2.2), (x3.1, x3.2), (x5.1, x5.2.1, x5.2.2), x6, ((IntKind.wrap .i64 (x7 + 1))), ()) w.drew)
def F96.k9 (Q : Value → World → Prop) (C4 : ((Option Addr × Nat × Nat) × (Nat × Nat) × (Option Addr × Nat × Nat) × Bool × Int × Unit) → World → Prop) : ((Option Addr × Nat × Nat) × (Nat × Nat) × (Option Addr × Nat × Nat) × Bool × Int × Unit) → World → Prop := fun s w => ∀ _ : Nat → Value, F96.k9c Q C4 s.1 s.2.1 s.2.2.1 s.2.2.2.1 s.2.2.2.2.1 w
def F96.k7c (Q : Value → World → Prop) (C4 : ((Option Addr × Nat × Nat) × (Nat × Nat) × (Option Addr × Nat × Nat) × Bool × Int × Unit) → World → Prop) (x0 : (Option Addr × Nat × Nat)) (x3 : (Nat × Nat)) (x5 : (Option Addr × Nat × Nat)) (x6 : Bool) (x7 : Int) (x25 : Bool) (w : World) : Prop :=
  vIf x25
  (ldA 38 w x3.1 x3.2 fun a7 =>
    gd (a7.length == 38) <|
    nw w (a7 ++ []) 53 fun b8 w9 =>
    app w9 38 104 Z53 53 x5.1 x5.2.1 x5.2.2 (Value.slice (some ⟨b8, 0, none⟩) 1 1) fun A10 n11 c12 w13 =>
    jnC (F96.k9 Q C4) ((x0.1, x0.2.1, x0.2.2), (x3.1, x3.2), (A10, n11, c12), true, (x7), ()) w13)
  (jnC (F96.k9 Q C4) ((x0.1, x0.2.1, x0.2.2), (x3.1, x3.2), (x5.1, x5.2.1, x5.2.2), x6, (x7), ()) w)
def F96.k7 (Q : Value → World → Prop) (C4 : ((Option Addr × Nat × Nat) × (Nat × Nat) × (Option Addr × Nat × Nat) × Bool × Int × Unit) → World → Prop) : ((Option Addr × Nat × Nat) × (Nat × Nat) × (Option Addr × Nat × Nat) × Bool × Int × Bool × Unit) → World → Prop := fun s w => ∀ _ : Nat → Value, F96.k7c Q C4 s.1 s.2.1 s.2.2.1 s.2.2.2.1 s.2.2.2.2.1 s.2.2.2.2.2.1 w
def F96.b4c (Q : Value → World → Prop) (C4 : ((Option Addr × Nat × Nat) × (Nat × Nat) × (Option Addr × Nat × Nat) × Bool × Int × Unit) → World → Prop) (x0 : (Option Addr × Nat × Nat)) (x3 : (Nat × Nat)) (x5 : (Option Addr × Nat × Nat)) (x6 : Bool) (x7 : Int) (w : World) : Prop :=
  vIf (decide (x7 < ((x0.2.1 : Nat) : Int)))
  (vIf (!x6)
    (dr x0.1 fun b3 o4 =>
      gd (decide (0 ≤ x7)) <|
      gd (decide (x7 < ((x0.2.1 : Nat) : Int))) <|
      ldS w.drew b3 (o4 + (x7).toNat * 38) fun s5 =>
      ldS w.drew x3.1 x3.2 fun s6 =>
      jnC (F96.k7 Q C4) ((x0.1, x0.2.1, x0.2.2), (x3.1, x3.2), (x5.1, x5.2.1, x5.2.2), x6, (x7), (!(Op.bytesLess s5.toList s6.toList)), ()) w.drew)
    (jnC (F96.k7 Q C4) ((x0.1, x0.2.1, x0.2.2), (x3.1, x3.2), (x5.1, x5.2.1, x5.2.2), x6, (x7), false, ()) w.drew))
  (vIf (!x6)
    (ldA 38 w x3.1 x3.2 fun a27 =>
      gd (a27.length == 38) <|
      nw w (a27 ++ []) 53 fun b28 w29 =>
      app w29 38 104 Z53 53 x5.1 x5.2.1 x5.2.2 (Value.slice (some ⟨b28, 0, none⟩) 1 1) fun A30 n31 c32 w33 =>
      Q (Value.slice A30 n31 c32) w33)
    (Q (Value.slice x5.1 x5.2.1 x5.2.2) w))
def F96.b4 (Q : Value → World → Prop) : ((Option Addr × Nat × Nat) × (Nat × Nat) × (Option Addr × Nat × Nat) × Bool × Int × Unit) → World → (((Option Addr × Nat × Nat) × (Nat × Nat) × (Option Addr × Nat × Nat) × Bool × Int × Unit) → World → Prop) → Prop := fun s w C4 => ∀ _ : Nat → Value, F96.b4c Q C4 s.1 s.2.1 s.2.2.1 s.2.2.2.1 s.2.2.2.2.1 w
def F96.l4 (Q : Value → World → Prop) : ((Option Addr × Nat × Nat) × (Nat × Nat) × (Option Addr × Nat × Nat) × Bool × Int × Unit) → World → Prop := fun s w => ∃ n, loopC (F96.b4 Q) n s w
def F96.vc (x0A : Option Addr) (x0n x0c : Nat) (x1 : List Value) (w : World) (Q : Value → World → Prop) : Prop :=
  nw w x1 53 fun b1 w2 =>
  jnC (F96.l4 Q) ((x0A, x0n, x0c), (b1, 0), (none, 0, 0), false, (0), ()) w2
def F96.an : Ann := ⟨[(4, [(0, .kSl), (3, .kL), (5, .kSl), (6, .kB), (7, .kI .i64)])], [(7, [(0, .kSl), (3, .kL), (5, .kSl), (6, .kB), (7, .kI .i64), (25, .kB)]), (9, [(0, .kSl), (3, .kL), (5, .kSl), (6, .kB), (7, .kI .i64)])]⟩
theorem F96.of (x0A : Option Addr) (x0n x0c : Nat) (x1 : List Value) (w : World) {Q : Value → World → Prop} (h : F96.vc x0A x0n x0c x1 w Q) : Calls Tryz.prog 96 #[Value.slice x0A x0n x0c, ofL x1] w (fun e w' => ∃ v, e = .returned v ∧ Q v w') := vcFn_of (A := F96.an) noCount mixed h (by kernel_rfl)
/-! ### function 97: (*stillage/tags.Tags).place -/
def F97.vc (x0 : Option Addr) (x1 : ByteArray) (w : World) (Q : Value → World → Prop) : Prop :=
  dr x0 fun b1 o2 =>
  ldSl w b1 o2 fun A3 n4 c5 =>
  Calls Tryz.prog 124 #[Value.slice A3 n4 c5, Value.string x1, Value.func (.func 125) #[] #[]] w fun e7 w6 =>
  ∃ i8 : Int, ∃ t9 : Bool, e7 = .returned (Value.tuple #[Value.int .i64 i8, Value.bool t9]) ∧ (
    Q (Value.tuple #[Value.int .i64 i8, Value.bool t9]) w6)
def F97.an : Ann := ⟨[], []⟩
theorem F97.of (x0 : Option Addr) (x1 : ByteArray) (w : World) {Q : Value → World → Prop} (h : F97.vc x0 x1 w Q) : Calls Tryz.prog 97 #[Value.pointer x0, Value.string x1] w (fun e w' => ∃ v, e = .returned v ∧ Q v w') := vcFn_of (A := F97.an) noCount mixed h (by kernel_rfl)
/-! ### function 99: stillage/stillageref19.Put -/
def F99.vc (x0 : List Value) (x1 : List Value) (w : World) (Q : Value → World → Prop) : Prop :=
  nw w x0 48 fun b1 w2 =>
  nw w2 x1 37 fun b3 w4 =>
  nw w4 Z48 48 fun b5 w6 =>
  ldA 32 w6.drew b3 (0 + 2) fun a7 =>
  ldI .i64 w6.drew b3 0 fun i8 =>
  ldI .i64 w6.drew b3 (0 + 35) fun i9 =>
  ldA 3 w6.drew b3 (0 + 36) fun a10 =>
  ldSl w6.drew b1 (0 + 37) fun A11 n12 c13 =>
  ldI .i64 w6.drew b3 (0 + 36) fun i14 =>
  Calls Tryz.prog 130 #[Value.slice A11 n12 c13] w6.drew fun e16 w15 =>
  ∃ (A17 : Option Addr) (n18 c19 : Nat), e16 = .returned (Value.slice A17 n18 c19) ∧ (
    kp w6.drew b3 (0 + 36) 1 w15 <|
    kp w6.drew b3 (0 + 36) 3 w15 <|
    kp w6.drew b3 (0 + 35) 1 w15 <|
    kp w6.drew b3 0 1 w15 <|
    kp w6.drew b3 (0 + 2) 32 w15 <|
    Calls Tryz.prog 129 #[Value.slice A17 n18 c19, Value.int .i64 i14] w15 fun e21 w20 =>
    ∃ (A22 : Option Addr) (n23 c24 : Nat), e21 = .returned (Value.slice A22 n23 c24) ∧ (
      kp w6.drew b3 (0 + 36) 3 w20 <|
      kp w6.drew b3 (0 + 35) 1 w20 <|
      kp w6.drew b3 0 1 w20 <|
      kp w6.drew b3 (0 + 2) 32 w20 <|
      gd (a7.length == 32) <|
      gd (a10.length == 3) <|
      gd ((a7 ++ ([Value.int .i64 i8] ++ ([Value.int .i64 i9] ++ (a10 ++ ([Value.slice A22 n23 c24] ++ []))))).length == 38) <|
      st w20 b5 0 (a7 ++ ([Value.int .i64 i8] ++ ([Value.int .i64 i9] ++ (a10 ++ ([Value.slice A22 n23 c24] ++ []))))) fun w25 =>
      ldA 38 w25 b5 0 fun a26 =>
      Q (ofL a26) w25))
def F99.an : Ann := ⟨[], []⟩
theorem F99.of (x0 : List Value) (x1 : List Value) (w : World) {Q : Value → World → Prop} (h : F99.vc x0 x1 w Q) : Calls Tryz.prog 99 #[ofL x0, ofL x1] w (fun e w' => ∃ v, e = .returned v ∧ Q v w') := vcFn_of (A := F99.an) noCount mixed h (by kernel_rfl)
/-! ### function 100: stillage/stillageref19.Delete -/
def F100.vc (x0 : List Value) (x1 : List Value) (w : World) (Q : Value → World → Prop) : Prop :=
  nw w x0 48 fun b1 w2 =>
  nw w2 x1 37 fun b3 w4 =>
  nw w4 Z48 48 fun b5 w6 =>
  ldA 32 w6.drew b1 0 fun a7 =>
  ldA 3 w6.drew b3 (0 + 36) fun a8 =>
  ldSl w6.drew b1 (0 + 37) fun A9 n10 c11 =>
  Calls Tryz.prog 130 #[Value.slice A9 n10 c11] w6.drew fun e13 w12 =>
  ∃ (A14 : Option Addr) (n15 c16 : Nat), e13 = .returned (Value.slice A14 n15 c16) ∧ (
    kp w6.drew b3 (0 + 36) 3 w12 <|
    kp w6.drew b1 0 32 w12 <|
    gd (a7.length == 32) <|
    gd (a8.length == 3) <|
    gd ((a7 ++ ([Value.int .i64 5] ++ ([Value.int .i64 0] ++ (a8 ++ ([Value.slice A14 n15 c16] ++ []))))).length == 38) <|
    st w12 b5 0 (a7 ++ ([Value.int .i64 5] ++ ([Value.int .i64 0] ++ (a8 ++ ([Value.slice A14 n15 c16] ++ []))))) fun w17 =>
    ldA 38 w17 b5 0 fun a18 =>
    Q (ofL a18) w17)
def F100.an : Ann := ⟨[], []⟩
theorem F100.of (x0 : List Value) (x1 : List Value) (w : World) {Q : Value → World → Prop} (h : F100.vc x0 x1 w Q) : Calls Tryz.prog 100 #[ofL x0, ofL x1] w (fun e w' => ∃ v, e = .returned v ∧ Q v w') := vcFn_of (A := F100.an) noCount mixed h (by kernel_rfl)
end Go.Proofs.YthcclmlbkfadcaaGreat
/- PRINTED BY MY OWN gen.py out of the translation: each function as a proposition. -/
namespace Go.Proofs.YthcclmlbkfadcaaGreat
open Go.GV
set_option linter.unusedVariables false
set_option maxRecDepth 100000
/-! ### function 101: stillage/stillageref19.Tag -/
def F101.vc (x0 : List Value) (x1 : List Value) (w : World) (Q : Value → World → Prop) : Prop :=
  nw w x0 53 fun b1 w2 =>
  nw w2 x1 37 fun b3 w4 =>
  nw w4 Z53 53 fun b5 w6 =>
  ldS w6.drew b3 (0 + 34) fun s7 =>
  ldA 32 w6.drew b3 (0 + 2) fun a8 =>
  ldA 3 w6.drew b3 (0 + 36) fun a9 =>
  ldSl w6.drew b1 (0 + 37) fun A10 n11 c12 =>
  ldI .i64 w6.drew b3 (0 + 36) fun i13 =>
  Calls Tryz.prog 130 #[Value.slice A10 n11 c12] w6.drew fun e15 w14 =>
  ∃ (A16 : Option Addr) (n17 c18 : Nat), e15 = .returned (Value.slice A16 n17 c18) ∧ (
    kp w6.drew b3 (0 + 36) 1 w14 <|
    kp w6.drew b3 (0 + 36) 3 w14 <|
    kp w6.drew b3 (0 + 2) 32 w14 <|
    kp w6.drew b3 (0 + 34) 1 w14 <|
    Calls Tryz.prog 129 #[Value.slice A16 n17 c18, Value.int .i64 i13] w14 fun e20 w19 =>
    ∃ (A21 : Option Addr) (n22 c23 : Nat), e20 = .returned (Value.slice A21 n22 c23) ∧ (
      kp w6.drew b3 (0 + 36) 3 w19 <|
      kp w6.drew b3 (0 + 2) 32 w19 <|
      kp w6.drew b3 (0 + 34) 1 w19 <|
      gd (a8.length == 32) <|
      gd (a9.length == 3) <|
      gd (([Value.string s7] ++ (a8 ++ ([Value.bool false] ++ (a9 ++ ([Value.slice A21 n22 c23] ++ []))))).length == 38) <|
      st w19 b5 0 ([Value.string s7] ++ (a8 ++ ([Value.bool false] ++ (a9 ++ ([Value.slice A21 n22 c23] ++ []))))) fun w24 =>
      ldA 38 w24 b5 0 fun a25 =>
      Q (ofL a25) w24))
def F101.an : Ann := ⟨[], []⟩
theorem F101.of (x0 : List Value) (x1 : List Value) (w : World) {Q : Value → World → Prop} (h : F101.vc x0 x1 w Q) : Calls Tryz.prog 101 #[ofL x0, ofL x1] w (fun e w' => ∃ v, e = .returned v ∧ Q v w') := vcFn_of (A := F101.an) noCount mixed h (by kernel_rfl)
/-! ### function 102: stillage/stillageref19.Untag -/
def F102.vc (x0 : List Value) (x1 : List Value) (w : World) (Q : Value → World → Prop) : Prop :=
  nw w x0 53 fun b1 w2 =>
  nw w2 x1 37 fun b3 w4 =>
  nw w4 Z53 53 fun b5 w6 =>
  ldS w6.drew b1 0 fun s7 =>
  ldA 3 w6.drew b3 (0 + 36) fun a8 =>
  ldSl w6.drew b1 (0 + 37) fun A9 n10 c11 =>
  Calls Tryz.prog 130 #[Value.slice A9 n10 c11] w6.drew fun e13 w12 =>
  ∃ (A14 : Option Addr) (n15 c16 : Nat), e13 = .returned (Value.slice A14 n15 c16) ∧ (
    kp w6.drew b3 (0 + 36) 3 w12 <|
    kp w6.drew b1 0 1 w12 <|
    gd (a8.length == 3) <|
    gd (([Value.string s7] ++ ([Value.int .u8 0, Value.int .u8 0, Value.int .u8 0, Value.int .u8 0, Value.int .u8 0, Value.int .u8 0, Value.int .u8 0, Value.int .u8 0, Value.int .u8 0, Value.int .u8 0, Value.int .u8 0, Value.int .u8 0, Value.int .u8 0, Value.int .u8 0, Value.int .u8 0, Value.int .u8 0, Value.int .u8 0, Value.int .u8 0, Value.int .u8 0, Value.int .u8 0, Value.int .u8 0, Value.int .u8 0, Value.int .u8 0, Value.int .u8 0, Value.int .u8 0, Value.int .u8 0, Value.int .u8 0, Value.int .u8 0, Value.int .u8 0, Value.int .u8 0, Value.int .u8 0, Value.int .u8 0] ++ ([Value.bool true] ++ (a8 ++ ([Value.slice A14 n15 c16] ++ []))))).length == 38) <|
    st w12 b5 0 ([Value.string s7] ++ ([Value.int .u8 0, Value.int .u8 0, Value.int .u8 0, Value.int .u8 0, Value.int .u8 0, Value.int .u8 0, Value.int .u8 0, Value.int .u8 0, Value.int .u8 0, Value.int .u8 0, Value.int .u8 0, Value.int .u8 0, Value.int .u8 0, Value.int .u8 0, Value.int .u8 0, Value.int .u8 0, Value.int .u8 0, Value.int .u8 0, Value.int .u8 0, Value.int .u8 0, Value.int .u8 0, Value.int .u8 0, Value.int .u8 0, Value.int .u8 0, Value.int .u8 0, Value.int .u8 0, Value.int .u8 0, Value.int .u8 0, Value.int .u8 0, Value.int .u8 0, Value.int .u8 0, Value.int .u8 0] ++ ([Value.bool true] ++ (a8 ++ ([Value.slice A14 n15 c16] ++ []))))) fun w17 =>
    ldA 38 w17 b5 0 fun a18 =>
    Q (ofL a18) w17)
def F102.an : Ann := ⟨[], []⟩
theorem F102.of (x0 : List Value) (x1 : List Value) (w : World) {Q : Value → World → Prop} (h : F102.vc x0 x1 w Q) : Calls Tryz.prog 102 #[ofL x0, ofL x1] w (fun e w' => ∃ v, e = .returned v ∧ Q v w') := vcFn_of (A := F102.an) noCount mixed h (by kernel_rfl)
/-! ### function 103: stillage/entry.Keep -/
def F103.k6c (Q : Value → World → Prop) (x2 : (Nat × Nat)) (x4 : (Nat × Nat)) (x6 : (Option Addr × Nat × Nat)) (w : World) : Prop :=
  st w x2.1 (x2.2 + 37) [Value.slice x6.1 x6.2.1 x6.2.2] fun w22 =>
  ldA 38 w22 x2.1 x2.2 fun a23 =>
  gd (a23.length == 38) <|
  st w22 x4.1 x4.2 a23 fun w24 =>
  ldA 38 w24 x4.1 x4.2 fun a25 =>
  Q (Value.tuple #[ofL a25, Value.bool true]) w24
def F103.k6 (Q : Value → World → Prop) : ((Nat × Nat) × (Nat × Nat) × (Option Addr × Nat × Nat) × Unit) → World → Prop := fun s w => ∀ _ : Nat → Value, F103.k6c Q s.1 s.2.1 s.2.2.1 w
def F103.k3c (Q : Value → World → Prop) (x2 : (Nat × Nat)) (x4 : (Nat × Nat)) (x6 : (Option Addr × Nat × Nat)) (x7 : Bool) (x17 : Bool) (w : World) : Prop :=
  vIf x17
  (gd (([Value.int .u8 0, Value.int .u8 0, Value.int .u8 0, Value.int .u8 0, Value.int .u8 0, Value.int .u8 0, Value.int .u8 0, Value.int .u8 0, Value.int .u8 0, Value.int .u8 0, Value.int .u8 0, Value.int .u8 0, Value.int .u8 0, Value.int .u8 0, Value.int .u8 0, Value.int .u8 0, Value.int .u8 0, Value.int .u8 0, Value.int .u8 0, Value.int .u8 0, Value.int .u8 0, Value.int .u8 0, Value.int .u8 0, Value.int .u8 0, Value.int .u8 0, Value.int .u8 0, Value.int .u8 0, Value.int .u8 0, Value.int .u8 0, Value.int .u8 0, Value.int .u8 0, Value.int .u8 0] ++ ([Value.int .i64 0] ++ ([Value.int .i64 0] ++ ([Value.int .i64 0, Value.int .i64 0, Value.int .i64 0] ++ ([Value.slice none 0 0] ++ []))))).length == 38) <|
    st w x4.1 x4.2 ([Value.int .u8 0, Value.int .u8 0, Value.int .u8 0, Value.int .u8 0, Value.int .u8 0, Value.int .u8 0, Value.int .u8 0, Value.int .u8 0, Value.int .u8 0, Value.int .u8 0, Value.int .u8 0, Value.int .u8 0, Value.int .u8 0, Value.int .u8 0, Value.int .u8 0, Value.int .u8 0, Value.int .u8 0, Value.int .u8 0, Value.int .u8 0, Value.int .u8 0, Value.int .u8 0, Value.int .u8 0, Value.int .u8 0, Value.int .u8 0, Value.int .u8 0, Value.int .u8 0, Value.int .u8 0, Value.int .u8 0, Value.int .u8 0, Value.int .u8 0, Value.int .u8 0, Value.int .u8 0] ++ ([Value.int .i64 0] ++ ([Value.int .i64 0] ++ ([Value.int .i64 0, Value.int .i64 0, Value.int .i64 0] ++ ([Value.slice none 0 0] ++ []))))) fun w17 =>
    ldA 38 w17 x4.1 x4.2 fun a18 =>
    Q (Value.tuple #[ofL a18, Value.bool false]) w17)
  (vIf (!x7)
    (ldA 32 w x2.1 x2.2 fun a19 =>
      gd (a19.length == 32) <|
      gd ((a19 ++ ([Value.int .i64 5] ++ ([Value.int .i64 0] ++ ([Value.int .i64 0, Value.int .i64 0, Value.int .i64 0] ++ ([Value.slice x6.1 x6.2.1 x6.2.2] ++ []))))).length == 38) <|
      st w x4.1 x4.2 (a19 ++ ([Value.int .i64 5] ++ ([Value.int .i64 0] ++ ([Value.int .i64 0, Value.int .i64 0, Value.int .i64 0] ++ ([Value.slice x6.1 x6.2.1 x6.2.2] ++ []))))) fun w20 =>
      ldA 38 w20 x4.1 x4.2 fun a21 =>
      Q (Value.tuple #[ofL a21, Value.bool true]) w20)
    (jnC (F103.k6 Q) ((x2.1, x2.2), (x4.1, x4.2), (x6.1, x6.2.1, x6.2.2), ()) w))
def F103.k3 (Q : Value → World → Prop) : ((Nat × Nat) × (Nat × Nat) × (Option Addr × Nat × Nat) × Bool × Bool × Unit) → World → Prop := fun s w => ∀ _ : Nat → Value, F103.k3c Q s.1 s.2.1 s.2.2.1 s.2.2.2.1 s.2.2.2.2.1 w
def F103.vc (x0 : List Value) (x1A : Option Addr) (x1n x1c : Nat) (w : World) (Q : Value → World → Prop) : Prop :=
  nw w x0 48 fun b1 w2 =>
  nw w2 Z48 48 fun b3 w4 =>
  ldSl w4.drew b1 (0 + 37) fun A5 n6 c7 =>
  ldI .i64 w4.drew b1 (0 + 34) fun i8 =>
  Calls Tryz.prog 131 #[Value.slice A5 n6 c7, Value.slice x1A x1n x1c] w4.drew fun e10 w9 =>
  ∃ (A11 : Option Addr) (n12 c13 : Nat), e10 = .returned (Value.slice A11 n12 c13) ∧ (
    kp w4.drew b1 (0 + 34) 1 w9 <|
    Calls Tryz.prog 71 #[Value.slice x1A x1n x1c, Value.int .i64 i8] w9 fun e15 w14 =>
    ∃ t16 : Bool, e15 = .returned (Value.bool t16) ∧ (
      vIf (((n12 : Nat) : Int) == 0)
      (vIf (!t16)
        (jnC (F103.k3 Q) ((b1, 0), (b3, 0), (A11, n12, c13), t16, true, ()) w14)
        (ldI .i64 w14 b1 (0 + 32) fun i26 =>
          jnC (F103.k3 Q) ((b1, 0), (b3, 0), (A11, n12, c13), t16, (i26 == 5), ()) w14))
      (jnC (F103.k3 Q) ((b1, 0), (b3, 0), (A11, n12, c13), t16, false, ()) w14)))
def F103.an : Ann := ⟨[], [(3, [(2, .kL), (4, .kL), (6, .kSl), (7, .kB), (17, .kB)]), (6, [(2, .kL), (4, .kL), (6, .kSl)])]⟩
theorem F103.of (x0 : List Value) (x1A : Option Addr) (x1n x1c : Nat) (w : World) {Q : Value → World → Prop} (h : F103.vc x0 x1A x1n x1c w Q) : Calls Tryz.prog 103 #[ofL x0, Value.slice x1A x1n x1c] w (fun e w' => ∃ v, e = .returned v ∧ Q v w') := vcFn_of (A := F103.an) noCount mixed h (by kernel_rfl)
/-! ### function 104: (*stillage/slots.Table[stillage/api.Entry]).Cut -/
def F104.b8c (Q : Value → World → Prop) (C8 : (Option Addr × Int × Int × Int × Unit) → World → Prop) (x0 : Option Addr) (x5 : Int) (x7 : Int) (x8 : Int) (w : World) : Prop :=
  dr x0 fun b13 o14 =>
  ldSl w b13 o14 fun A15 n16 c17 =>
  dr A15 fun b18 o19 =>
  gd (decide (0 ≤ x8)) <|
  gd (decide (x8 < ((n16 : Nat) : Int))) <|
  ldB w b18 (o19 + (x8).toNat * 71) fun t20 =>
  vIf t20
  (Calls Tryz.prog 132 #[Value.pointer x0, Value.int .i64 x5, Value.int .i64 x8] w fun e22 w21 =>
    ∃ t23 : Bool, e22 = .returned (Value.bool t23) ∧ (
      vIf (!t23)
      (dr x0 fun b24 o25 =>
        ldSl w21.drew b24 o25 fun A26 n27 c28 =>
        dr x0 fun b29 o30 =>
        ldSl w21.drew b29 o30 fun A31 n32 c33 =>
        dr A31 fun b34 o35 =>
        gd (decide (0 ≤ x8)) <|
        gd (decide (x8 < ((n32 : Nat) : Int))) <|
        ldA 71 w21.drew b34 (o35 + (x8).toNat * 71) fun a36 =>
        dr A26 fun b37 o38 =>
        gd (decide (0 ≤ x5)) <|
        gd (decide (x5 < ((n27 : Nat) : Int))) <|
        gd (a36.length == 71) <|
        st w21.drew b37 (o38 + (x5).toNat * 71) a36 fun w39 =>
        gd (decide (x7 ≠ 0)) <|
        jnC C8 (x0, (x8), (x7), ((Int.tmod (IntKind.wrap .i64 (x8 + 1)) x7)), ()) w39)
      (gd (decide (x7 ≠ 0)) <|
        jnC C8 (x0, (x5), (x7), ((Int.tmod (IntKind.wrap .i64 (x8 + 1)) x7)), ()) w21)))
  (dr x0 fun b40 o41 =>
    ldSl w b40 o41 fun A42 n43 c44 =>
    dr A42 fun b45 o46 =>
    gd (decide (0 ≤ x5)) <|
    gd (decide (x5 < ((n43 : Nat) : Int))) <|
    gd (([Value.bool false] ++ ([Value.int .u8 0, Value.int .u8 0, Value.int .u8 0, Value.int .u8 0, Value.int .u8 0, Value.int .u8 0, Value.int .u8 0, Value.int .u8 0, Value.int .u8 0, Value.int .u8 0, Value.int .u8 0, Value.int .u8 0, Value.int .u8 0, Value.int .u8 0, Value.int .u8 0, Value.int .u8 0, Value.int .u8 0, Value.int .u8 0, Value.int .u8 0, Value.int .u8 0, Value.int .u8 0, Value.int .u8 0, Value.int .u8 0, Value.int .u8 0, Value.int .u8 0, Value.int .u8 0, Value.int .u8 0, Value.int .u8 0, Value.int .u8 0, Value.int .u8 0, Value.int .u8 0, Value.int .u8 0] ++ ([Value.int .u8 0, Value.int .u8 0, Value.int .u8 0, Value.int .u8 0, Value.int .u8 0, Value.int .u8 0, Value.int .u8 0, Value.int .u8 0, Value.int .u8 0, Value.int .u8 0, Value.int .u8 0, Value.int .u8 0, Value.int .u8 0, Value.int .u8 0, Value.int .u8 0, Value.int .u8 0, Value.int .u8 0, Value.int .u8 0, Value.int .u8 0, Value.int .u8 0, Value.int .u8 0, Value.int .u8 0, Value.int .u8 0, Value.int .u8 0, Value.int .u8 0, Value.int .u8 0, Value.int .u8 0, Value.int .u8 0, Value.int .u8 0, Value.int .u8 0, Value.int .u8 0, Value.int .u8 0, Value.int .i64 0, Value.int .i64 0, Value.int .i64 0, Value.int .i64 0, Value.int .i64 0, Value.slice none 0 0] ++ []))).length == 71) <|
    st w b45 (o46 + (x5).toNat * 71) ([Value.bool false] ++ ([Value.int .u8 0, Value.int .u8 0, Value.int .u8 0, Value.int .u8 0, Value.int .u8 0, Value.int .u8 0, Value.int .u8 0, Value.int .u8 0, Value.int .u8 0, Value.int .u8 0, Value.int .u8 0, Value.int .u8 0, Value.int .u8 0, Value.int .u8 0, Value.int .u8 0, Value.int .u8 0, Value.int .u8 0, Value.int .u8 0, Value.int .u8 0, Value.int .u8 0, Value.int .u8 0, Value.int .u8 0, Value.int .u8 0, Value.int .u8 0, Value.int .u8 0, Value.int .u8 0, Value.int .u8 0, Value.int .u8 0, Value.int .u8 0, Value.int .u8 0, Value.int .u8 0, Value.int .u8 0] ++ ([Value.int .u8 0, Value.int .u8 0, Value.int .u8 0, Value.int .u8 0, Value.int .u8 0, Value.int .u8 0, Value.int .u8 0, Value.int .u8 0, Value.int .u8 0, Value.int .u8 0, Value.int .u8 0, Value.int .u8 0, Value.int .u8 0, Value.int .u8 0, Value.int .u8 0, Value.int .u8 0, Value.int .u8 0, Value.int .u8 0, Value.int .u8 0, Value.int .u8 0, Value.int .u8 0, Value.int .u8 0, Value.int .u8 0, Value.int .u8 0, Value.int .u8 0, Value.int .u8 0, Value.int .u8 0, Value.int .u8 0, Value.int .u8 0, Value.int .u8 0, Value.int .u8 0, Value.int .u8 0, Value.int .i64 0, Value.int .i64 0, Value.int .i64 0, Value.int .i64 0, Value.int .i64 0, Value.slice none 0 0] ++ []))) fun w47 =>
    dr x0 fun b48 o49 =>
    ldI .i64 w47 b48 (o49 + 1) fun i50 =>
    dr x0 fun b51 o52 =>
    st w47 b51 (o52 + 1) [Value.int .i64 (IntKind.wrap .i64 (i50 - 1))] fun w53 =>
    Q (Value.bool true) w53)
def F104.b8 (Q : Value → World → Prop) : (Option Addr × Int × Int × Int × Unit) → World → ((Option Addr × Int × Int × Int × Unit) → World → Prop) → Prop := fun s w C8 => ∀ _ : Nat → Value, F104.b8c Q C8 s.1 s.2.1 s.2.2.1 s.2.2.2.1 w
def F104.l8 (Q : Value → World → Prop) : (Option Addr × Int × Int × Int × Unit) → World → Prop := fun s w => ∃ n, loopC (F104.b8 Q) n s w
def F104.vc (x0 : Option Addr) (x1 : List Value) (w : World) (Q : Value → World → Prop) : Prop :=
  nw w x1 33 fun b1 w2 =>
  vIf x0.isNone
  (Q (Value.bool false) w2)
  (ldA 32 w2 b1 0 fun a3 =>
    Calls Tryz.prog 111 #[Value.pointer x0, ofL a3] w2 fun e5 w4 =>
    ∃ i6 : Int, ∃ t7 : Bool, e5 = .returned (Value.tuple #[Value.int .i64 i6, Value.bool t7]) ∧ (
      vIf (!t7)
      (Q (Value.bool false) w4)
      (dr x0 fun b8 o9 =>
        ldSl w4 b8 o9 fun A10 n11 c12 =>
        gd (decide (((n11 : Nat) : Int) ≠ 0)) <|
        jnC (F104.l8 Q) (x0, (i6), (((n11 : Nat) : Int)), ((Int.tmod (IntKind.wrap .i64 (i6 + 1)) ((n11 : Nat) : Int))), ()) w4)))
def F104.an : Ann := ⟨[(8, [(0, .kP), (5, .kI .i64), (7, .kI .i64), (8, .kI .i64)])], []⟩
theorem F104.of (x0 : Option Addr) (x1 : List Value) (w : World) {Q : Value → World → Prop} (h : F104.vc x0 x1 w Q) : Calls Tryz.prog 104 #[Value.pointer x0, ofL x1] w (fun e w' => ∃ v, e = .returned v ∧ Q v w') := vcFn_of (A := F104.an) noCount mixed h (by kernel_rfl)
/-! ### function 105: stillage/entry.KeepTag -/
def F105.k6c (Q : Value → World → Prop) (x2 : (Nat × Nat)) (x4 : (Nat × Nat)) (x6 : (Option Addr × Nat × Nat)) (w : World) : Prop :=
  st w x2.1 (x2.2 + 37) [Value.slice x6.1 x6.2.1 x6.2.2] fun w22 =>
  ldA 38 w22 x2.1 x2.2 fun a23 =>
  gd (a23.length == 38) <|
  st w22 x4.1 x4.2 a23 fun w24 =>
  ldA 38 w24 x4.1 x4.2 fun a25 =>
  Q (Value.tuple #[ofL a25, Value.bool true]) w24
def F105.k6 (Q : Value → World → Prop) : ((Nat × Nat) × (Nat × Nat) × (Option Addr × Nat × Nat) × Unit) → World → Prop := fun s w => ∀ _ : Nat → Value, F105.k6c Q s.1 s.2.1 s.2.2.1 w
def F105.k3c (Q : Value → World → Prop) (x2 : (Nat × Nat)) (x4 : (Nat × Nat)) (x6 : (Option Addr × Nat × Nat)) (x7 : Bool) (x17 : Bool) (w : World) : Prop :=
  vIf x17
  (gd (([Value.string (⟨#[]⟩ : ByteArray)] ++ ([Value.int .u8 0, Value.int .u8 0, Value.int .u8 0, Value.int .u8 0, Value.int .u8 0, Value.int .u8 0, Value.int .u8 0, Value.int .u8 0, Value.int .u8 0, Value.int .u8 0, Value.int .u8 0, Value.int .u8 0, Value.int .u8 0, Value.int .u8 0, Value.int .u8 0, Value.int .u8 0, Value.int .u8 0, Value.int .u8 0, Value.int .u8 0, Value.int .u8 0, Value.int .u8 0, Value.int .u8 0, Value.int .u8 0, Value.int .u8 0, Value.int .u8 0, Value.int .u8 0, Value.int .u8 0, Value.int .u8 0, Value.int .u8 0, Value.int .u8 0, Value.int .u8 0, Value.int .u8 0] ++ ([Value.bool false] ++ ([Value.int .i64 0, Value.int .i64 0, Value.int .i64 0] ++ ([Value.slice none 0 0] ++ []))))).length == 38) <|
    st w x4.1 x4.2 ([Value.string (⟨#[]⟩ : ByteArray)] ++ ([Value.int .u8 0, Value.int .u8 0, Value.int .u8 0, Value.int .u8 0, Value.int .u8 0, Value.int .u8 0, Value.int .u8 0, Value.int .u8 0, Value.int .u8 0, Value.int .u8 0, Value.int .u8 0, Value.int .u8 0, Value.int .u8 0, Value.int .u8 0, Value.int .u8 0, Value.int .u8 0, Value.int .u8 0, Value.int .u8 0, Value.int .u8 0, Value.int .u8 0, Value.int .u8 0, Value.int .u8 0, Value.int .u8 0, Value.int .u8 0, Value.int .u8 0, Value.int .u8 0, Value.int .u8 0, Value.int .u8 0, Value.int .u8 0, Value.int .u8 0, Value.int .u8 0, Value.int .u8 0] ++ ([Value.bool false] ++ ([Value.int .i64 0, Value.int .i64 0, Value.int .i64 0] ++ ([Value.slice none 0 0] ++ []))))) fun w17 =>
    ldA 38 w17 x4.1 x4.2 fun a18 =>
    Q (Value.tuple #[ofL a18, Value.bool false]) w17)
  (vIf (!x7)
    (ldS w x2.1 x2.2 fun s19 =>
      gd (([Value.string s19] ++ ([Value.int .u8 0, Value.int .u8 0, Value.int .u8 0, Value.int .u8 0, Value.int .u8 0, Value.int .u8 0, Value.int .u8 0, Value.int .u8 0, Value.int .u8 0, Value.int .u8 0, Value.int .u8 0, Value.int .u8 0, Value.int .u8 0, Value.int .u8 0, Value.int .u8 0, Value.int .u8 0, Value.int .u8 0, Value.int .u8 0, Value.int .u8 0, Value.int .u8 0, Value.int .u8 0, Value.int .u8 0, Value.int .u8 0, Value.int .u8 0, Value.int .u8 0, Value.int .u8 0, Value.int .u8 0, Value.int .u8 0, Value.int .u8 0, Value.int .u8 0, Value.int .u8 0, Value.int .u8 0] ++ ([Value.bool true] ++ ([Value.int .i64 0, Value.int .i64 0, Value.int .i64 0] ++ ([Value.slice x6.1 x6.2.1 x6.2.2] ++ []))))).length == 38) <|
      st w x4.1 x4.2 ([Value.string s19] ++ ([Value.int .u8 0, Value.int .u8 0, Value.int .u8 0, Value.int .u8 0, Value.int .u8 0, Value.int .u8 0, Value.int .u8 0, Value.int .u8 0, Value.int .u8 0, Value.int .u8 0, Value.int .u8 0, Value.int .u8 0, Value.int .u8 0, Value.int .u8 0, Value.int .u8 0, Value.int .u8 0, Value.int .u8 0, Value.int .u8 0, Value.int .u8 0, Value.int .u8 0, Value.int .u8 0, Value.int .u8 0, Value.int .u8 0, Value.int .u8 0, Value.int .u8 0, Value.int .u8 0, Value.int .u8 0, Value.int .u8 0, Value.int .u8 0, Value.int .u8 0, Value.int .u8 0, Value.int .u8 0] ++ ([Value.bool true] ++ ([Value.int .i64 0, Value.int .i64 0, Value.int .i64 0] ++ ([Value.slice x6.1 x6.2.1 x6.2.2] ++ []))))) fun w20 =>
      ldA 38 w20 x4.1 x4.2 fun a21 =>
      Q (Value.tuple #[ofL a21, Value.bool true]) w20)
    (jnC (F105.k6 Q) ((x2.1, x2.2), (x4.1, x4.2), (x6.1, x6.2.1, x6.2.2), ()) w))
def F105.k3 (Q : Value → World → Prop) : ((Nat × Nat) × (Nat × Nat) × (Option Addr × Nat × Nat) × Bool × Bool × Unit) → World → Prop := fun s w => ∀ _ : Nat → Value, F105.k3c Q s.1 s.2.1 s.2.2.1 s.2.2.2.1 s.2.2.2.2.1 w
def F105.vc (x0 : List Value) (x1A : Option Addr) (x1n x1c : Nat) (w : World) (Q : Value → World → Prop) : Prop :=
  nw w x0 53 fun b1 w2 =>
  nw w2 Z53 53 fun b3 w4 =>
  ldSl w4.drew b1 (0 + 37) fun A5 n6 c7 =>
  ldI .i64 w4.drew b1 (0 + 34) fun i8 =>
  Calls Tryz.prog 131 #[Value.slice A5 n6 c7, Value.slice x1A x1n x1c] w4.drew fun e10 w9 =>
  ∃ (A11 : Option Addr) (n12 c13 : Nat), e10 = .returned (Value.slice A11 n12 c13) ∧ (
    kp w4.drew b1 (0 + 34) 1 w9 <|
    Calls Tryz.prog 71 #[Value.slice x1A x1n x1c, Value.int .i64 i8] w9 fun e15 w14 =>
    ∃ t16 : Bool, e15 = .returned (Value.bool t16) ∧ (
      vIf (((n12 : Nat) : Int) == 0)
      (vIf (!t16)
        (jnC (F105.k3 Q) ((b1, 0), (b3, 0), (A11, n12, c13), t16, true, ()) w14)
        (ldB w14 b1 (0 + 33) fun t26 =>
          jnC (F105.k3 Q) ((b1, 0), (b3, 0), (A11, n12, c13), t16, t26, ()) w14))
      (jnC (F105.k3 Q) ((b1, 0), (b3, 0), (A11, n12, c13), t16, false, ()) w14)))
def F105.an : Ann := ⟨[], [(3, [(2, .kL), (4, .kL), (6, .kSl), (7, .kB), (17, .kB)]), (6, [(2, .kL), (4, .kL), (6, .kSl)])]⟩
theorem F105.of (x0 : List Value) (x1A : Option Addr) (x1n x1c : Nat) (w : World) {Q : Value → World → Prop} (h : F105.vc x0 x1A x1n x1c w Q) : Calls Tryz.prog 105 #[ofL x0, Value.slice x1A x1n x1c] w (fun e w' => ∃ v, e = .returned v ∧ Q v w') := vcFn_of (A := F105.an) noCount mixed h (by kernel_rfl)
/-! ### function 106: slices.IndexFunc[[]stillage/api.Load,stillage/api.Load] -/
def F106s.b2c (Q : Value → World → Prop) (C2 : ((Option Addr × Nat × Nat) × (Nat × Nat) × Int × Int × Unit) → World → Prop) (x0 : (Option Addr × Nat × Nat)) (x1 : (Nat × Nat)) (x7 : Int) (x8 : Int) (w : World) : Prop :=
  vIf (decide (x8 < x7))
  (dr x0.1 fun b1 o2 =>
    gd (decide (0 ≤ x8)) <|
    gd (decide (x8 < ((x0.2.1 : Nat) : Int))) <|
    ldA 3 w b1 (o2 + (x8).toNat * 3) fun a3 =>
    Calls Tryz.prog 70 #[ofL a3, Value.pointer (some ⟨x1.1, x1.2, none⟩)] w fun e5 w4 =>
    ∃ t6 : Bool, e5 = .returned (Value.bool t6) ∧ (
      vIf t6
      (Q (Value.int .i64 x8) w4)
      (jnC C2 ((x0.1, x0.2.1, x0.2.2), (x1.1, x1.2), (x7), ((IntKind.wrap .i64 (x8 + 1))), ()) w4)))
  (Q (Value.int .i64 (-1)) w)
def F106s.b2 (Q : Value → World → Prop) : ((Option Addr × Nat × Nat) × (Nat × Nat) × Int × Int × Unit) → World → (((Option Addr × Nat × Nat) × (Nat × Nat) × Int × Int × Unit) → World → Prop) → Prop := fun s w C2 => ∀ _ : Nat → Value, F106s.b2c Q C2 s.1 s.2.1 s.2.2.1 s.2.2.2.1 w
def F106s.l2 (Q : Value → World → Prop) : ((Option Addr × Nat × Nat) × (Nat × Nat) × Int × Int × Unit) → World → Prop := fun s w => ∃ n, loopC (F106s.b2 Q) n s w
def F106s.vc (x0A : Option Addr) (x0n x0c : Nat) (x1 : Nat × Nat) (w : World) (Q : Value → World → Prop) : Prop :=
  jnC (F106s.l2 Q) ((x0A, x0n, x0c), (x1.1, x1.2), (((x0n : Nat) : Int)), (0), ()) w
def F106s.an : Ann := ⟨[(2, [(0, .kSl), (1, .kG 70), (7, .kI .i64), (8, .kI .i64)])], []⟩
theorem F106s.of (x0A : Option Addr) (x0n x0c : Nat) (x1 : Nat × Nat) (w : World) {Q : Value → World → Prop} (h : F106s.vc x0A x0n x0c x1 w Q) : Calls Tryz.prog 106 #[Value.slice x0A x0n x0c, Value.func (.func 70) #[] #[Value.pointer (some ⟨x1.1, x1.2, none⟩)]] w (fun e w' => ∃ v, e = .returned v ∧ Q v w') := vcFn_of (A := F106s.an) noCount mixed h (by kernel_rfl)
/-! ### function 107: slices.Index[[]int,int] -/
def F107.b2c (Q : Value → World → Prop) (C2 : ((Option Addr × Nat × Nat) × Int × Int × Int × Unit) → World → Prop) (x0 : (Option Addr × Nat × Nat)) (x1 : Int) (x7 : Int) (x8 : Int) (w : World) : Prop :=
  vIf (decide (x8 < x7))
  (dr x0.1 fun b1 o2 =>
    gd (decide (0 ≤ x8)) <|
    gd (decide (x8 < ((x0.2.1 : Nat) : Int))) <|
    ldI .i64 w b1 (o2 + (x8).toNat * 1) fun i3 =>
    vIf (x1 == i3)
    (Q (Value.int .i64 x8) w)
    (jnC C2 ((x0.1, x0.2.1, x0.2.2), (x1), (x7), ((IntKind.wrap .i64 (x8 + 1))), ()) w))
  (Q (Value.int .i64 (-1)) w)
def F107.b2 (Q : Value → World → Prop) : ((Option Addr × Nat × Nat) × Int × Int × Int × Unit) → World → (((Option Addr × Nat × Nat) × Int × Int × Int × Unit) → World → Prop) → Prop := fun s w C2 => ∀ _ : Nat → Value, F107.b2c Q C2 s.1 s.2.1 s.2.2.1 s.2.2.2.1 w
def F107.l2 (Q : Value → World → Prop) : ((Option Addr × Nat × Nat) × Int × Int × Int × Unit) → World → Prop := fun s w => ∃ n, loopC (F107.b2 Q) n s w
def F107.vc (x0A : Option Addr) (x0n x0c : Nat) (x1 : Int) (w : World) (Q : Value → World → Prop) : Prop :=
  jnC (F107.l2 Q) ((x0A, x0n, x0c), (x1), (((x0n : Nat) : Int)), (0), ()) w
def F107.an : Ann := ⟨[(2, [(0, .kSl), (1, .kI .i64), (7, .kI .i64), (8, .kI .i64)])], []⟩
theorem F107.of (x0A : Option Addr) (x0n x0c : Nat) (x1 : Int) (w : World) {Q : Value → World → Prop} (h : F107.vc x0A x0n x0c x1 w Q) : Calls Tryz.prog 107 #[Value.slice x0A x0n x0c, Value.int .i64 x1] w (fun e w' => ∃ v, e = .returned v ∧ Q v w') := vcFn_of (A := F107.an) noCount mixed h (by kernel_rfl)
/-! ### function 108: stillage/stillageref19.Keep -/
def F108.k5c (Q : Value → World → Prop) (x2 : (Nat × Nat)) (x4 : (Nat × Nat)) (x6 : (Option Addr × Nat × Nat)) (w : World) : Prop :=
  vIf (decide (((x6.2.1 : Nat) : Int) > 0))
  (ldA 32 w x2.1 x2.2 fun a22 =>
    gd (a22.length == 32) <|
    gd ((a22 ++ ([Value.int .i64 5] ++ ([Value.int .i64 0] ++ ([Value.int .i64 0, Value.int .i64 0, Value.int .i64 0] ++ ([Value.slice x6.1 x6.2.1 x6.2.2] ++ []))))).length == 38) <|
    st w x4.1 x4.2 (a22 ++ ([Value.int .i64 5] ++ ([Value.int .i64 0] ++ ([Value.int .i64 0, Value.int .i64 0, Value.int .i64 0] ++ ([Value.slice x6.1 x6.2.1 x6.2.2] ++ []))))) fun w23 =>
    ldA 38 w23 x4.1 x4.2 fun a24 =>
    Q (Value.tuple #[ofL a24, Value.bool true]) w23)
  (gd (([Value.int .u8 0, Value.int .u8 0, Value.int .u8 0, Value.int .u8 0, Value.int .u8 0, Value.int .u8 0, Value.int .u8 0, Value.int .u8 0, Value.int .u8 0, Value.int .u8 0, Value.int .u8 0, Value.int .u8 0, Value.int .u8 0, Value.int .u8 0, Value.int .u8 0, Value.int .u8 0, Value.int .u8 0, Value.int .u8 0, Value.int .u8 0, Value.int .u8 0, Value.int .u8 0, Value.int .u8 0, Value.int .u8 0, Value.int .u8 0, Value.int .u8 0, Value.int .u8 0, Value.int .u8 0, Value.int .u8 0, Value.int .u8 0, Value.int .u8 0, Value.int .u8 0, Value.int .u8 0] ++ ([Value.int .i64 0] ++ ([Value.int .i64 0] ++ ([Value.int .i64 0, Value.int .i64 0, Value.int .i64 0] ++ ([Value.slice none 0 0] ++ []))))).length == 38) <|
    st w x4.1 x4.2 ([Value.int .u8 0, Value.int .u8 0, Value.int .u8 0, Value.int .u8 0, Value.int .u8 0, Value.int .u8 0, Value.int .u8 0, Value.int .u8 0, Value.int .u8 0, Value.int .u8 0, Value.int .u8 0, Value.int .u8 0, Value.int .u8 0, Value.int .u8 0, Value.int .u8 0, Value.int .u8 0, Value.int .u8 0, Value.int .u8 0, Value.int .u8 0, Value.int .u8 0, Value.int .u8 0, Value.int .u8 0, Value.int .u8 0, Value.int .u8 0, Value.int .u8 0, Value.int .u8 0, Value.int .u8 0, Value.int .u8 0, Value.int .u8 0, Value.int .u8 0, Value.int .u8 0, Value.int .u8 0] ++ ([Value.int .i64 0] ++ ([Value.int .i64 0] ++ ([Value.int .i64 0, Value.int .i64 0, Value.int .i64 0] ++ ([Value.slice none 0 0] ++ []))))) fun w25 =>
    ldA 38 w25 x4.1 x4.2 fun a26 =>
    Q (Value.tuple #[ofL a26, Value.bool false]) w25)
def F108.k5 (Q : Value → World → Prop) : ((Nat × Nat) × (Nat × Nat) × (Option Addr × Nat × Nat) × Unit) → World → Prop := fun s w => ∀ _ : Nat → Value, F108.k5c Q s.1 s.2.1 s.2.2.1 w
def F108.k3c (Q : Value → World → Prop) (x2 : (Nat × Nat)) (x4 : (Nat × Nat)) (x6 : (Option Addr × Nat × Nat)) (x25 : Bool) (w : World) : Prop :=
  vIf x25
  (st w x2.1 (x2.2 + 37) [Value.slice x6.1 x6.2.1 x6.2.2] fun w18 =>
    ldA 38 w18 x2.1 x2.2 fun a19 =>
    gd (a19.length == 38) <|
    st w18 x4.1 x4.2 a19 fun w20 =>
    ldA 38 w20 x4.1 x4.2 fun a21 =>
    Q (Value.tuple #[ofL a21, Value.bool true]) w20)
  (jnC (F108.k5 Q) ((x2.1, x2.2), (x4.1, x4.2), (x6.1, x6.2.1, x6.2.2), ()) w)
def F108.k3 (Q : Value → World → Prop) : ((Nat × Nat) × (Nat × Nat) × (Option Addr × Nat × Nat) × Bool × Unit) → World → Prop := fun s w => ∀ _ : Nat → Value, F108.k3c Q s.1 s.2.1 s.2.2.1 s.2.2.2.1 w
def F108.vc (x0 : List Value) (x1A : Option Addr) (x1n x1c : Nat) (w : World) (Q : Value → World → Prop) : Prop :=
  nw w x0 48 fun b1 w2 =>
  nw w2 Z48 48 fun b3 w4 =>
  ldSl w4 b1 (0 + 37) fun A5 n6 c7 =>
  Calls Tryz.prog 133 #[Value.slice A5 n6 c7, Value.slice x1A x1n x1c] w4 fun e9 w8 =>
  ∃ (A10 : Option Addr) (n11 c12 : Nat), e9 = .returned (Value.slice A10 n11 c12) ∧ (
    ldI .i64 w8 b1 (0 + 34) fun i13 =>
    Calls Tryz.prog 134 #[Value.slice x1A x1n x1c, Value.int .i64 i13] w8 fun e15 w14 =>
    ∃ t16 : Bool, e15 = .returned (Value.bool t16) ∧ (
      vIf t16
      (ldI .i64 w14 b1 (0 + 32) fun i17 =>
        vIf (i17 != 5)
        (jnC (F108.k3 Q) ((b1, 0), (b3, 0), (A10, n11, c12), true, ()) w14)
        (jnC (F108.k3 Q) ((b1, 0), (b3, 0), (A10, n11, c12), (decide (((n11 : Nat) : Int) > 0)), ()) w14))
      (jnC (F108.k3 Q) ((b1, 0), (b3, 0), (A10, n11, c12), false, ()) w14)))
def F108.an : Ann := ⟨[], [(3, [(2, .kL), (4, .kL), (6, .kSl), (25, .kB)]), (5, [(2, .kL), (4, .kL), (6, .kSl)])]⟩
theorem F108.of (x0 : List Value) (x1A : Option Addr) (x1n x1c : Nat) (w : World) {Q : Value → World → Prop} (h : F108.vc x0 x1A x1n x1c w Q) : Calls Tryz.prog 108 #[ofL x0, Value.slice x1A x1n x1c] w (fun e w' => ∃ v, e = .returned v ∧ Q v w') := vcFn_of (A := F108.an) noCount mixed h (by kernel_rfl)
/-! ### function 109: stillage/stillageref19.KeepTag -/
def F109.k5c (Q : Value → World → Prop) (x2 : (Nat × Nat)) (x4 : (Nat × Nat)) (x6 : (Option Addr × Nat × Nat)) (w : World) : Prop :=
  vIf (decide (((x6.2.1 : Nat) : Int) > 0))
  (ldS w x2.1 x2.2 fun s22 =>
    gd (([Value.string s22] ++ ([Value.int .u8 0, Value.int .u8 0, Value.int .u8 0, Value.int .u8 0, Value.int .u8 0, Value.int .u8 0, Value.int .u8 0, Value.int .u8 0, Value.int .u8 0, Value.int .u8 0, Value.int .u8 0, Value.int .u8 0, Value.int .u8 0, Value.int .u8 0, Value.int .u8 0, Value.int .u8 0, Value.int .u8 0, Value.int .u8 0, Value.int .u8 0, Value.int .u8 0, Value.int .u8 0, Value.int .u8 0, Value.int .u8 0, Value.int .u8 0, Value.int .u8 0, Value.int .u8 0, Value.int .u8 0, Value.int .u8 0, Value.int .u8 0, Value.int .u8 0, Value.int .u8 0, Value.int .u8 0] ++ ([Value.bool true] ++ ([Value.int .i64 0, Value.int .i64 0, Value.int .i64 0] ++ ([Value.slice x6.1 x6.2.1 x6.2.2] ++ []))))).length == 38) <|
    st w x4.1 x4.2 ([Value.string s22] ++ ([Value.int .u8 0, Value.int .u8 0, Value.int .u8 0, Value.int .u8 0, Value.int .u8 0, Value.int .u8 0, Value.int .u8 0, Value.int .u8 0, Value.int .u8 0, Value.int .u8 0, Value.int .u8 0, Value.int .u8 0, Value.int .u8 0, Value.int .u8 0, Value.int .u8 0, Value.int .u8 0, Value.int .u8 0, Value.int .u8 0, Value.int .u8 0, Value.int .u8 0, Value.int .u8 0, Value.int .u8 0, Value.int .u8 0, Value.int .u8 0, Value.int .u8 0, Value.int .u8 0, Value.int .u8 0, Value.int .u8 0, Value.int .u8 0, Value.int .u8 0, Value.int .u8 0, Value.int .u8 0] ++ ([Value.bool true] ++ ([Value.int .i64 0, Value.int .i64 0, Value.int .i64 0] ++ ([Value.slice x6.1 x6.2.1 x6.2.2] ++ []))))) fun w23 =>
    ldA 38 w23 x4.1 x4.2 fun a24 =>
    Q (Value.tuple #[ofL a24, Value.bool true]) w23)
  (gd (([Value.string (⟨#[]⟩ : ByteArray)] ++ ([Value.int .u8 0, Value.int .u8 0, Value.int .u8 0, Value.int .u8 0, Value.int .u8 0, Value.int .u8 0, Value.int .u8 0, Value.int .u8 0, Value.int .u8 0, Value.int .u8 0, Value.int .u8 0, Value.int .u8 0, Value.int .u8 0, Value.int .u8 0, Value.int .u8 0, Value.int .u8 0, Value.int .u8 0, Value.int .u8 0, Value.int .u8 0, Value.int .u8 0, Value.int .u8 0, Value.int .u8 0, Value.int .u8 0, Value.int .u8 0, Value.int .u8 0, Value.int .u8 0, Value.int .u8 0, Value.int .u8 0, Value.int .u8 0, Value.int .u8 0, Value.int .u8 0, Value.int .u8 0] ++ ([Value.bool false] ++ ([Value.int .i64 0, Value.int .i64 0, Value.int .i64 0] ++ ([Value.slice none 0 0] ++ []))))).length == 38) <|
    st w x4.1 x4.2 ([Value.string (⟨#[]⟩ : ByteArray)] ++ ([Value.int .u8 0, Value.int .u8 0, Value.int .u8 0, Value.int .u8 0, Value.int .u8 0, Value.int .u8 0, Value.int .u8 0, Value.int .u8 0, Value.int .u8 0, Value.int .u8 0, Value.int .u8 0, Value.int .u8 0, Value.int .u8 0, Value.int .u8 0, Value.int .u8 0, Value.int .u8 0, Value.int .u8 0, Value.int .u8 0, Value.int .u8 0, Value.int .u8 0, Value.int .u8 0, Value.int .u8 0, Value.int .u8 0, Value.int .u8 0, Value.int .u8 0, Value.int .u8 0, Value.int .u8 0, Value.int .u8 0, Value.int .u8 0, Value.int .u8 0, Value.int .u8 0, Value.int .u8 0] ++ ([Value.bool false] ++ ([Value.int .i64 0, Value.int .i64 0, Value.int .i64 0] ++ ([Value.slice none 0 0] ++ []))))) fun w25 =>
    ldA 38 w25 x4.1 x4.2 fun a26 =>
    Q (Value.tuple #[ofL a26, Value.bool false]) w25)
def F109.k5 (Q : Value → World → Prop) : ((Nat × Nat) × (Nat × Nat) × (Option Addr × Nat × Nat) × Unit) → World → Prop := fun s w => ∀ _ : Nat → Value, F109.k5c Q s.1 s.2.1 s.2.2.1 w
def F109.k3c (Q : Value → World → Prop) (x2 : (Nat × Nat)) (x4 : (Nat × Nat)) (x6 : (Option Addr × Nat × Nat)) (x25 : Bool) (w : World) : Prop :=
  vIf x25
  (st w x2.1 (x2.2 + 37) [Value.slice x6.1 x6.2.1 x6.2.2] fun w18 =>
    ldA 38 w18 x2.1 x2.2 fun a19 =>
    gd (a19.length == 38) <|
    st w18 x4.1 x4.2 a19 fun w20 =>
    ldA 38 w20 x4.1 x4.2 fun a21 =>
    Q (Value.tuple #[ofL a21, Value.bool true]) w20)
  (jnC (F109.k5 Q) ((x2.1, x2.2), (x4.1, x4.2), (x6.1, x6.2.1, x6.2.2), ()) w)
def F109.k3 (Q : Value → World → Prop) : ((Nat × Nat) × (Nat × Nat) × (Option Addr × Nat × Nat) × Bool × Unit) → World → Prop := fun s w => ∀ _ : Nat → Value, F109.k3c Q s.1 s.2.1 s.2.2.1 s.2.2.2.1 w
def F109.vc (x0 : List Value) (x1A : Option Addr) (x1n x1c : Nat) (w : World) (Q : Value → World → Prop) : Prop :=
  nw w x0 53 fun b1 w2 =>
  nw w2 Z53 53 fun b3 w4 =>
  ldSl w4 b1 (0 + 37) fun A5 n6 c7 =>
  Calls Tryz.prog 133 #[Value.slice A5 n6 c7, Value.slice x1A x1n x1c] w4 fun e9 w8 =>
  ∃ (A10 : Option Addr) (n11 c12 : Nat), e9 = .returned (Value.slice A10 n11 c12) ∧ (
    ldI .i64 w8 b1 (0 + 34) fun i13 =>
    Calls Tryz.prog 134 #[Value.slice x1A x1n x1c, Value.int .i64 i13] w8 fun e15 w14 =>
    ∃ t16 : Bool, e15 = .returned (Value.bool t16) ∧ (
      vIf t16
      (ldB w14 b1 (0 + 33) fun t17 =>
        vIf (!t17)
        (jnC (F109.k3 Q) ((b1, 0), (b3, 0), (A10, n11, c12), true, ()) w14)
        (jnC (F109.k3 Q) ((b1, 0), (b3, 0), (A10, n11, c12), (decide (((n11 : Nat) : Int) > 0)), ()) w14))
      (jnC (F109.k3 Q) ((b1, 0), (b3, 0), (A10, n11, c12), false, ()) w14)))
def F109.an : Ann := ⟨[], [(3, [(2, .kL), (4, .kL), (6, .kSl), (25, .kB)]), (5, [(2, .kL), (4, .kL), (6, .kSl)])]⟩
theorem F109.of (x0 : List Value) (x1A : Option Addr) (x1n x1c : Nat) (w : World) {Q : Value → World → Prop} (h : F109.vc x0 x1A x1n x1c w Q) : Calls Tryz.prog 109 #[ofL x0, Value.slice x1A x1n x1c] w (fun e w' => ∃ v, e = .returned v ∧ Q v w') := vcFn_of (A := F109.an) noCount mixed h (by kernel_rfl)
/-! ### function 110: stillage/stillageref19.Others -/
def F110.b3c (Q : Value → World → Prop) (C3 : ((Option Addr × Nat × Nat) × Int × Int × Int × Unit) → World → Prop) (x0 : (Option Addr × Nat × Nat)) (x1 : Int) (x5 : Int) (x6 : Int) (w : World) : Prop :=
  vIf (decide (x6 < ((x0.2.1 : Nat) : Int)))
  (dr x0.1 fun b1 o2 =>
    gd (decide (0 ≤ x6)) <|
    gd (decide (x6 < ((x0.2.1 : Nat) : Int))) <|
    ldI .i64 w b1 (o2 + (x6).toNat * 1) fun i3 =>
    vIf (i3 != x1)
    (jnC C3 ((x0.1, x0.2.1, x0.2.2), (x1), ((IntKind.wrap .i64 (x5 + 1))), ((IntKind.wrap .i64 (x6 + 1))), ()) w)
    (jnC C3 ((x0.1, x0.2.1, x0.2.2), (x1), (x5), ((IntKind.wrap .i64 (x6 + 1))), ()) w))
  (Q (Value.int .i64 x5) w)
def F110.b3 (Q : Value → World → Prop) : ((Option Addr × Nat × Nat) × Int × Int × Int × Unit) → World → (((Option Addr × Nat × Nat) × Int × Int × Int × Unit) → World → Prop) → Prop := fun s w C3 => ∀ _ : Nat → Value, F110.b3c Q C3 s.1 s.2.1 s.2.2.1 s.2.2.2.1 w
def F110.l3 (Q : Value → World → Prop) : ((Option Addr × Nat × Nat) × Int × Int × Int × Unit) → World → Prop := fun s w => ∃ n, loopC (F110.b3 Q) n s w
def F110.vc (x0A : Option Addr) (x0n x0c : Nat) (x1 : Int) (w : World) (Q : Value → World → Prop) : Prop :=
  jnC (F110.l3 Q) ((x0A, x0n, x0c), (x1), (0), (0), ()) w
def F110.an : Ann := ⟨[(3, [(0, .kSl), (1, .kI .i64), (5, .kI .i64), (6, .kI .i64)])], []⟩
theorem F110.of (x0A : Option Addr) (x0n x0c : Nat) (x1 : Int) (w : World) {Q : Value → World → Prop} (h : F110.vc x0A x0n x0c x1 w Q) : Calls Tryz.prog 110 #[Value.slice x0A x0n x0c, Value.int .i64 x1] w (fun e w' => ∃ v, e = .returned v ∧ Q v w') := vcFn_of (A := F110.an) noCount mixed h (by kernel_rfl)
/-! ### function 111: (*stillage/slots.Table[stillage/api.Entry]).find -/
def F111.b2c (Q : Value → World → Prop) (C2 : (Option Addr × (Nat × Nat) × Int × Unit) → World → Prop) (x0 : Option Addr) (x3 : (Nat × Nat)) (x6 : Int) (w : World) : Prop :=
  dr x0 fun b7 o8 =>
  ldSl w b7 o8 fun A9 n10 c11 =>
  dr A9 fun b12 o13 =>
  gd (decide (0 ≤ x6)) <|
  gd (decide (x6 < ((n10 : Nat) : Int))) <|
  ldB w b12 (o13 + (x6).toNat * 71) fun t14 =>
  vIf (!t14)
  (Q (Value.tuple #[Value.int .i64 x6, Value.bool false]) w)
  (ldA 32 w.drew b12 ((o13 + (x6).toNat * 71) + 1) fun a15 =>
    ldA 32 w.drew x3.1 x3.2 fun a16 =>
    eqAB 32 a15 a16 fun t17 =>
    vIf t17
    (Q (Value.tuple #[Value.int .i64 x6, Value.bool true]) w.drew)
    (dr x0 fun b18 o19 =>
      ldSl w.drew b18 o19 fun A20 n21 c22 =>
      gd (decide (((n21 : Nat) : Int) ≠ 0)) <|
      jnC C2 (x0, (x3.1, x3.2), ((Int.tmod (IntKind.wrap .i64 (x6 + 1)) ((n21 : Nat) : Int))), ()) w.drew))
def F111.b2 (Q : Value → World → Prop) : (Option Addr × (Nat × Nat) × Int × Unit) → World → ((Option Addr × (Nat × Nat) × Int × Unit) → World → Prop) → Prop := fun s w C2 => ∀ _ : Nat → Value, F111.b2c Q C2 s.1 s.2.1 s.2.2.1 w
def F111.l2 (Q : Value → World → Prop) : (Option Addr × (Nat × Nat) × Int × Unit) → World → Prop := fun s w => ∃ n, loopC (F111.b2 Q) n s w
def F111.vc (x0 : Option Addr) (x1 : List Value) (w : World) (Q : Value → World → Prop) : Prop :=
  nw w x1 33 fun b1 w2 =>
  ldA 32 w2 b1 0 fun a3 =>
  Calls Tryz.prog 135 #[Value.pointer x0, ofL a3] w2 fun e5 w4 =>
  ∃ i6 : Int, e5 = .returned (Value.int .i64 i6) ∧ (
    jnC (F111.l2 Q) (x0, (b1, 0), (i6), ()) w4)
def F111.an : Ann := ⟨[(2, [(0, .kP), (3, .kL), (6, .kI .i64)])], []⟩
theorem F111.of (x0 : Option Addr) (x1 : List Value) (w : World) {Q : Value → World → Prop} (h : F111.vc x0 x1 w Q) : Calls Tryz.prog 111 #[Value.pointer x0, ofL x1] w (fun e w' => ∃ v, e = .returned v ∧ Q v w') := vcFn_of (A := F111.an) noCount mixed h (by kernel_rfl)
/-! ### function 112: (*stillage/slots.Table[stillage/api.Entry]).grow -/
def F112.b3c (Q : Value → World → Prop) (C3 : (Option Addr × (Option Addr × Nat × Nat) × Int × Int × Unit) → World → Prop) (x0 : Option Addr) (x18 : (Option Addr × Nat × Nat)) (x19 : Int) (x20 : Int) (w : World) : Prop :=
  vIf (decide (x20 < x19))
  (dr x18.1 fun b11 o12 =>
    gd (decide (0 ≤ x20)) <|
    gd (decide (x20 < ((x18.2.1 : Nat) : Int))) <|
    ldA 71 w b11 (o12 + (x20).toNat * 71) fun a13 =>
    nw w Z157 157 fun b14 w15 =>
    gd (a13.length == 71) <|
    st w15 b14 0 a13 fun w16 =>
    ldB w16 b14 0 fun t17 =>
    vIf t17
    (ldA 32 w16 b14 (0 + 1) fun a18 =>
      Calls Tryz.prog 111 #[Value.pointer x0, ofL a18] w16 fun e20 w19 =>
      ∃ i21 : Int, ∃ t22 : Bool, e20 = .returned (Value.tuple #[Value.int .i64 i21, Value.bool t22]) ∧ (
        dr x0 fun b23 o24 =>
        ldSl w19.drew b23 o24 fun A25 n26 c27 =>
        ldA 71 w19.drew b14 0 fun a28 =>
        dr A25 fun b29 o30 =>
        gd (decide (0 ≤ i21)) <|
        gd (decide (i21 < ((n26 : Nat) : Int))) <|
        gd (a28.length == 71) <|
        st w19.drew b29 (o30 + (i21).toNat * 71) a28 fun w31 =>
        jnC C3 (x0, (x18.1, x18.2.1, x18.2.2), (x19), ((IntKind.wrap .i64 (x20 + 1))), ()) w31))
    (jnC C3 (x0, (x18.1, x18.2.1, x18.2.2), (x19), ((IntKind.wrap .i64 (x20 + 1))), ()) w16))
  (Q (Value.tuple #[]) w)
def F112.b3 (Q : Value → World → Prop) : (Option Addr × (Option Addr × Nat × Nat) × Int × Int × Unit) → World → ((Option Addr × (Option Addr × Nat × Nat) × Int × Int × Unit) → World → Prop) → Prop := fun s w C3 => ∀ _ : Nat → Value, F112.b3c Q C3 s.1 s.2.1 s.2.2.1 s.2.2.2.1 w
def F112.l3 (Q : Value → World → Prop) : (Option Addr × (Option Addr × Nat × Nat) × Int × Int × Unit) → World → Prop := fun s w => ∃ n, loopC (F112.b3 Q) n s w
def F112.vc (x0 : Option Addr) (w : World) (Q : Value → World → Prop) : Prop :=
  dr x0 fun b1 o2 =>
  ldSl w b1 o2 fun A3 n4 c5 =>
  gd (decide (0 ≤ (IntKind.wrap .i64 (2 * ((n4 : Nat) : Int))))) <|
  gd (decide ((IntKind.wrap .i64 (2 * ((n4 : Nat) : Int))) ≤ (IntKind.wrap .i64 (2 * ((n4 : Nat) : Int))))) <|
  gd (decide ((IntKind.wrap .i64 (2 * ((n4 : Nat) : Int))) * 136 ≤ 281474976710656 ∧ (IntKind.wrap .i64 (2 * ((n4 : Nat) : Int))) ≤ 9223372036854775807)) <|
  nw w (zeros ((IntKind.wrap .i64 (2 * ((n4 : Nat) : Int)))).toNat Z157) 157 fun b6 w7 =>
  dr x0 fun b8 o9 =>
  st w7 b8 o9 [Value.slice (some ⟨b6, 0, none⟩) ((IntKind.wrap .i64 (2 * ((n4 : Nat) : Int)))).toNat ((IntKind.wrap .i64 (2 * ((n4 : Nat) : Int)))).toNat] fun w10 =>
  jnC (F112.l3 Q) (x0, (A3, n4, c5), (((n4 : Nat) : Int)), (0), ()) w10
def F112.an : Ann := ⟨[(3, [(0, .kP), (18, .kSl), (19, .kI .i64), (20, .kI .i64)])], []⟩
theorem F112.of (x0 : Option Addr) (w : World) {Q : Value → World → Prop} (h : F112.vc x0 w Q) : Calls Tryz.prog 112 #[Value.pointer x0] w (fun e w' => ∃ v, e = .returned v ∧ Q v w') := vcFn_of (A := F112.an) noCount mixed h (by kernel_rfl)
/-! ### function 113: slices.Clone[[]int,int] -/
def F113.vc (x0A : Option Addr) (x0n x0c : Nat) (w : World) (Q : Value → World → Prop) : Prop :=
  vIf x0A.isNone
  (Q (Value.slice none 0 0) w)
  (nw w [] 3 fun b1 w2 =>
    app w2 1 8 [Value.int .i64 0] 3 (some ⟨b1, 0, none⟩) 0 0 (Value.slice x0A x0n x0c) fun A3 n4 c5 w6 =>
    Q (Value.slice A3 n4 c5) w6)
def F113.an : Ann := ⟨[], []⟩
theorem F113.of (x0A : Option Addr) (x0n x0c : Nat) (w : World) {Q : Value → World → Prop} (h : F113.vc x0A x0n x0c w Q) : Calls Tryz.prog 113 #[Value.slice x0A x0n x0c] w (fun e w' => ∃ v, e = .returned v ∧ Q v w') := vcFn_of (A := F113.an) noCount mixed h (by kernel_rfl)
/-! ### function 114: slices.Clone[[]stillage/api.TagEntry,stillage/api.TagEntry] -/
def F114.vc (x0A : Option Addr) (x0n x0c : Nat) (w : World) (Q : Value → World → Prop) : Prop :=
  vIf x0A.isNone
  (Q (Value.slice none 0 0) w)
  (nw w [] 53 fun b1 w2 =>
    app w2 38 104 Z53 53 (some ⟨b1, 0, none⟩) 0 0 (Value.slice x0A x0n x0c) fun A3 n4 c5 w6 =>
    Q (Value.slice A3 n4 c5) w6)
def F114.an : Ann := ⟨[], []⟩
theorem F114.of (x0A : Option Addr) (x0n x0c : Nat) (w : World) {Q : Value → World → Prop} (h : F114.vc x0A x0n x0c w Q) : Calls Tryz.prog 114 #[Value.slice x0A x0n x0c] w (fun e w' => ∃ v, e = .returned v ∧ Q v w') := vcFn_of (A := F114.an) noCount mixed h (by kernel_rfl)
/-! ### function 117: stillage/entry.row -/
def F117.vc (x0A : Option Addr) (x0n x0c : Nat) (w : World) (Q : Value → World → Prop) : Prop :=
  Calls Tryz.prog 137 #[Value.slice x0A x0n x0c] w fun e2 w1 =>
  ∃ (A3 : Option Addr) (n4 c5 : Nat), e2 = .returned (Value.slice A3 n4 c5) ∧ (
    Calls Tryz.prog 138 #[Value.slice A3 n4 c5] w1 fun e7 w6 =>
    e7 = .returned (Value.tuple #[]) ∧ (
      Calls Tryz.prog 139 #[Value.slice A3 n4 c5] w6 fun e9 w8 =>
      ∃ (A10 : Option Addr) (n11 c12 : Nat), e9 = .returned (Value.slice A10 n11 c12) ∧ (
        Q (Value.slice A10 n11 c12) w8)))
def F117.an : Ann := ⟨[], []⟩
theorem F117.of (x0A : Option Addr) (x0n x0c : Nat) (w : World) {Q : Value → World → Prop} (h : F117.vc x0A x0n x0c w Q) : Calls Tryz.prog 117 #[Value.slice x0A x0n x0c] w (fun e w' => ∃ v, e = .returned v ∧ Q v w') := vcFn_of (A := F117.an) noCount mixed h (by kernel_rfl)
/-! ### function 118: stillage/digest.Row -/
def F118.vc (x0A : Option Addr) (x0n x0c : Nat) (w : World) (Q : Value → World → Prop) : Prop :=
  Calls Tryz.prog 140 #[Value.slice x0A x0n x0c] w fun e2 w1 =>
  ∃ (A3 : Option Addr) (n4 c5 : Nat), e2 = .returned (Value.slice A3 n4 c5) ∧ (
    Calls Tryz.prog 141 #[Value.slice A3 n4 c5, Value.func (.func 142) #[] #[]] w1 fun e7 w6 =>
    e7 = .returned (Value.tuple #[]) ∧ (
      Calls Tryz.prog 143 #[Value.slice A3 n4 c5] w6 fun e9 w8 =>
      ∃ (A10 : Option Addr) (n11 c12 : Nat), e9 = .returned (Value.slice A10 n11 c12) ∧ (
        Q (Value.slice A10 n11 c12) w8)))
def F118.an : Ann := ⟨[], []⟩
theorem F118.of (x0A : Option Addr) (x0n x0c : Nat) (w : World) {Q : Value → World → Prop} (h : F118.vc x0A x0n x0c w Q) : Calls Tryz.prog 118 #[Value.slice x0A x0n x0c] w (fun e w' => ∃ v, e = .returned v ∧ Q v w') := vcFn_of (A := F118.an) noCount mixed h (by kernel_rfl)
/-! ### function 119: slices.ContainsFunc[[]int,int] -/
def F119s.vc (x0A : Option Addr) (x0n x0c : Nat) (x1 : Nat × Nat) (w : World) (Q : Value → World → Prop) : Prop :=
  Calls Tryz.prog 144 #[Value.slice x0A x0n x0c, Value.func (.func 120) #[] #[Value.pointer (some ⟨x1.1, x1.2, none⟩)]] w fun e2 w1 =>
  ∃ i3 : Int, e2 = .returned (Value.int .i64 i3) ∧ (
    Q (Value.bool (decide (i3 ≥ 0))) w1)
def F119s.an : Ann := ⟨[], []⟩
theorem F119s.of (x0A : Option Addr) (x0n x0c : Nat) (x1 : Nat × Nat) (w : World) {Q : Value → World → Prop} (h : F119s.vc x0A x0n x0c x1 w Q) : Calls Tryz.prog 119 #[Value.slice x0A x0n x0c, Value.func (.func 120) #[] #[Value.pointer (some ⟨x1.1, x1.2, none⟩)]] w (fun e w' => ∃ v, e = .returned v ∧ Q v w') := vcFn_of (A := F119s.an) noCount mixed h (by kernel_rfl)
/-! ### function 120: stillage/entry.other$1 -/
def F120.vc (x0 : Int) (x1 : Nat × Nat) (w : World) (Q : Value → World → Prop) : Prop :=
  ldI .i64 w x1.1 x1.2 fun i1 =>
  Q (Value.bool (x0 != i1)) w
def F120.an : Ann := ⟨[], []⟩
theorem F120.of (x0 : Int) (x1 : Nat × Nat) (w : World) {Q : Value → World → Prop} (h : F120.vc x0 x1 w Q) : Calls Tryz.prog 120 #[Value.int .i64 x0, Value.pointer (some ⟨x1.1, x1.2, none⟩)] w (fun e w' => ∃ v, e = .returned v ∧ Q v w') := vcFn_of (A := F120.an) noCount mixed h (by kernel_rfl)
/-! ### function 121: slices.insertionSortCmpFunc[stillage/api.Word] -/
def F121s.k6c (Q : Value → World → Prop) (C1 : ((Option Addr × Nat × Nat) × Int × Int × Unit × Int × Unit) → World → Prop) (C4 : ((Option Addr × Nat × Nat) × Int × Int × Unit × Int × Int × Unit) → World → Prop) (x0 : (Option Addr × Nat × Nat)) (x1 : Int) (x2 : Int) (x3 : Unit) (x8 : Int) (x9 : Int) (w : World) : Prop :=
  dr x0.1 fun b10 o11 =>
  gd (decide (0 ≤ (IntKind.wrap .i64 (x9 - 1)))) <|
  gd (decide ((IntKind.wrap .i64 (x9 - 1)) < ((x0.2.1 : Nat) : Int))) <|
  ldA 39 w.drew b10 (o11 + ((IntKind.wrap .i64 (x9 - 1))).toNat * 39) fun a12 =>
  dr x0.1 fun b13 o14 =>
  gd (decide (0 ≤ x9)) <|
  gd (decide (x9 < ((x0.2.1 : Nat) : Int))) <|
  ldA 39 w.drew b13 (o14 + (x9).toNat * 39) fun a15 =>
  dr x0.1 fun b16 o17 =>
  gd (decide (0 ≤ x9)) <|
  gd (decide (x9 < ((x0.2.1 : Nat) : Int))) <|
  gd (a12.length == 39) <|
  st w.drew b16 (o17 + (x9).toNat * 39) a12 fun w18 =>
  dr x0.1 fun b19 o20 =>
  gd (decide (0 ≤ (IntKind.wrap .i64 (x9 - 1)))) <|
  gd (decide ((IntKind.wrap .i64 (x9 - 1)) < ((x0.2.1 : Nat) : Int))) <|
  gd (a15.length == 39) <|
  st w18 b19 (o20 + ((IntKind.wrap .i64 (x9 - 1))).toNat * 39) a15 fun w21 =>
  jnC C4 ((x0.1, x0.2.1, x0.2.2), (x1), (x2), (), (x8), ((IntKind.wrap .i64 (x9 - 1))), ()) w21
def F121s.k6 (Q : Value → World → Prop) (C1 : ((Option Addr × Nat × Nat) × Int × Int × Unit × Int × Unit) → World → Prop) (C4 : ((Option Addr × Nat × Nat) × Int × Int × Unit × Int × Int × Unit) → World → Prop) : ((Option Addr × Nat × Nat) × Int × Int × Unit × Int × Int × Unit) → World → Prop := fun s w => ∀ _ : Nat → Value, F121s.k6c Q C1 C4 s.1 s.2.1 s.2.2.1 s.2.2.2.1 s.2.2.2.2.1 s.2.2.2.2.2.1 w
def F121s.b4c (Q : Value → World → Prop) (C1 : ((Option Addr × Nat × Nat) × Int × Int × Unit × Int × Unit) → World → Prop) (C4 : ((Option Addr × Nat × Nat) × Int × Int × Unit × Int × Int × Unit) → World → Prop) (x0 : (Option Addr × Nat × Nat)) (x1 : Int) (x2 : Int) (x3 : Unit) (x8 : Int) (x9 : Int) (w : World) : Prop :=
  vIf (decide (x9 > x1))
  (dr x0.1 fun b1 o2 =>
    gd (decide (0 ≤ x9)) <|
    gd (decide (x9 < ((x0.2.1 : Nat) : Int))) <|
    ldA 39 w.drew b1 (o2 + (x9).toNat * 39) fun a3 =>
    dr x0.1 fun b4 o5 =>
    gd (decide (0 ≤ (IntKind.wrap .i64 (x9 - 1)))) <|
    gd (decide ((IntKind.wrap .i64 (x9 - 1)) < ((x0.2.1 : Nat) : Int))) <|
    ldA 39 w.drew b4 (o5 + ((IntKind.wrap .i64 (x9 - 1))).toNat * 39) fun a6 =>
    Calls Tryz.prog 52 #[ofL a3, ofL a6] w.drew fun e8 w7 =>
    ∃ i9 : Int, e8 = .returned (Value.int .i64 i9) ∧ (
      vIf (decide (i9 < 0))
      (jnC (F121s.k6 Q C1 C4) ((x0.1, x0.2.1, x0.2.2), (x1), (x2), (), (x8), (x9), ()) w7)
      (jnC C1 ((x0.1, x0.2.1, x0.2.2), (x1), (x2), (), ((IntKind.wrap .i64 (x8 + 1))), ()) w7)))
  (jnC C1 ((x0.1, x0.2.1, x0.2.2), (x1), (x2), (), ((IntKind.wrap .i64 (x8 + 1))), ()) w.drew)
def F121s.b4 (Q : Value → World → Prop) (C1 : ((Option Addr × Nat × Nat) × Int × Int × Unit × Int × Unit) → World → Prop) : ((Option Addr × Nat × Nat) × Int × Int × Unit × Int × Int × Unit) → World → (((Option Addr × Nat × Nat) × Int × Int × Unit × Int × Int × Unit) → World → Prop) → Prop := fun s w C4 => ∀ _ : Nat → Value, F121s.b4c Q C1 C4 s.1 s.2.1 s.2.2.1 s.2.2.2.1 s.2.2.2.2.1 s.2.2.2.2.2.1 w
def F121s.l4 (Q : Value → World → Prop) (C1 : ((Option Addr × Nat × Nat) × Int × Int × Unit × Int × Unit) → World → Prop) : ((Option Addr × Nat × Nat) × Int × Int × Unit × Int × Int × Unit) → World → Prop := fun s w => ∃ n, loopC (F121s.b4 Q C1) n s w
def F121s.b1c (Q : Value → World → Prop) (C1 : ((Option Addr × Nat × Nat) × Int × Int × Unit × Int × Unit) → World → Prop) (x0 : (Option Addr × Nat × Nat)) (x1 : Int) (x2 : Int) (x3 : Unit) (x8 : Int) (w : World) : Prop :=
  vIf (decide (x8 < x2))
  (jnC (F121s.l4 Q C1) ((x0.1, x0.2.1, x0.2.2), (x1), (x2), (), (x8), (x8), ()) w)
  (Q (Value.tuple #[]) w)
def F121s.b1 (Q : Value → World → Prop) : ((Option Addr × Nat × Nat) × Int × Int × Unit × Int × Unit) → World → (((Option Addr × Nat × Nat) × Int × Int × Unit × Int × Unit) → World → Prop) → Prop := fun s w C1 => ∀ _ : Nat → Value, F121s.b1c Q C1 s.1 s.2.1 s.2.2.1 s.2.2.2.1 s.2.2.2.2.1 w
def F121s.l1 (Q : Value → World → Prop) : ((Option Addr × Nat × Nat) × Int × Int × Unit × Int × Unit) → World → Prop := fun s w => ∃ n, loopC (F121s.b1 Q) n s w
def F121s.vc (x0A : Option Addr) (x0n x0c : Nat) (x1 : Int) (x2 : Int) (w : World) (Q : Value → World → Prop) : Prop :=
  jnC (F121s.l1 Q) ((x0A, x0n, x0c), (x1), (x2), (), ((IntKind.wrap .i64 (x1 + 1))), ()) w
def F121s.an : Ann := ⟨[(1, [(0, .kSl), (1, .kI .i64), (2, .kI .i64), (3, .kF 52), (8, .kI .i64)]), (4, [(0, .kSl), (1, .kI .i64), (2, .kI .i64), (3, .kF 52), (8, .kI .i64), (9, .kI .i64)])], [(6, [(0, .kSl), (1, .kI .i64), (2, .kI .i64), (3, .kF 52), (8, .kI .i64), (9, .kI .i64)])]⟩
theorem F121s.of (x0A : Option Addr) (x0n x0c : Nat) (x1 : Int) (x2 : Int) (w : World) {Q : Value → World → Prop} (h : F121s.vc x0A x0n x0c x1 x2 w Q) : Calls Tryz.prog 121 #[Value.slice x0A x0n x0c, Value.int .i64 x1, Value.int .i64 x2, Value.func (.func 52) #[] #[]] w (fun e w' => ∃ v, e = .returned v ∧ Q v w') := vcFn_of (A := F121s.an) noCount mixed h (by kernel_rfl)
/-! ### function 122: slices.symMergeCmpFunc[stillage/api.Word] -/
def F122s.b9c (Q : Value → World → Prop) (C9 : ((Option Addr × Nat × Nat) × Int × Int × Unit) → World → Prop) (x0 : (Option Addr × Nat × Nat)) (x10 : Int) (x13 : Int) (w : World) : Prop :=
  vIf (decide (x13 < (IntKind.wrap .i64 (x10 - 1))))
  (dr x0.1 fun b10 o11 =>
    gd (decide (0 ≤ (IntKind.wrap .i64 (x13 + 1)))) <|
    gd (decide ((IntKind.wrap .i64 (x13 + 1)) < ((x0.2.1 : Nat) : Int))) <|
    ldA 39 w.drew b10 (o11 + ((IntKind.wrap .i64 (x13 + 1))).toNat * 39) fun a12 =>
    dr x0.1 fun b13 o14 =>
    gd (decide (0 ≤ x13)) <|
    gd (decide (x13 < ((x0.2.1 : Nat) : Int))) <|
    ldA 39 w.drew b13 (o14 + (x13).toNat * 39) fun a15 =>
    dr x0.1 fun b16 o17 =>
    gd (decide (0 ≤ x13)) <|
    gd (decide (x13 < ((x0.2.1 : Nat) : Int))) <|
    gd (a12.length == 39) <|
    st w.drew b16 (o17 + (x13).toNat * 39) a12 fun w18 =>
    dr x0.1 fun b19 o20 =>
    gd (decide (0 ≤ (IntKind.wrap .i64 (x13 + 1)))) <|
    gd (decide ((IntKind.wrap .i64 (x13 + 1)) < ((x0.2.1 : Nat) : Int))) <|
    gd (a15.length == 39) <|
    st w18 b19 (o20 + ((IntKind.wrap .i64 (x13 + 1))).toNat * 39) a15 fun w21 =>
    jnC C9 ((x0.1, x0.2.1, x0.2.2), (x10), ((IntKind.wrap .i64 (x13 + 1))), ()) w21)
  (Q (Value.tuple #[]) w)
def F122s.b9 (Q : Value → World → Prop) : ((Option Addr × Nat × Nat) × Int × Int × Unit) → World → (((Option Addr × Nat × Nat) × Int × Int × Unit) → World → Prop) → Prop := fun s w C9 => ∀ _ : Nat → Value, F122s.b9c Q C9 s.1 s.2.1 s.2.2.1 w
def F122s.l9 (Q : Value → World → Prop) : ((Option Addr × Nat × Nat) × Int × Int × Unit) → World → Prop := fun s w => ∃ n, loopC (F122s.b9 Q) n s w
def F122s.b3c (Q : Value → World → Prop) (C3 : ((Option Addr × Nat × Nat) × Int × Unit × Int × Int × Unit) → World → Prop) (x0 : (Option Addr × Nat × Nat)) (x1 : Int) (x4 : Unit) (x10 : Int) (x11 : Int) (w : World) : Prop :=
  vIf (decide (x10 < x11))
  (dr x0.1 fun b1 o2 =>
    gd (decide (0 ≤ (IntKind.wrap .i64 (Int.fdiv (IntKind.wrap .u64 (IntKind.wrap .i64 (x10 + x11))) (2 ^ 1))))) <|
    gd (decide ((IntKind.wrap .i64 (Int.fdiv (IntKind.wrap .u64 (IntKind.wrap .i64 (x10 + x11))) (2 ^ 1))) < ((x0.2.1 : Nat) : Int))) <|
    ldA 39 w.drew b1 (o2 + ((IntKind.wrap .i64 (Int.fdiv (IntKind.wrap .u64 (IntKind.wrap .i64 (x10 + x11))) (2 ^ 1)))).toNat * 39) fun a3 =>
    dr x0.1 fun b4 o5 =>
    gd (decide (0 ≤ x1)) <|
    gd (decide (x1 < ((x0.2.1 : Nat) : Int))) <|
    ldA 39 w.drew b4 (o5 + (x1).toNat * 39) fun a6 =>
    Calls Tryz.prog 52 #[ofL a3, ofL a6] w.drew fun e8 w7 =>
    ∃ i9 : Int, e8 = .returned (Value.int .i64 i9) ∧ (
      vIf (decide (i9 < 0))
      (jnC C3 ((x0.1, x0.2.1, x0.2.2), (x1), (), ((IntKind.wrap .i64 ((IntKind.wrap .i64 (Int.fdiv (IntKind.wrap .u64 (IntKind.wrap .i64 (x10 + x11))) (2 ^ 1))) + 1))), (x11), ()) w7)
      (jnC C3 ((x0.1, x0.2.1, x0.2.2), (x1), (), (x10), ((IntKind.wrap .i64 (Int.fdiv (IntKind.wrap .u64 (IntKind.wrap .i64 (x10 + x11))) (2 ^ 1)))), ()) w7)))
  (jnC (F122s.l9 Q) ((x0.1, x0.2.1, x0.2.2), (x10), (x1), ()) w)
def F122s.b3 (Q : Value → World → Prop) : ((Option Addr × Nat × Nat) × Int × Unit × Int × Int × Unit) → World → (((Option Addr × Nat × Nat) × Int × Unit × Int × Int × Unit) → World → Prop) → Prop := fun s w C3 => ∀ _ : Nat → Value, F122s.b3c Q C3 s.1 s.2.1 s.2.2.1 s.2.2.2.1 s.2.2.2.2.1 w
def F122s.l3 (Q : Value → World → Prop) : ((Option Addr × Nat × Nat) × Int × Unit × Int × Int × Unit) → World → Prop := fun s w => ∃ n, loopC (F122s.b3 Q) n s w
def F122s.b21c (Q : Value → World → Prop) (C21 : ((Option Addr × Nat × Nat) × Int × Int × Unit) → World → Prop) (x0 : (Option Addr × Nat × Nat)) (x14 : Int) (x17 : Int) (w : World) : Prop :=
  vIf (decide (x17 > x14))
  (dr x0.1 fun b31 o32 =>
    gd (decide (0 ≤ (IntKind.wrap .i64 (x17 - 1)))) <|
    gd (decide ((IntKind.wrap .i64 (x17 - 1)) < ((x0.2.1 : Nat) : Int))) <|
    ldA 39 w.drew b31 (o32 + ((IntKind.wrap .i64 (x17 - 1))).toNat * 39) fun a33 =>
    dr x0.1 fun b34 o35 =>
    gd (decide (0 ≤ x17)) <|
    gd (decide (x17 < ((x0.2.1 : Nat) : Int))) <|
    ldA 39 w.drew b34 (o35 + (x17).toNat * 39) fun a36 =>
    dr x0.1 fun b37 o38 =>
    gd (decide (0 ≤ x17)) <|
    gd (decide (x17 < ((x0.2.1 : Nat) : Int))) <|
    gd (a33.length == 39) <|
    st w.drew b37 (o38 + (x17).toNat * 39) a33 fun w39 =>
    dr x0.1 fun b40 o41 =>
    gd (decide (0 ≤ (IntKind.wrap .i64 (x17 - 1)))) <|
    gd (decide ((IntKind.wrap .i64 (x17 - 1)) < ((x0.2.1 : Nat) : Int))) <|
    gd (a36.length == 39) <|
    st w39 b40 (o41 + ((IntKind.wrap .i64 (x17 - 1))).toNat * 39) a36 fun w42 =>
    jnC C21 ((x0.1, x0.2.1, x0.2.2), (x14), ((IntKind.wrap .i64 (x17 - 1))), ()) w42)
  (Q (Value.tuple #[]) w)
def F122s.b21 (Q : Value → World → Prop) : ((Option Addr × Nat × Nat) × Int × Int × Unit) → World → (((Option Addr × Nat × Nat) × Int × Int × Unit) → World → Prop) → Prop := fun s w C21 => ∀ _ : Nat → Value, F122s.b21c Q C21 s.1 s.2.1 s.2.2.1 w
def F122s.l21 (Q : Value → World → Prop) : ((Option Addr × Nat × Nat) × Int × Int × Unit) → World → Prop := fun s w => ∃ n, loopC (F122s.b21 Q) n s w
def F122s.b15c (Q : Value → World → Prop) (C15 : ((Option Addr × Nat × Nat) × Int × Unit × Int × Int × Unit) → World → Prop) (x0 : (Option Addr × Nat × Nat)) (x2 : Int) (x4 : Unit) (x14 : Int) (x15 : Int) (w : World) : Prop :=
  vIf (decide (x14 < x15))
  (dr x0.1 fun b22 o23 =>
    gd (decide (0 ≤ x2)) <|
    gd (decide (x2 < ((x0.2.1 : Nat) : Int))) <|
    ldA 39 w.drew b22 (o23 + (x2).toNat * 39) fun a24 =>
    dr x0.1 fun b25 o26 =>
    gd (decide (0 ≤ (IntKind.wrap .i64 (Int.fdiv (IntKind.wrap .u64 (IntKind.wrap .i64 (x14 + x15))) (2 ^ 1))))) <|
    gd (decide ((IntKind.wrap .i64 (Int.fdiv (IntKind.wrap .u64 (IntKind.wrap .i64 (x14 + x15))) (2 ^ 1))) < ((x0.2.1 : Nat) : Int))) <|
    ldA 39 w.drew b25 (o26 + ((IntKind.wrap .i64 (Int.fdiv (IntKind.wrap .u64 (IntKind.wrap .i64 (x14 + x15))) (2 ^ 1)))).toNat * 39) fun a27 =>
    Calls Tryz.prog 52 #[ofL a24, ofL a27] w.drew fun e29 w28 =>
    ∃ i30 : Int, e29 = .returned (Value.int .i64 i30) ∧ (
      vIf (!(decide (i30 < 0)))
      (jnC C15 ((x0.1, x0.2.1, x0.2.2), (x2), (), ((IntKind.wrap .i64 ((IntKind.wrap .i64 (Int.fdiv (IntKind.wrap .u64 (IntKind.wrap .i64 (x14 + x15))) (2 ^ 1))) + 1))), (x15), ()) w28)
      (jnC C15 ((x0.1, x0.2.1, x0.2.2), (x2), (), (x14), ((IntKind.wrap .i64 (Int.fdiv (IntKind.wrap .u64 (IntKind.wrap .i64 (x14 + x15))) (2 ^ 1)))), ()) w28)))
  (jnC (F122s.l21 Q) ((x0.1, x0.2.1, x0.2.2), (x14), (x2), ()) w)
def F122s.b15 (Q : Value → World → Prop) : ((Option Addr × Nat × Nat) × Int × Unit × Int × Int × Unit) → World → (((Option Addr × Nat × Nat) × Int × Unit × Int × Int × Unit) → World → Prop) → Prop := fun s w C15 => ∀ _ : Nat → Value, F122s.b15c Q C15 s.1 s.2.1 s.2.2.1 s.2.2.2.1 s.2.2.2.2.1 w
def F122s.l15 (Q : Value → World → Prop) : ((Option Addr × Nat × Nat) × Int × Unit × Int × Int × Unit) → World → Prop := fun s w => ∃ n, loopC (F122s.b15 Q) n s w
def F122s.k44c (Q : Value → World → Prop) (x0 : (Option Addr × Nat × Nat)) (x3 : Int) (x4 : Unit) (x18 : Int) (x24 : Int) (x213 : Bool) (w : World) : Prop :=
  vIf x213
  (Calls Tryz.prog 122 #[Value.slice x0.1 x0.2.1 x0.2.2, Value.int .i64 x18, Value.int .i64 x24, Value.int .i64 x3, Value.func (.func 52) #[] #[]] w fun e57 w56 =>
    e57 = .returned (Value.tuple #[]) ∧ (
      Q (Value.tuple #[]) w56))
  (Q (Value.tuple #[]) w)
def F122s.k44 (Q : Value → World → Prop) : ((Option Addr × Nat × Nat) × Int × Unit × Int × Int × Bool × Unit) → World → Prop := fun s w => ∀ _ : Nat → Value, F122s.k44c Q s.1 s.2.1 s.2.2.1 s.2.2.2.1 s.2.2.2.2.1 s.2.2.2.2.2.1 w
def F122s.k43c (Q : Value → World → Prop) (x0 : (Option Addr × Nat × Nat)) (x3 : Int) (x4 : Unit) (x18 : Int) (x24 : Int) (w : World) : Prop :=
  vIf (decide (x18 < x24))
  (jnC (F122s.k44 Q) ((x0.1, x0.2.1, x0.2.2), (x3), (), (x18), (x24), (decide (x24 < x3)), ()) w)
  (jnC (F122s.k44 Q) ((x0.1, x0.2.1, x0.2.2), (x3), (), (x18), (x24), false, ()) w)
def F122s.k43 (Q : Value → World → Prop) : ((Option Addr × Nat × Nat) × Int × Unit × Int × Int × Unit) → World → Prop := fun s w => ∀ _ : Nat → Value, F122s.k43c Q s.1 s.2.1 s.2.2.1 s.2.2.2.1 s.2.2.2.2.1 w
def F122s.k42c (Q : Value → World → Prop) (x0 : (Option Addr × Nat × Nat)) (x1 : Int) (x3 : Int) (x4 : Unit) (x18 : Int) (x20 : Int) (x24 : Int) (x199 : Bool) (w : World) : Prop :=
  vIf x199
  (Calls Tryz.prog 122 #[Value.slice x0.1 x0.2.1 x0.2.2, Value.int .i64 x1, Value.int .i64 x20, Value.int .i64 x18, Value.func (.func 52) #[] #[]] w fun e55 w54 =>
    e55 = .returned (Value.tuple #[]) ∧ (
      jnC (F122s.k43 Q) ((x0.1, x0.2.1, x0.2.2), (x3), (), (x18), (x24), ()) w54))
  (jnC (F122s.k43 Q) ((x0.1, x0.2.1, x0.2.2), (x3), (), (x18), (x24), ()) w)
def F122s.k42 (Q : Value → World → Prop) : ((Option Addr × Nat × Nat) × Int × Int × Unit × Int × Int × Int × Bool × Unit) → World → Prop := fun s w => ∀ _ : Nat → Value, F122s.k42c Q s.1 s.2.1 s.2.2.1 s.2.2.2.1 s.2.2.2.2.1 s.2.2.2.2.2.1 s.2.2.2.2.2.2.1 s.2.2.2.2.2.2.2.1 w
def F122s.k41c (Q : Value → World → Prop) (x0 : (Option Addr × Nat × Nat)) (x1 : Int) (x3 : Int) (x4 : Unit) (x18 : Int) (x20 : Int) (x24 : Int) (w : World) : Prop :=
  vIf (decide (x1 < x20))
  (jnC (F122s.k42 Q) ((x0.1, x0.2.1, x0.2.2), (x1), (x3), (), (x18), (x20), (x24), (decide (x20 < x18)), ()) w)
  (jnC (F122s.k42 Q) ((x0.1, x0.2.1, x0.2.2), (x1), (x3), (), (x18), (x20), (x24), false, ()) w)
def F122s.k41 (Q : Value → World → Prop) : ((Option Addr × Nat × Nat) × Int × Int × Unit × Int × Int × Int × Unit) → World → Prop := fun s w => ∀ _ : Nat → Value, F122s.k41c Q s.1 s.2.1 s.2.2.1 s.2.2.2.1 s.2.2.2.2.1 s.2.2.2.2.2.1 s.2.2.2.2.2.2.1 w
def F122s.k40c (Q : Value → World → Prop) (x0 : (Option Addr × Nat × Nat)) (x1 : Int) (x2 : Int) (x3 : Int) (x4 : Unit) (x18 : Int) (x20 : Int) (x24 : Int) (x185 : Bool) (w : World) : Prop :=
  vIf x185
  (Calls Tryz.prog 145 #[Value.slice x0.1 x0.2.1 x0.2.2, Value.int .i64 x20, Value.int .i64 x2, Value.int .i64 x24, Value.func (.func 52) #[] #[]] w fun e53 w52 =>
    e53 = .returned (Value.tuple #[]) ∧ (
      jnC (F122s.k41 Q) ((x0.1, x0.2.1, x0.2.2), (x1), (x3), (), (x18), (x20), (x24), ()) w52))
  (jnC (F122s.k41 Q) ((x0.1, x0.2.1, x0.2.2), (x1), (x3), (), (x18), (x20), (x24), ()) w)
def F122s.k40 (Q : Value → World → Prop) : ((Option Addr × Nat × Nat) × Int × Int × Int × Unit × Int × Int × Int × Bool × Unit) → World → Prop := fun s w => ∀ _ : Nat → Value, F122s.k40c Q s.1 s.2.1 s.2.2.1 s.2.2.2.1 s.2.2.2.2.1 s.2.2.2.2.2.1 s.2.2.2.2.2.2.1 s.2.2.2.2.2.2.2.1 s.2.2.2.2.2.2.2.2.1 w
def F122s.b33c (Q : Value → World → Prop) (C33 : ((Option Addr × Nat × Nat) × Int × Int × Int × Unit × Int × Int × Int × Int × Int × Unit) → World → Prop) (x0 : (Option Addr × Nat × Nat)) (x1 : Int) (x2 : Int) (x3 : Int) (x4 : Unit) (x18 : Int) (x19 : Int) (x20 : Int) (x21 : Int) (x22 : Int) (w : World) : Prop :=
  vIf (decide (x20 < x21))
  (dr x0.1 fun b43 o44 =>
    gd (decide (0 ≤ (IntKind.wrap .i64 (x22 - (IntKind.wrap .i64 (Int.fdiv (IntKind.wrap .u64 (IntKind.wrap .i64 (x20 + x21))) (2 ^ 1))))))) <|
    gd (decide ((IntKind.wrap .i64 (x22 - (IntKind.wrap .i64 (Int.fdiv (IntKind.wrap .u64 (IntKind.wrap .i64 (x20 + x21))) (2 ^ 1))))) < ((x0.2.1 : Nat) : Int))) <|
    ldA 39 w.drew b43 (o44 + ((IntKind.wrap .i64 (x22 - (IntKind.wrap .i64 (Int.fdiv (IntKind.wrap .u64 (IntKind.wrap .i64 (x20 + x21))) (2 ^ 1)))))).toNat * 39) fun a45 =>
    dr x0.1 fun b46 o47 =>
    gd (decide (0 ≤ (IntKind.wrap .i64 (Int.fdiv (IntKind.wrap .u64 (IntKind.wrap .i64 (x20 + x21))) (2 ^ 1))))) <|
    gd (decide ((IntKind.wrap .i64 (Int.fdiv (IntKind.wrap .u64 (IntKind.wrap .i64 (x20 + x21))) (2 ^ 1))) < ((x0.2.1 : Nat) : Int))) <|
    ldA 39 w.drew b46 (o47 + ((IntKind.wrap .i64 (Int.fdiv (IntKind.wrap .u64 (IntKind.wrap .i64 (x20 + x21))) (2 ^ 1)))).toNat * 39) fun a48 =>
    Calls Tryz.prog 52 #[ofL a45, ofL a48] w.drew fun e50 w49 =>
    ∃ i51 : Int, e50 = .returned (Value.int .i64 i51) ∧ (
      vIf (!(decide (i51 < 0)))
      (jnC C33 ((x0.1, x0.2.1, x0.2.2), (x1), (x2), (x3), (), (x18), (x19), ((IntKind.wrap .i64 ((IntKind.wrap .i64 (Int.fdiv (IntKind.wrap .u64 (IntKind.wrap .i64 (x20 + x21))) (2 ^ 1))) + 1))), (x21), (x22), ()) w49)
      (jnC C33 ((x0.1, x0.2.1, x0.2.2), (x1), (x2), (x3), (), (x18), (x19), (x20), ((IntKind.wrap .i64 (Int.fdiv (IntKind.wrap .u64 (IntKind.wrap .i64 (x20 + x21))) (2 ^ 1)))), (x22), ()) w49)))
  (vIf (decide (x20 < x2))
    (jnC (F122s.k40 Q) ((x0.1, x0.2.1, x0.2.2), (x1), (x2), (x3), (), (x18), (x20), ((IntKind.wrap .i64 (x19 - x20))), (decide (x2 < (IntKind.wrap .i64 (x19 - x20)))), ()) w)
    (jnC (F122s.k40 Q) ((x0.1, x0.2.1, x0.2.2), (x1), (x2), (x3), (), (x18), (x20), ((IntKind.wrap .i64 (x19 - x20))), false, ()) w))
def F122s.b33 (Q : Value → World → Prop) : ((Option Addr × Nat × Nat) × Int × Int × Int × Unit × Int × Int × Int × Int × Int × Unit) → World → (((Option Addr × Nat × Nat) × Int × Int × Int × Unit × Int × Int × Int × Int × Int × Unit) → World → Prop) → Prop := fun s w C33 => ∀ _ : Nat → Value, F122s.b33c Q C33 s.1 s.2.1 s.2.2.1 s.2.2.2.1 s.2.2.2.2.1 s.2.2.2.2.2.1 s.2.2.2.2.2.2.1 s.2.2.2.2.2.2.2.1 s.2.2.2.2.2.2.2.2.1 s.2.2.2.2.2.2.2.2.2.1 w
def F122s.l33 (Q : Value → World → Prop) : ((Option Addr × Nat × Nat) × Int × Int × Int × Unit × Int × Int × Int × Int × Int × Unit) → World → Prop := fun s w => ∃ n, loopC (F122s.b33 Q) n s w
def F122s.k32c (Q : Value → World → Prop) (x0 : (Option Addr × Nat × Nat)) (x1 : Int) (x2 : Int) (x3 : Int) (x4 : Unit) (x18 : Int) (x19 : Int) (x20 : Int) (x21 : Int) (w : World) : Prop :=
  jnC (F122s.l33 Q) ((x0.1, x0.2.1, x0.2.2), (x1), (x2), (x3), (), (x18), (x19), (x20), (x21), ((IntKind.wrap .i64 (x19 - 1))), ()) w
def F122s.k32 (Q : Value → World → Prop) : ((Option Addr × Nat × Nat) × Int × Int × Int × Unit × Int × Int × Int × Int × Unit) → World → Prop := fun s w => ∀ _ : Nat → Value, F122s.k32c Q s.1 s.2.1 s.2.2.1 s.2.2.2.1 s.2.2.2.2.1 s.2.2.2.2.2.1 s.2.2.2.2.2.2.1 s.2.2.2.2.2.2.2.1 s.2.2.2.2.2.2.2.2.1 w
def F122s.vc (x0A : Option Addr) (x0n x0c : Nat) (x1 : Int) (x2 : Int) (x3 : Int) (w : World) (Q : Value → World → Prop) : Prop :=
  vIf ((IntKind.wrap .i64 (x2 - x1)) == 1)
  (jnC (F122s.l3 Q) ((x0A, x0n, x0c), (x1), (), (x2), (x3), ()) w)
  (vIf ((IntKind.wrap .i64 (x3 - x2)) == 1)
    (jnC (F122s.l15 Q) ((x0A, x0n, x0c), (x2), (), (x1), (x2), ()) w)
    (vIf (decide (x2 > (IntKind.wrap .i64 (Int.fdiv (IntKind.wrap .u64 (IntKind.wrap .i64 (x1 + x3))) (2 ^ 1)))))
      (jnC (F122s.k32 Q) ((x0A, x0n, x0c), (x1), (x2), (x3), (), ((IntKind.wrap .i64 (Int.fdiv (IntKind.wrap .u64 (IntKind.wrap .i64 (x1 + x3))) (2 ^ 1)))), ((IntKind.wrap .i64 ((IntKind.wrap .i64 (Int.fdiv (IntKind.wrap .u64 (IntKind.wrap .i64 (x1 + x3))) (2 ^ 1))) + x2))), ((IntKind.wrap .i64 ((IntKind.wrap .i64 ((IntKind.wrap .i64 (Int.fdiv (IntKind.wrap .u64 (IntKind.wrap .i64 (x1 + x3))) (2 ^ 1))) + x2)) - x3))), ((IntKind.wrap .i64 (Int.fdiv (IntKind.wrap .u64 (IntKind.wrap .i64 (x1 + x3))) (2 ^ 1)))), ()) w)
      (jnC (F122s.k32 Q) ((x0A, x0n, x0c), (x1), (x2), (x3), (), ((IntKind.wrap .i64 (Int.fdiv (IntKind.wrap .u64 (IntKind.wrap .i64 (x1 + x3))) (2 ^ 1)))), ((IntKind.wrap .i64 ((IntKind.wrap .i64 (Int.fdiv (IntKind.wrap .u64 (IntKind.wrap .i64 (x1 + x3))) (2 ^ 1))) + x2))), (x1), (x2), ()) w)))
def F122s.an : Ann := ⟨[(3, [(0, .kSl), (1, .kI .i64), (4, .kF 52), (10, .kI .i64), (11, .kI .i64)]), (9, [(0, .kSl), (10, .kI .i64), (13, .kI .i64)]), (15, [(0, .kSl), (2, .kI .i64), (4, .kF 52), (14, .kI .i64), (15, .kI .i64)]), (21, [(0, .kSl), (14, .kI .i64), (17, .kI .i64)]), (33, [(0, .kSl), (1, .kI .i64), (2, .kI .i64), (3, .kI .i64), (4, .kF 52), (18, .kI .i64), (19, .kI .i64), (20, .kI .i64), (21, .kI .i64), (22, .kI .i64)])], [(32, [(0, .kSl), (1, .kI .i64), (2, .kI .i64), (3, .kI .i64), (4, .kF 52), (18, .kI .i64), (19, .kI .i64), (20, .kI .i64), (21, .kI .i64)]), (40, [(0, .kSl), (1, .kI .i64), (2, .kI .i64), (3, .kI .i64), (4, .kF 52), (18, .kI .i64), (20, .kI .i64), (24, .kI .i64), (185, .kB)]), (41, [(0, .kSl), (1, .kI .i64), (3, .kI .i64), (4, .kF 52), (18, .kI .i64), (20, .kI .i64), (24, .kI .i64)]), (42, [(0, .kSl), (1, .kI .i64), (3, .kI .i64), (4, .kF 52), (18, .kI .i64), (20, .kI .i64), (24, .kI .i64), (199, .kB)]), (43, [(0, .kSl), (3, .kI .i64), (4, .kF 52), (18, .kI .i64), (24, .kI .i64)]), (44, [(0, .kSl), (3, .kI .i64), (4, .kF 52), (18, .kI .i64), (24, .kI .i64), (213, .kB)])]⟩
theorem F122s.of (x0A : Option Addr) (x0n x0c : Nat) (x1 : Int) (x2 : Int) (x3 : Int) (w : World) {Q : Value → World → Prop} (h : F122s.vc x0A x0n x0c x1 x2 x3 w Q) : Calls Tryz.prog 122 #[Value.slice x0A x0n x0c, Value.int .i64 x1, Value.int .i64 x2, Value.int .i64 x3, Value.func (.func 52) #[] #[]] w (fun e w' => ∃ v, e = .returned v ∧ Q v w') := vcFn_of (A := F122s.an) noCount mixed h (by kernel_rfl)
end Go.Proofs.YthcclmlbkfadcaaGreat
