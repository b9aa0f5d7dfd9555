import Derived.Shelf.Lays
import Derived.Test.YthcclmlbkfadcaaGreatProg
import Derived.Shelf.Sort.Plain
import Derived.Shelf.Slices.In.SortNone
import Derived.Test.YthcclmlbkfadcaaGreatP1
/- PRINTED BY MY OWN gen.py out of the translation: each function as a proposition. -/
namespace Go.Proofs.YthcclmlbkfadcaaGreat
open Go.GV
set_option linter.unusedVariables false
set_option maxRecDepth 100000
/-! ### function 4: stillage/stillagelaw22.StateAsks -/
def F4.vc (x0 : List Value) (x1 : List Value) (x2 : ByteArray) (w : World) (Q : Value → World → Prop) : Prop :=
  nw w x0 30 fun b1 w2 =>
  nw w2 x1 33 fun b3 w4 =>
  ldA 7 w4 b1 0 fun a5 =>
  Calls Tryz.prog 8 #[ofL a5] w4 fun e7 w6 =>
  ∃ p8 : Option Addr, e7 = .returned (Value.pointer p8) ∧ (
    ldA 7 w6 b1 0 fun a9 =>
    Calls Tryz.prog 14 #[ofL a9] w6 fun e11 w10 =>
    ∃ a12 : List Value, e11 = .returned (ofL a12) ∧ (
      nw w10 [Value.slice none 0 0, Value.slice none 0 0, Value.slice none 0 0] 44 fun b13 w14 =>
      gd (a12.length == 3) <|
      st w14 b13 0 a12 fun w15 =>
      ldA 32 w15 b3 0 fun a16 =>
      Calls Tryz.prog 15 #[Value.pointer p8, ofL a16] w15 fun e18 w17 =>
      ∃ a19 : List Value, ∃ t20 : Bool, e18 = .returned (Value.tuple #[ofL a19, Value.bool t20]) ∧ (
        nw w17 Z48 48 fun b21 w22 =>
        gd (a19.length == 38) <|
        st w22 b21 0 a19 fun w23 =>
        ldSl w23 b13 0 fun A24 n25 c26 =>
        ldA 32 w23 b3 0 fun a27 =>
        Calls Tryz.prog 16 #[Value.slice A24 n25 c26, ofL a27] w23 fun e29 w28 =>
        ∃ a30 : List Value, ∃ t31 : Bool, e29 = .returned (Value.tuple #[ofL a30, Value.bool t31]) ∧ (
          nw w28 Z48 48 fun b32 w33 =>
          gd (a30.length == 38) <|
          st w33 b32 0 a30 fun w34 =>
          Calls Tryz.prog 17 #[Value.pointer p8, Value.string x2] w34 fun e36 w35 =>
          ∃ a37 : List Value, ∃ t38 : Bool, e36 = .returned (Value.tuple #[ofL a37, Value.bool t38]) ∧ (
            nw w35 Z53 53 fun b39 w40 =>
            gd (a37.length == 38) <|
            st w40 b39 0 a37 fun w41 =>
            ldSl w41 b13 (0 + 1) fun A42 n43 c44 =>
            Calls Tryz.prog 18 #[Value.slice A42 n43 c44, Value.string x2] w41 fun e46 w45 =>
            ∃ a47 : List Value, ∃ t48 : Bool, e46 = .returned (Value.tuple #[ofL a47, Value.bool t48]) ∧ (
              nw w45 Z53 53 fun b49 w50 =>
              gd (a47.length == 38) <|
              st w50 b49 0 a47 fun w51 =>
              Calls Tryz.prog 19 #[Value.pointer p8] w51 fun e53 w52 =>
              ∃ i54 : Int, ∃ i55 : Int, ∃ i56 : Int, e53 = .returned (Value.tuple #[Value.int .i64 i54, Value.int .i64 i55, Value.int .i64 i56]) ∧ (
                ldSl w52 b13 0 fun A57 n58 c59 =>
                Calls Tryz.prog 20 #[Value.slice A57 n58 c59] w52 fun e61 w60 =>
                ∃ i62 : Int, ∃ i63 : Int, e61 = .returned (Value.tuple #[Value.int .i64 i62, Value.int .i64 i63]) ∧ (
                  ldA 38 w60.drew b21 0 fun a64 =>
                  ldA 38 w60.drew b32 0 fun a65 =>
                  Calls Tryz.prog 21 #[ofL a64, ofL a65] w60.drew fun e67 w66 =>
                  ∃ t68 : Bool, e67 = .returned (Value.bool t68) ∧ (
                    vIf t68
                    (vIf (t20 == t31)
                      (ldA 38 w66 b39 0 fun a69 =>
                        ldA 38 w66 b49 0 fun a70 =>
                        Calls Tryz.prog 22 #[ofL a69, ofL a70] w66 fun e72 w71 =>
                        ∃ t73 : Bool, e72 = .returned (Value.bool t73) ∧ (
                          vIf t73
                          (vIf (t38 == t48)
                            (vIf (i54 == i62)
                              (vIf (i55 == i63)
                                (ldSl w71 b13 (0 + 1) fun A74 n75 c76 =>
                                  Calls Tryz.prog 23 #[Value.slice A74 n75 c76] w71 fun e78 w77 =>
                                  ∃ (A79 : Option Addr) (n80 c81 : Nat), e78 = .returned (Value.slice A79 n80 c81) ∧ (
                                    vIf (i56 == ((n80 : Nat) : Int))
                                    (ldSl w77 b13 (0 + 1) fun A82 n83 c84 =>
                                      Calls Tryz.prog 25 #[Value.pointer p8] w77 fun e86 w85 =>
                                      ∃ (A87 : Option Addr) (n88 c89 : Nat), e86 = .returned (Value.slice A87 n88 c89) ∧ (
                                        kp w77 b13 (0 + 1) 1 w85 <|
                                        Calls Tryz.prog 23 #[Value.slice A82 n83 c84] w85 fun e91 w90 =>
                                        ∃ (A92 : Option Addr) (n93 c94 : Nat), e91 = .returned (Value.slice A92 n93 c94) ∧ (
                                        Calls Tryz.prog 24 #[Value.slice A87 n88 c89, Value.slice A92 n93 c94] w90 fun e96 w95 =>
                                        ∃ t97 : Bool, e96 = .returned (Value.bool t97) ∧ (
                                        vIf t97
                                        (ldSl w95 b13 (0 + 1) fun A98 n99 c100 =>
                                        Calls Tryz.prog 27 #[Value.pointer p8, Value.string x2, Value.int .i64 3] w95 fun e102 w101 =>
                                        ∃ (A103 : Option Addr) (n104 c105 : Nat), e102 = .returned (Value.slice A103 n104 c105) ∧ (
                                        kp w95 b13 (0 + 1) 1 w101 <|
                                        Calls Tryz.prog 28 #[Value.slice A98 n99 c100, Value.string x2, Value.int .i64 3] w101 fun e107 w106 =>
                                        ∃ (A108 : Option Addr) (n109 c110 : Nat), e107 = .returned (Value.slice A108 n109 c110) ∧ (
                                        Calls Tryz.prog 26 #[Value.slice A103 n104 c105, Value.slice A108 n109 c110] w106 fun e112 w111 =>
                                        ∃ t113 : Bool, e112 = .returned (Value.bool t113) ∧ (
                                        vIf t113
                                        (Calls Tryz.prog 10 #[] w111 fun e115 w114 =>
                                        ∃ t116 : Bool, e115 = .returned (Value.bool t116) ∧ (
                                        Q (Value.bool t116) w114))
                                        (Q (Value.bool false) w111)))))
                                        (Q (Value.bool false) w95)))))
                                    (Q (Value.bool false) w77)))
                                (Q (Value.bool false) w71))
                              (Q (Value.bool false) w71))
                            (Q (Value.bool false) w71))
                          (Q (Value.bool false) w71)))
                      (Q (Value.bool false) w66))
                    (Q (Value.bool false) w66))))))))))
def F4.an : Ann := ⟨[], []⟩
theorem F4.of (x0 : List Value) (x1 : List Value) (x2 : ByteArray) (w : World) {Q : Value → World → Prop} (h : F4.vc x0 x1 x2 w Q) : Calls Tryz.prog 4 #[ofL x0, ofL x1, Value.string x2] w (fun e w' => ∃ v, e = .returned v ∧ Q v w') := vcFn_of (A := F4.an) noCount mixed h (by kernel_rfl)
/-! ### function 8: stillage/state.New -/
def F8.b3c (Q : Value → World → Prop) (C3 : ((Nat × Nat) × (Option Addr × Nat × Nat) × Int × Int × Unit) → World → Prop) (x3 : (Nat × Nat)) (x16 : (Option Addr × Nat × Nat)) (x17 : Int) (x18 : Int) (w : World) : Prop :=
  vIf (decide (x18 < x17))
  (dr x16.1 fun b20 o21 =>
    gd (decide (0 ≤ x18)) <|
    gd (decide (x18 < ((x16.2.1 : Nat) : Int))) <|
    ldA 3 w b20 (o21 + (x18).toNat * 3) fun a22 =>
    nw w [Value.int .i64 0, Value.int .i64 0, Value.int .i64 0] 98 fun b23 w24 =>
    gd (a22.length == 3) <|
    st w24 b23 0 a22 fun w25 =>
    ldI .i64 w25 b23 0 fun i26 =>
    ldI .i64 w25 b23 (0 + 1) fun i27 =>
    Calls Tryz.prog 42 #[Value.pointer (some ⟨x3.1, x3.2, none⟩), Value.int .i64 i26, Value.int .i64 i27] w25 fun e29 w28 =>
    e29 = .returned (Value.tuple #[]) ∧ (
      jnC C3 ((x3.1, x3.2), (x16.1, x16.2.1, x16.2.2), (x17), ((IntKind.wrap .i64 (x18 + 1))), ()) w28))
  (Q (Value.pointer (some ⟨x3.1, x3.2, none⟩)) w)
def F8.b3 (Q : Value → World → Prop) : ((Nat × Nat) × (Option Addr × Nat × Nat) × Int × Int × Unit) → World → (((Nat × Nat) × (Option Addr × Nat × Nat) × Int × Int × Unit) → World → Prop) → Prop := fun s w C3 => ∀ _ : Nat → Value, F8.b3c Q C3 s.1 s.2.1 s.2.2.1 s.2.2.2.1 w
def F8.l3 (Q : Value → World → Prop) : ((Nat × Nat) × (Option Addr × Nat × Nat) × Int × Int × Unit) → World → Prop := fun s w => ∃ n, loopC (F8.b3 Q) n s w
def F8.vc (x0 : List Value) (w : World) (Q : Value → World → Prop) : Prop :=
  nw w x0 30 fun b1 w2 =>
  ldSl w2.drew b1 (0 + 4) fun A3 n4 c5 =>
  ldSl w2.drew b1 (0 + 5) fun A6 n7 c8 =>
  Calls Tryz.prog 40 #[Value.slice A3 n4 c5] w2.drew fun e10 w9 =>
  ∃ p11 : Option Addr, e10 = .returned (Value.pointer p11) ∧ (
    kp w2.drew b1 (0 + 5) 1 w9 <|
    Calls Tryz.prog 41 #[Value.slice A6 n7 c8] w9 fun e13 w12 =>
    ∃ p14 : Option Addr, e13 = .returned (Value.pointer p14) ∧ (
      gd (([Value.pointer p11] ++ ([Value.slice none 0 0] ++ [])).length == 2) <|
      nw w12 (([Value.pointer p11] ++ ([Value.slice none 0 0] ++ [])) ++ ([Value.pointer p14] ++ [])) 96 fun b15 w16 =>
      ldSl w16 b1 (0 + 6) fun A17 n18 c19 =>
      jnC (F8.l3 Q) ((b15, 0), (A17, n18, c19), (((n18 : Nat) : Int)), (0), ()) w16))
def F8.an : Ann := ⟨[(3, [(3, .kL), (16, .kSl), (17, .kI .i64), (18, .kI .i64)])], []⟩
theorem F8.of (x0 : List Value) (w : World) {Q : Value → World → Prop} (h : F8.vc x0 w Q) : Calls Tryz.prog 8 #[ofL x0] w (fun e w' => ∃ v, e = .returned v ∧ Q v w') := vcFn_of (A := F8.an) noCount mixed h (by kernel_rfl)
/-! ### function 9: (*stillage/state.State).Apply -/
def F9.k9c (Q : Value → World → Prop) (x0 : Option Addr) (x3 : (Nat × Nat)) (x6 : Int) (w : World) : Prop :=
  ldI .i64 w x3.1 (x3.2 + 36) fun i30 =>
  ldI .i64 w x3.1 ((x3.2 + 36) + 2) fun i31 =>
  Calls Tryz.prog 42 #[Value.pointer x0, Value.int .i64 i30, Value.int .i64 (IntKind.wrap .i64 (x6 + i31))] w fun e33 w32 =>
  e33 = .returned (Value.tuple #[]) ∧ (
    Q (Value.tuple #[]) w32)
def F9.k9 (Q : Value → World → Prop) : (Option Addr × (Nat × Nat) × Int × Unit) → World → Prop := fun s w => ∀ _ : Nat → Value, F9.k9c Q s.1 s.2.1 s.2.2.1 w
def F9.k5c (Q : Value → World → Prop) (x0 : Option Addr) (x3 : (Nat × Nat)) (x29 : Bool) (w : World) : Prop :=
  vIf x29
  (ldI .i64 w x3.1 (x3.2 + 36) fun i17 =>
    Calls Tryz.prog 45 #[Value.pointer x0, Value.int .i64 i17] w fun e19 w18 =>
    ∃ i20 : Int, ∃ t21 : Bool, e19 = .returned (Value.tuple #[Value.int .i64 i20, Value.bool t21]) ∧ (
      vIf t21
      (dr x0 fun b22 o23 =>
        ldSl w18 b22 (o23 + 1) fun A24 n25 c26 =>
        dr A24 fun b27 o28 =>
        gd (decide (0 ≤ i20)) <|
        gd (decide (i20 < ((n25 : Nat) : Int))) <|
        ldI .i64 w18 b27 ((o28 + (i20).toNat * 3) + 1) fun i29 =>
        jnC (F9.k9 Q) (x0, (x3.1, x3.2), (i29), ()) w18)
      (jnC (F9.k9 Q) (x0, (x3.1, x3.2), (0), ()) w18)))
  (Q (Value.tuple #[]) w)
def F9.k5 (Q : Value → World → Prop) : (Option Addr × (Nat × Nat) × Bool × Unit) → World → Prop := fun s w => ∀ _ : Nat → Value, F9.k5c Q s.1 s.2.1 s.2.2.1 w
def F9.vc (x0 : Option Addr) (x1 : List Value) (w : World) (Q : Value → World → Prop) : Prop :=
  nw w x1 37 fun b1 w2 =>
  vIf x0.isNone
  (Q (Value.tuple #[]) w2)
  (dr x0 fun b3 o4 =>
    ldP w2.drew b3 o4 fun p5 =>
    ldA 39 w2.drew b1 0 fun a6 =>
    Calls Tryz.prog 43 #[Value.pointer p5, ofL a6] w2.drew fun e8 w7 =>
    e8 = .returned (Value.tuple #[]) ∧ (
      dr x0 fun b9 o10 =>
      ldP w7.drew b9 (o10 + 2) fun p11 =>
      ldA 39 w7.drew b1 0 fun a12 =>
      Calls Tryz.prog 44 #[Value.pointer p11, ofL a12] w7.drew fun e14 w13 =>
      e14 = .returned (Value.tuple #[]) ∧ (
        ldI .i64 w13 b1 0 fun i15 =>
        vIf (decide (i15 ≥ 1))
        (ldI .i64 w13 b1 0 fun i16 =>
          jnC (F9.k5 Q) (x0, (b1, 0), (decide (i16 ≤ 5)), ()) w13)
        (jnC (F9.k5 Q) (x0, (b1, 0), false, ()) w13))))
def F9.an : Ann := ⟨[], [(5, [(0, .kP), (3, .kL), (29, .kB)]), (9, [(0, .kP), (3, .kL), (6, .kI .i64)])]⟩
theorem F9.of (x0 : Option Addr) (x1 : List Value) (w : World) {Q : Value → World → Prop} (h : F9.vc x0 x1 w Q) : Calls Tryz.prog 9 #[Value.pointer x0, ofL x1] w (fun e w' => ∃ v, e = .returned v ∧ Q v w') := vcFn_of (A := F9.an) noCount mixed h (by kernel_rfl)
/-! ### function 10: stillage/stillagelaw22.lives -/
def F10.vc  (w : World) (Q : Value → World → Prop) : Prop :=
  Calls Tryz.prog 8 #[ofL ([Value.int .i64 0] ++ ([Value.int .i64 0] ++ ([Value.int .i64 0] ++ ([Value.int .u64 0] ++ ([Value.slice none 0 0] ++ ([Value.slice none 0 0] ++ ([Value.slice none 0 0] ++ [])))))))] w fun e2 w1 =>
  ∃ p3 : Option Addr, e2 = .returned (Value.pointer p3) ∧ (
    gd (([Value.int .u8 1] ++ ([Value.int .u8 0] ++ ([Value.int .u8 0] ++ ([Value.int .u8 0] ++ ([Value.int .u8 0] ++ ([Value.int .u8 0] ++ ([Value.int .u8 0] ++ ([Value.int .u8 0] ++ ([Value.int .u8 0] ++ ([Value.int .u8 0] ++ ([Value.int .u8 0] ++ ([Value.int .u8 0] ++ ([Value.int .u8 0] ++ ([Value.int .u8 0] ++ ([Value.int .u8 0] ++ ([Value.int .u8 0] ++ ([Value.int .u8 0] ++ ([Value.int .u8 0] ++ ([Value.int .u8 0] ++ ([Value.int .u8 0] ++ ([Value.int .u8 0] ++ ([Value.int .u8 0] ++ ([Value.int .u8 0] ++ ([Value.int .u8 0] ++ ([Value.int .u8 0] ++ ([Value.int .u8 0] ++ ([Value.int .u8 0] ++ ([Value.int .u8 0] ++ ([Value.int .u8 0] ++ ([Value.int .u8 0] ++ ([Value.int .u8 0] ++ ([Value.int .u8 0] ++ [])))))))))))))))))))))))))))))))).length == 32) <|
    gd (([Value.int .i64 1] ++ ([Value.int .i64 37] ++ ([Value.int .i64 62] ++ []))).length == 3) <|
    Calls Tryz.prog 9 #[Value.pointer p3, ofL ([Value.int .i64 1] ++ ([Value.int .u64 0] ++ (([Value.int .u8 1] ++ ([Value.int .u8 0] ++ ([Value.int .u8 0] ++ ([Value.int .u8 0] ++ ([Value.int .u8 0] ++ ([Value.int .u8 0] ++ ([Value.int .u8 0] ++ ([Value.int .u8 0] ++ ([Value.int .u8 0] ++ ([Value.int .u8 0] ++ ([Value.int .u8 0] ++ ([Value.int .u8 0] ++ ([Value.int .u8 0] ++ ([Value.int .u8 0] ++ ([Value.int .u8 0] ++ ([Value.int .u8 0] ++ ([Value.int .u8 0] ++ ([Value.int .u8 0] ++ ([Value.int .u8 0] ++ ([Value.int .u8 0] ++ ([Value.int .u8 0] ++ ([Value.int .u8 0] ++ ([Value.int .u8 0] ++ ([Value.int .u8 0] ++ ([Value.int .u8 0] ++ ([Value.int .u8 0] ++ ([Value.int .u8 0] ++ ([Value.int .u8 0] ++ ([Value.int .u8 0] ++ ([Value.int .u8 0] ++ ([Value.int .u8 0] ++ ([Value.int .u8 0] ++ [])))))))))))))))))))))))))))))))) ++ ([Value.string (⟨#[]⟩ : ByteArray)] ++ ([Value.int .i64 9] ++ (([Value.int .i64 1] ++ ([Value.int .i64 37] ++ ([Value.int .i64 62] ++ []))) ++ []))))))] w1 fun e5 w4 =>
    e5 = .returned (Value.tuple #[]) ∧ (
      gd (([Value.int .u8 1] ++ ([Value.int .u8 0] ++ ([Value.int .u8 0] ++ ([Value.int .u8 0] ++ ([Value.int .u8 0] ++ ([Value.int .u8 0] ++ ([Value.int .u8 0] ++ ([Value.int .u8 0] ++ ([Value.int .u8 0] ++ ([Value.int .u8 0] ++ ([Value.int .u8 0] ++ ([Value.int .u8 0] ++ ([Value.int .u8 0] ++ ([Value.int .u8 0] ++ ([Value.int .u8 0] ++ ([Value.int .u8 0] ++ ([Value.int .u8 0] ++ ([Value.int .u8 0] ++ ([Value.int .u8 0] ++ ([Value.int .u8 0] ++ ([Value.int .u8 0] ++ ([Value.int .u8 0] ++ ([Value.int .u8 0] ++ ([Value.int .u8 0] ++ ([Value.int .u8 0] ++ ([Value.int .u8 0] ++ ([Value.int .u8 0] ++ ([Value.int .u8 0] ++ ([Value.int .u8 0] ++ ([Value.int .u8 0] ++ ([Value.int .u8 0] ++ ([Value.int .u8 0] ++ [])))))))))))))))))))))))))))))))).length == 32) <|
      gd (([Value.int .i64 2] ++ ([Value.int .i64 37] ++ ([Value.int .i64 53] ++ []))).length == 3) <|
      Calls Tryz.prog 9 #[Value.pointer p3, ofL ([Value.int .i64 5] ++ ([Value.int .u64 0] ++ (([Value.int .u8 1] ++ ([Value.int .u8 0] ++ ([Value.int .u8 0] ++ ([Value.int .u8 0] ++ ([Value.int .u8 0] ++ ([Value.int .u8 0] ++ ([Value.int .u8 0] ++ ([Value.int .u8 0] ++ ([Value.int .u8 0] ++ ([Value.int .u8 0] ++ ([Value.int .u8 0] ++ ([Value.int .u8 0] ++ ([Value.int .u8 0] ++ ([Value.int .u8 0] ++ ([Value.int .u8 0] ++ ([Value.int .u8 0] ++ ([Value.int .u8 0] ++ ([Value.int .u8 0] ++ ([Value.int .u8 0] ++ ([Value.int .u8 0] ++ ([Value.int .u8 0] ++ ([Value.int .u8 0] ++ ([Value.int .u8 0] ++ ([Value.int .u8 0] ++ ([Value.int .u8 0] ++ ([Value.int .u8 0] ++ ([Value.int .u8 0] ++ ([Value.int .u8 0] ++ ([Value.int .u8 0] ++ ([Value.int .u8 0] ++ ([Value.int .u8 0] ++ ([Value.int .u8 0] ++ [])))))))))))))))))))))))))))))))) ++ ([Value.string (⟨#[]⟩ : ByteArray)] ++ ([Value.int .i64 0] ++ (([Value.int .i64 2] ++ ([Value.int .i64 37] ++ ([Value.int .i64 53] ++ []))) ++ []))))))] w4 fun e7 w6 =>
      e7 = .returned (Value.tuple #[]) ∧ (
        Calls Tryz.prog 36 #[Value.pointer p3] w6 fun e9 w8 =>
        ∃ (A10 : Option Addr) (n11 c12 : Nat), e9 = .returned (Value.slice A10 n11 c12) ∧ (
          Calls Tryz.prog 12 #[Value.pointer p3, Value.int .i64 1] w8 fun e14 w13 =>
          ∃ (A15 : Option Addr) (n16 c17 : Nat), e14 = .returned (Value.slice A15 n16 c17) ∧ (
            vIf (((n16 : Nat) : Int) == 0)
            (Calls Tryz.prog 12 #[Value.pointer p3, Value.int .i64 2] w13 fun e19 w18 =>
              ∃ (A20 : Option Addr) (n21 c22 : Nat), e19 = .returned (Value.slice A20 n21 c22) ∧ (
                vIf (((n21 : Nat) : Int) == 1)
                (vIf (((n11 : Nat) : Int) == 2)
                  (dr A10 fun b23 o24 =>
                    gd (decide ((0 : Int) < ((n11 : Nat) : Int))) <|
                    ldA 3 w18 b23 o24 fun a25 =>
                    eqI64 3 a25 ([Value.int .i64 1] ++ ([Value.int .i64 62] ++ ([Value.int .i64 0] ++ []))) fun t26 =>
                    vIf t26
                    (dr A10 fun b27 o28 =>
                      gd (decide ((1 : Int) < ((n11 : Nat) : Int))) <|
                      ldA 3 w18 b27 (o28 + 3) fun a29 =>
                      eqI64 3 a29 ([Value.int .i64 2] ++ ([Value.int .i64 53] ++ ([Value.int .i64 53] ++ []))) fun t30 =>
                      Q (Value.bool t30) w18)
                    (Q (Value.bool false) w18))
                  (Q (Value.bool false) w18))
                (Q (Value.bool false) w18)))
            (Q (Value.bool false) w13))))))
def F10.an : Ann := ⟨[], []⟩
theorem F10.of  (w : World) {Q : Value → World → Prop} (h : F10.vc  w Q) : Calls Tryz.prog 10 #[] w (fun e w' => ∃ v, e = .returned v ∧ Q v w') := vcFn_of (A := F10.an) noCount mixed h (by kernel_rfl)
/-! ### function 12: (*stillage/state.State).Here -/
def F12.k8c (Q : Value → World → Prop) (C5 : (Option Addr × Int × (Option Addr × Nat × Nat) × (Option Addr × Nat × Nat) × Int × Int × Unit) → World → Prop) (x0 : Option Addr) (x1 : Int) (x5 : (Option Addr × Nat × Nat)) (x7 : (Nat × Nat)) (x17 : (Option Addr × Nat × Nat)) (x18 : Int) (x19 : Int) (x31 : Bool) (w : World) : Prop :=
  vIf x31
  (ldI .i64 w x7.1 (x7.2 + 32) fun i20 =>
    ldA 32 w x7.1 x7.2 fun a21 =>
    ldI .i64 w x7.1 (x7.2 + 33) fun i22 =>
    ldA 3 w x7.1 (x7.2 + 34) fun a23 =>
    gd (a21.length == 32) <|
    gd (a23.length == 3) <|
    gd (([Value.int .i64 i20] ++ ([Value.int .u64 0] ++ (a21 ++ ([Value.string (⟨#[]⟩ : ByteArray)] ++ ([Value.int .i64 i22] ++ (a23 ++ [])))))).length == 39) <|
    nw w (([Value.int .i64 i20] ++ ([Value.int .u64 0] ++ (a21 ++ ([Value.string (⟨#[]⟩ : ByteArray)] ++ ([Value.int .i64 i22] ++ (a23 ++ [])))))) ++ []) 37 fun b24 w25 =>
    app w25 39 96 Z37 37 x5.1 x5.2.1 x5.2.2 (Value.slice (some ⟨b24, 0, none⟩) 1 1) fun A26 n27 c28 w29 =>
    jnC C5 (x0, (x1), (A26, n27, c28), (x17.1, x17.2.1, x17.2.2), (x18), ((IntKind.wrap .i64 (x19 + 1))), ()) w29)
  (jnC C5 (x0, (x1), (x5.1, x5.2.1, x5.2.2), (x17.1, x17.2.1, x17.2.2), (x18), ((IntKind.wrap .i64 (x19 + 1))), ()) w)
def F12.k8 (Q : Value → World → Prop) (C5 : (Option Addr × Int × (Option Addr × Nat × Nat) × (Option Addr × Nat × Nat) × Int × Int × Unit) → World → Prop) : (Option Addr × Int × (Option Addr × Nat × Nat) × (Nat × Nat) × (Option Addr × Nat × Nat) × Int × Int × Bool × Unit) → World → Prop := fun s w => ∀ _ : Nat → Value, F12.k8c Q C5 s.1 s.2.1 s.2.2.1 s.2.2.2.1 s.2.2.2.2.1 s.2.2.2.2.2.1 s.2.2.2.2.2.2.1 s.2.2.2.2.2.2.2.1 w
def F12.k14c (Q : Value → World → Prop) (C11 : (Int × (Option Addr × Nat × Nat) × (Option Addr × Nat × Nat) × Int × Int × Unit) → World → Prop) (x1 : Int) (x5 : (Option Addr × Nat × Nat)) (x9 : (Nat × Nat)) (x49 : (Option Addr × Nat × Nat)) (x50 : Int) (x51 : Int) (x63 : Bool) (w : World) : Prop :=
  vIf x63
  (ldA 38 w x9.1 x9.2 fun a49 =>
    Calls Tryz.prog 50 #[ofL a49] w fun e51 w50 =>
    ∃ a52 : List Value, e51 = .returned (ofL a52) ∧ (
      gd (a52.length == 39) <|
      nw w50 (a52 ++ []) 37 fun b53 w54 =>
      app w54 39 96 Z37 37 x5.1 x5.2.1 x5.2.2 (Value.slice (some ⟨b53, 0, none⟩) 1 1) fun A55 n56 c57 w58 =>
      jnC C11 ((x1), (A55, n56, c57), (x49.1, x49.2.1, x49.2.2), (x50), ((IntKind.wrap .i64 (x51 + 1))), ()) w58))
  (jnC C11 ((x1), (x5.1, x5.2.1, x5.2.2), (x49.1, x49.2.1, x49.2.2), (x50), ((IntKind.wrap .i64 (x51 + 1))), ()) w)
def F12.k14 (Q : Value → World → Prop) (C11 : (Int × (Option Addr × Nat × Nat) × (Option Addr × Nat × Nat) × Int × Int × Unit) → World → Prop) : (Int × (Option Addr × Nat × Nat) × (Nat × Nat) × (Option Addr × Nat × Nat) × Int × Int × Bool × Unit) → World → Prop := fun s w => ∀ _ : Nat → Value, F12.k14c Q C11 s.1 s.2.1 s.2.2.1 s.2.2.2.1 s.2.2.2.2.1 s.2.2.2.2.2.1 s.2.2.2.2.2.2.1 w
def F12.b11c (Q : Value → World → Prop) (C11 : (Int × (Option Addr × Nat × Nat) × (Option Addr × Nat × Nat) × Int × Int × Unit) → World → Prop) (x1 : Int) (x5 : (Option Addr × Nat × Nat)) (x49 : (Option Addr × Nat × Nat)) (x50 : Int) (x51 : Int) (w : World) : Prop :=
  vIf (decide (x51 < x50))
  (dr x49.1 fun b38 o39 =>
    gd (decide (0 ≤ x51)) <|
    gd (decide (x51 < ((x49.2.1 : Nat) : Int))) <|
    ldA 38 w b38 (o39 + (x51).toNat * 38) fun a40 =>
    nw w Z53 53 fun b41 w42 =>
    gd (a40.length == 38) <|
    st w42 b41 0 a40 fun w43 =>
    ldI .i64 w43 b41 (0 + 34) fun i44 =>
    vIf (i44 == x1)
    (ldA 38 w43 b41 0 fun a45 =>
      Calls Tryz.prog 49 #[ofL a45] w43 fun e47 w46 =>
      ∃ t48 : Bool, e47 = .returned (Value.bool t48) ∧ (
        jnC (F12.k14 Q C11) ((x1), (x5.1, x5.2.1, x5.2.2), (b41, 0), (x49.1, x49.2.1, x49.2.2), (x50), (x51), t48, ()) w46))
    (jnC (F12.k14 Q C11) ((x1), (x5.1, x5.2.1, x5.2.2), (b41, 0), (x49.1, x49.2.1, x49.2.2), (x50), (x51), false, ()) w43))
  (Calls Tryz.prog 51 #[Value.slice x5.1 x5.2.1 x5.2.2, Value.func (.func 52) #[] #[]] w fun e60 w59 =>
    e60 = .returned (Value.tuple #[]) ∧ (
      Q (Value.slice x5.1 x5.2.1 x5.2.2) w59))
def F12.b11 (Q : Value → World → Prop) : (Int × (Option Addr × Nat × Nat) × (Option Addr × Nat × Nat) × Int × Int × Unit) → World → ((Int × (Option Addr × Nat × Nat) × (Option Addr × Nat × Nat) × Int × Int × Unit) → World → Prop) → Prop := fun s w C11 => ∀ _ : Nat → Value, F12.b11c Q C11 s.1 s.2.1 s.2.2.1 s.2.2.2.1 s.2.2.2.2.1 w
def F12.l11 (Q : Value → World → Prop) : (Int × (Option Addr × Nat × Nat) × (Option Addr × Nat × Nat) × Int × Int × Unit) → World → Prop := fun s w => ∃ n, loopC (F12.b11 Q) n s w
def F12.b5c (Q : Value → World → Prop) (C5 : (Option Addr × Int × (Option Addr × Nat × Nat) × (Option Addr × Nat × Nat) × Int × Int × Unit) → World → Prop) (x0 : Option Addr) (x1 : Int) (x5 : (Option Addr × Nat × Nat)) (x17 : (Option Addr × Nat × Nat)) (x18 : Int) (x19 : Int) (w : World) : Prop :=
  vIf (decide (x19 < x18))
  (dr x17.1 fun b9 o10 =>
    gd (decide (0 ≤ x19)) <|
    gd (decide (x19 < ((x17.2.1 : Nat) : Int))) <|
    ldA 38 w b9 (o10 + (x19).toNat * 38) fun a11 =>
    nw w Z48 48 fun b12 w13 =>
    gd (a11.length == 38) <|
    st w13 b12 0 a11 fun w14 =>
    ldI .i64 w14 b12 (0 + 34) fun i15 =>
    vIf (i15 == x1)
    (ldA 38 w14 b12 0 fun a16 =>
      Calls Tryz.prog 48 #[ofL a16] w14 fun e18 w17 =>
      ∃ t19 : Bool, e18 = .returned (Value.bool t19) ∧ (
        jnC (F12.k8 Q C5) (x0, (x1), (x5.1, x5.2.1, x5.2.2), (b12, 0), (x17.1, x17.2.1, x17.2.2), (x18), (x19), t19, ()) w17))
    (jnC (F12.k8 Q C5) (x0, (x1), (x5.1, x5.2.1, x5.2.2), (b12, 0), (x17.1, x17.2.1, x17.2.2), (x18), (x19), false, ()) w14))
  (dr x0 fun b30 o31 =>
    ldP w b30 (o31 + 2) fun p32 =>
    Calls Tryz.prog 47 #[Value.pointer p32] w fun e34 w33 =>
    ∃ (A35 : Option Addr) (n36 c37 : Nat), e34 = .returned (Value.slice A35 n36 c37) ∧ (
      jnC (F12.l11 Q) ((x1), (x5.1, x5.2.1, x5.2.2), (A35, n36, c37), (((n36 : Nat) : Int)), (0), ()) w33))
def F12.b5 (Q : Value → World → Prop) : (Option Addr × Int × (Option Addr × Nat × Nat) × (Option Addr × Nat × Nat) × Int × Int × Unit) → World → ((Option Addr × Int × (Option Addr × Nat × Nat) × (Option Addr × Nat × Nat) × Int × Int × Unit) → World → Prop) → Prop := fun s w C5 => ∀ _ : Nat → Value, F12.b5c Q C5 s.1 s.2.1 s.2.2.1 s.2.2.2.1 s.2.2.2.2.1 s.2.2.2.2.2.1 w
def F12.l5 (Q : Value → World → Prop) : (Option Addr × Int × (Option Addr × Nat × Nat) × (Option Addr × Nat × Nat) × Int × Int × Unit) → World → Prop := fun s w => ∃ n, loopC (F12.b5 Q) n s w
def F12.vc (x0 : Option Addr) (x1 : Int) (w : World) (Q : Value → World → Prop) : Prop :=
  vIf x0.isNone
  (Q (Value.slice none 0 0) w)
  (dr x0 fun b1 o2 =>
    ldP w b1 o2 fun p3 =>
    Calls Tryz.prog 46 #[Value.pointer p3] w fun e5 w4 =>
    ∃ (A6 : Option Addr) (n7 c8 : Nat), e5 = .returned (Value.slice A6 n7 c8) ∧ (
      jnC (F12.l5 Q) (x0, (x1), (none, 0, 0), (A6, n7, c8), (((n7 : Nat) : Int)), (0), ()) w4))
def F12.an : Ann := ⟨[(5, [(0, .kP), (1, .kI .i64), (5, .kSl), (17, .kSl), (18, .kI .i64), (19, .kI .i64)]), (11, [(1, .kI .i64), (5, .kSl), (49, .kSl), (50, .kI .i64), (51, .kI .i64)])], [(8, [(0, .kP), (1, .kI .i64), (5, .kSl), (7, .kL), (17, .kSl), (18, .kI .i64), (19, .kI .i64), (31, .kB)]), (14, [(1, .kI .i64), (5, .kSl), (9, .kL), (49, .kSl), (50, .kI .i64), (51, .kI .i64), (63, .kB)])]⟩
theorem F12.of (x0 : Option Addr) (x1 : Int) (w : World) {Q : Value → World → Prop} (h : F12.vc x0 x1 w Q) : Calls Tryz.prog 12 #[Value.pointer x0, Value.int .i64 x1] w (fun e w' => ∃ v, e = .returned v ∧ Q v w') := vcFn_of (A := F12.an) noCount mixed h (by kernel_rfl)
/-! ### function 14: stillage/stillageref22.New -/
def F14.b3c (Q : Value → World → Prop) (C3 : ((Nat × Nat) × (Nat × Nat) × (Nat × Nat) × Int × Unit) → World → Prop) (x1 : (Nat × Nat)) (x2 : (Nat × Nat)) (x3 : (Nat × Nat)) (x4 : Int) (w : World) : Prop :=
  ldSl w x1.1 (x1.2 + 6) fun A24 n25 c26 =>
  vIf (decide (x4 < ((n25 : Nat) : Int)))
  (ldSl w.drew x3.1 (x3.2 + 2) fun A27 n28 c29 =>
    ldSl w.drew x1.1 (x1.2 + 6) fun A30 n31 c32 =>
    dr A30 fun b33 o34 =>
    gd (decide (0 ≤ x4)) <|
    gd (decide (x4 < ((n31 : Nat) : Int))) <|
    ldI .i64 w.drew b33 (o34 + (x4).toNat * 3) fun i35 =>
    ldSl w.drew x1.1 (x1.2 + 6) fun A36 n37 c38 =>
    dr A36 fun b39 o40 =>
    gd (decide (0 ≤ x4)) <|
    gd (decide (x4 < ((n37 : Nat) : Int))) <|
    ldI .i64 w.drew b39 ((o40 + (x4).toNat * 3) + 1) fun i41 =>
    Calls Tryz.prog 57 #[Value.slice A27 n28 c29, Value.int .i64 i35, Value.int .i64 i41, Value.bool true] w.drew fun e43 w42 =>
    ∃ (A44 : Option Addr) (n45 c46 : Nat), e43 = .returned (Value.slice A44 n45 c46) ∧ (
      st w42 x3.1 (x3.2 + 2) [Value.slice A44 n45 c46] fun w47 =>
      jnC C3 ((x1.1, x1.2), (x2.1, x2.2), (x3.1, x3.2), ((IntKind.wrap .i64 (x4 + 1))), ()) w47))
  (ldA 3 w x3.1 x3.2 fun a48 =>
    gd (a48.length == 3) <|
    st w x2.1 x2.2 a48 fun w49 =>
    ldA 3 w49 x2.1 x2.2 fun a50 =>
    Q (ofL a50) w49)
def F14.b3 (Q : Value → World → Prop) : ((Nat × Nat) × (Nat × Nat) × (Nat × Nat) × Int × Unit) → World → (((Nat × Nat) × (Nat × Nat) × (Nat × Nat) × Int × Unit) → World → Prop) → Prop := fun s w C3 => ∀ _ : Nat → Value, F14.b3c Q C3 s.1 s.2.1 s.2.2.1 s.2.2.2.1 w
def F14.l3 (Q : Value → World → Prop) : ((Nat × Nat) × (Nat × Nat) × (Nat × Nat) × Int × Unit) → World → Prop := fun s w => ∃ n, loopC (F14.b3 Q) n s w
def F14.vc (x0 : List Value) (w : World) (Q : Value → World → Prop) : Prop :=
  nw w x0 30 fun b1 w2 =>
  nw w2 [Value.slice none 0 0, Value.slice none 0 0, Value.slice none 0 0] 44 fun b3 w4 =>
  ldSl w4.drew b1 (0 + 4) fun A5 n6 c7 =>
  ldSl w4.drew b1 (0 + 5) fun A8 n9 c10 =>
  (Calls Tryz.prog 55 #[Value.slice A5 n6 c7] w4.drew fun e12 w11 =>
    ∃ (A13 : Option Addr) (n14 c15 : Nat), e12 = .returned (Value.slice A13 n14 c15) ∧ (
      kp w4.drew b1 (0 + 5) 1 w11 <|
      (Calls Tryz.prog 56 #[Value.slice A8 n9 c10] w11 fun e17 w16 =>
        ∃ (A18 : Option Addr) (n19 c20 : Nat), e17 = .returned (Value.slice A18 n19 c20) ∧ (
          nw w16 [Value.slice none 0 0, Value.slice none 0 0, Value.slice none 0 0] 44 fun b21 w22 =>
          kp w4.drew b1 (0 + 5) 1 w22 <|
          kp w4.drew b1 (0 + 4) 1 w22 <|
          gd (([Value.slice A13 n14 c15] ++ ([Value.slice A18 n19 c20] ++ ([Value.slice none 0 0] ++ []))).length == 3) <|
          st w22 b21 0 ([Value.slice A13 n14 c15] ++ ([Value.slice A18 n19 c20] ++ ([Value.slice none 0 0] ++ []))) fun w23 =>
          jnC (F14.l3 Q) ((b1, 0), (b3, 0), (b21, 0), (0), ()) w23)) ∧
      (nw w11 [Value.slice none 0 0, Value.slice none 0 0, Value.slice none 0 0] 44 fun b51 w52 =>
        kp w4.drew b1 (0 + 5) 1 w52 <|
        kp w4.drew b1 (0 + 4) 1 w52 <|
        Calls Tryz.prog 56 #[Value.slice A8 n9 c10] w52 fun e54 w53 =>
        ∃ (A55 : Option Addr) (n56 c57 : Nat), e54 = .returned (Value.slice A55 n56 c57) ∧ (
          gd (([Value.slice A13 n14 c15] ++ ([Value.slice A55 n56 c57] ++ ([Value.slice none 0 0] ++ []))).length == 3) <|
          st w53 b51 0 ([Value.slice A13 n14 c15] ++ ([Value.slice A55 n56 c57] ++ ([Value.slice none 0 0] ++ []))) fun w58 =>
          jnC (F14.l3 Q) ((b1, 0), (b3, 0), (b51, 0), (0), ()) w58)))) ∧
  (nw w4.drew [Value.slice none 0 0, Value.slice none 0 0, Value.slice none 0 0] 44 fun b59 w60 =>
    kp w4.drew b1 (0 + 5) 1 w60 <|
    kp w4.drew b1 (0 + 4) 1 w60 <|
    Calls Tryz.prog 55 #[Value.slice A5 n6 c7] w60 fun e62 w61 =>
    ∃ (A63 : Option Addr) (n64 c65 : Nat), e62 = .returned (Value.slice A63 n64 c65) ∧ (
      kp w4.drew b1 (0 + 5) 1 w61 <|
      Calls Tryz.prog 56 #[Value.slice A8 n9 c10] w61 fun e67 w66 =>
      ∃ (A68 : Option Addr) (n69 c70 : Nat), e67 = .returned (Value.slice A68 n69 c70) ∧ (
        gd (([Value.slice A63 n64 c65] ++ ([Value.slice A68 n69 c70] ++ ([Value.slice none 0 0] ++ []))).length == 3) <|
        st w66 b59 0 ([Value.slice A63 n64 c65] ++ ([Value.slice A68 n69 c70] ++ ([Value.slice none 0 0] ++ []))) fun w71 =>
        jnC (F14.l3 Q) ((b1, 0), (b3, 0), (b59, 0), (0), ()) w71)))
def F14.an : Ann := ⟨[(3, [(1, .kL), (2, .kL), (3, .kL), (4, .kI .i64)])], []⟩
theorem F14.of (x0 : List Value) (w : World) {Q : Value → World → Prop} (h : F14.vc x0 w Q) : Calls Tryz.prog 14 #[ofL x0] w (fun e w' => ∃ v, e = .returned v ∧ Q v w') := vcFn_of (A := F14.an) noCount mixed h (by kernel_rfl)
/-! ### function 15: (*stillage/state.State).Digest -/
def F15.vc (x0 : Option Addr) (x1 : List Value) (w : World) (Q : Value → World → Prop) : Prop :=
  nw w x1 33 fun b1 w2 =>
  nw w2 Z48 48 fun b3 w4 =>
  vIf x0.isNone
  (gd (([Value.int .u8 0, Value.int .u8 0, Value.int .u8 0, Value.int .u8 0, Value.int .u8 0, Value.int .u8 0, Value.int .u8 0, Value.int .u8 0, Value.int .u8 0, Value.int .u8 0, Value.int .u8 0, Value.int .u8 0, Value.int .u8 0, Value.int .u8 0, Value.int .u8 0, Value.int .u8 0, Value.int .u8 0, Value.int .u8 0, Value.int .u8 0, Value.int .u8 0, Value.int .u8 0, Value.int .u8 0, Value.int .u8 0, Value.int .u8 0, Value.int .u8 0, Value.int .u8 0, Value.int .u8 0, Value.int .u8 0, Value.int .u8 0, Value.int .u8 0, Value.int .u8 0, Value.int .u8 0] ++ ([Value.int .i64 0] ++ ([Value.int .i64 0] ++ ([Value.int .i64 0, Value.int .i64 0, Value.int .i64 0] ++ ([Value.slice none 0 0] ++ []))))).length == 38) <|
    st w4 b3 0 ([Value.int .u8 0, Value.int .u8 0, Value.int .u8 0, Value.int .u8 0, Value.int .u8 0, Value.int .u8 0, Value.int .u8 0, Value.int .u8 0, Value.int .u8 0, Value.int .u8 0, Value.int .u8 0, Value.int .u8 0, Value.int .u8 0, Value.int .u8 0, Value.int .u8 0, Value.int .u8 0, Value.int .u8 0, Value.int .u8 0, Value.int .u8 0, Value.int .u8 0, Value.int .u8 0, Value.int .u8 0, Value.int .u8 0, Value.int .u8 0, Value.int .u8 0, Value.int .u8 0, Value.int .u8 0, Value.int .u8 0, Value.int .u8 0, Value.int .u8 0, Value.int .u8 0, Value.int .u8 0] ++ ([Value.int .i64 0] ++ ([Value.int .i64 0] ++ ([Value.int .i64 0, Value.int .i64 0, Value.int .i64 0] ++ ([Value.slice none 0 0] ++ []))))) fun w5 =>
    ldA 38 w5 b3 0 fun a6 =>
    Q (Value.tuple #[ofL a6, Value.bool false]) w5)
  (dr x0 fun b7 o8 =>
    ldP w4.drew b7 o8 fun p9 =>
    ldA 32 w4.drew b1 0 fun a10 =>
    Calls Tryz.prog 58 #[Value.pointer p9, ofL a10] w4.drew fun e12 w11 =>
    ∃ a13 : List Value, ∃ t14 : Bool, e12 = .returned (Value.tuple #[ofL a13, Value.bool t14]) ∧ (
      gd (a13.length == 38) <|
      st w11 b3 0 a13 fun w15 =>
      ldA 38 w15 b3 0 fun a16 =>
      Q (Value.tuple #[ofL a16, Value.bool t14]) w15))
def F15.an : Ann := ⟨[], []⟩
theorem F15.of (x0 : Option Addr) (x1 : List Value) (w : World) {Q : Value → World → Prop} (h : F15.vc x0 x1 w Q) : Calls Tryz.prog 15 #[Value.pointer x0, ofL x1] w (fun e w' => ∃ v, e = .returned v ∧ Q v w') := vcFn_of (A := F15.an) noCount mixed h (by kernel_rfl)
/-! ### function 16: stillage/stillageref20.Get -/
def F16.b2c (Q : Value → World → Prop) (C2 : ((Option Addr × Nat × Nat) × (Nat × Nat) × (Nat × Nat) × Int × Unit) → World → Prop) (x0 : (Option Addr × Nat × Nat)) (x3 : (Nat × Nat)) (x4 : (Nat × Nat)) (x6 : Int) (w : World) : Prop :=
  vIf (decide (x6 < ((x0.2.1 : Nat) : Int)))
  (dr x0.1 fun b5 o6 =>
    gd (decide (0 ≤ x6)) <|
    gd (decide (x6 < ((x0.2.1 : Nat) : Int))) <|
    ldA 32 w.drew b5 (o6 + (x6).toNat * 38) fun a7 =>
    ldA 32 w.drew x3.1 x3.2 fun a8 =>
    eqAB 32 a7 a8 fun t9 =>
    vIf t9
    (dr x0.1 fun b10 o11 =>
      gd (decide (0 ≤ x6)) <|
      gd (decide (x6 < ((x0.2.1 : Nat) : Int))) <|
      ldA 38 w.drew b10 (o11 + (x6).toNat * 38) fun a12 =>
      gd (a12.length == 38) <|
      st w.drew x4.1 x4.2 a12 fun w13 =>
      ldA 38 w13 x4.1 x4.2 fun a14 =>
      Q (Value.tuple #[ofL a14, Value.bool true]) w13)
    (jnC C2 ((x0.1, x0.2.1, x0.2.2), (x3.1, x3.2), (x4.1, x4.2), ((IntKind.wrap .i64 (x6 + 1))), ()) w.drew))
  (gd (([Value.int .u8 0, Value.int .u8 0, Value.int .u8 0, Value.int .u8 0, Value.int .u8 0, Value.int .u8 0, Value.int .u8 0, Value.int .u8 0, Value.int .u8 0, Value.int .u8 0, Value.int .u8 0, Value.int .u8 0, Value.int .u8 0, Value.int .u8 0, Value.int .u8 0, Value.int .u8 0, Value.int .u8 0, Value.int .u8 0, Value.int .u8 0, Value.int .u8 0, Value.int .u8 0, Value.int .u8 0, Value.int .u8 0, Value.int .u8 0, Value.int .u8 0, Value.int .u8 0, Value.int .u8 0, Value.int .u8 0, Value.int .u8 0, Value.int .u8 0, Value.int .u8 0, Value.int .u8 0] ++ ([Value.int .i64 0] ++ ([Value.int .i64 0] ++ ([Value.int .i64 0, Value.int .i64 0, Value.int .i64 0] ++ ([Value.slice none 0 0] ++ []))))).length == 38) <|
    st w x4.1 x4.2 ([Value.int .u8 0, Value.int .u8 0, Value.int .u8 0, Value.int .u8 0, Value.int .u8 0, Value.int .u8 0, Value.int .u8 0, Value.int .u8 0, Value.int .u8 0, Value.int .u8 0, Value.int .u8 0, Value.int .u8 0, Value.int .u8 0, Value.int .u8 0, Value.int .u8 0, Value.int .u8 0, Value.int .u8 0, Value.int .u8 0, Value.int .u8 0, Value.int .u8 0, Value.int .u8 0, Value.int .u8 0, Value.int .u8 0, Value.int .u8 0, Value.int .u8 0, Value.int .u8 0, Value.int .u8 0, Value.int .u8 0, Value.int .u8 0, Value.int .u8 0, Value.int .u8 0, Value.int .u8 0] ++ ([Value.int .i64 0] ++ ([Value.int .i64 0] ++ ([Value.int .i64 0, Value.int .i64 0, Value.int .i64 0] ++ ([Value.slice none 0 0] ++ []))))) fun w15 =>
    ldA 38 w15 x4.1 x4.2 fun a16 =>
    Q (Value.tuple #[ofL a16, Value.bool false]) w15)
def F16.b2 (Q : Value → World → Prop) : ((Option Addr × Nat × Nat) × (Nat × Nat) × (Nat × Nat) × Int × Unit) → World → (((Option Addr × Nat × Nat) × (Nat × Nat) × (Nat × Nat) × Int × Unit) → World → Prop) → Prop := fun s w C2 => ∀ _ : Nat → Value, F16.b2c Q C2 s.1 s.2.1 s.2.2.1 s.2.2.2.1 w
def F16.l2 (Q : Value → World → Prop) : ((Option Addr × Nat × Nat) × (Nat × Nat) × (Nat × Nat) × Int × Unit) → World → Prop := fun s w => ∃ n, loopC (F16.b2 Q) n s w
def F16.vc (x0A : Option Addr) (x0n x0c : Nat) (x1 : List Value) (w : World) (Q : Value → World → Prop) : Prop :=
  nw w x1 33 fun b1 w2 =>
  nw w2 Z48 48 fun b3 w4 =>
  jnC (F16.l2 Q) ((x0A, x0n, x0c), (b1, 0), (b3, 0), (0), ()) w4
def F16.an : Ann := ⟨[(2, [(0, .kSl), (3, .kL), (4, .kL), (6, .kI .i64)])], []⟩
theorem F16.of (x0A : Option Addr) (x0n x0c : Nat) (x1 : List Value) (w : World) {Q : Value → World → Prop} (h : F16.vc x0A x0n x0c x1 w Q) : Calls Tryz.prog 16 #[Value.slice x0A x0n x0c, ofL x1] w (fun e w' => ∃ v, e = .returned v ∧ Q v w') := vcFn_of (A := F16.an) noCount mixed h (by kernel_rfl)
/-! ### function 17: (*stillage/state.State).Tag -/
def F17.vc (x0 : Option Addr) (x1 : ByteArray) (w : World) (Q : Value → World → Prop) : Prop :=
  nw w Z53 53 fun b1 w2 =>
  vIf x0.isNone
  (gd (([Value.string (⟨#[]⟩ : ByteArray)] ++ ([Value.int .u8 0, Value.int .u8 0, Value.int .u8 0, Value.int .u8 0, Value.int .u8 0, Value.int .u8 0, Value.int .u8 0, Value.int .u8 0, Value.int .u8 0, Value.int .u8 0, Value.int .u8 0, Value.int .u8 0, Value.int .u8 0, Value.int .u8 0, Value.int .u8 0, Value.int .u8 0, Value.int .u8 0, Value.int .u8 0, Value.int .u8 0, Value.int .u8 0, Value.int .u8 0, Value.int .u8 0, Value.int .u8 0, Value.int .u8 0, Value.int .u8 0, Value.int .u8 0, Value.int .u8 0, Value.int .u8 0, Value.int .u8 0, Value.int .u8 0, Value.int .u8 0, Value.int .u8 0] ++ ([Value.bool false] ++ ([Value.int .i64 0, Value.int .i64 0, Value.int .i64 0] ++ ([Value.slice none 0 0] ++ []))))).length == 38) <|
    st w2 b1 0 ([Value.string (⟨#[]⟩ : ByteArray)] ++ ([Value.int .u8 0, Value.int .u8 0, Value.int .u8 0, Value.int .u8 0, Value.int .u8 0, Value.int .u8 0, Value.int .u8 0, Value.int .u8 0, Value.int .u8 0, Value.int .u8 0, Value.int .u8 0, Value.int .u8 0, Value.int .u8 0, Value.int .u8 0, Value.int .u8 0, Value.int .u8 0, Value.int .u8 0, Value.int .u8 0, Value.int .u8 0, Value.int .u8 0, Value.int .u8 0, Value.int .u8 0, Value.int .u8 0, Value.int .u8 0, Value.int .u8 0, Value.int .u8 0, Value.int .u8 0, Value.int .u8 0, Value.int .u8 0, Value.int .u8 0, Value.int .u8 0, Value.int .u8 0] ++ ([Value.bool false] ++ ([Value.int .i64 0, Value.int .i64 0, Value.int .i64 0] ++ ([Value.slice none 0 0] ++ []))))) fun w3 =>
    ldA 38 w3 b1 0 fun a4 =>
    Q (Value.tuple #[ofL a4, Value.bool false]) w3)
  (dr x0 fun b5 o6 =>
    ldP w2 b5 (o6 + 2) fun p7 =>
    Calls Tryz.prog 59 #[Value.pointer p7, Value.string x1] w2 fun e9 w8 =>
    ∃ a10 : List Value, ∃ t11 : Bool, e9 = .returned (Value.tuple #[ofL a10, Value.bool t11]) ∧ (
      gd (a10.length == 38) <|
      st w8 b1 0 a10 fun w12 =>
      ldA 38 w12 b1 0 fun a13 =>
      Q (Value.tuple #[ofL a13, Value.bool t11]) w12))
def F17.an : Ann := ⟨[], []⟩
theorem F17.of (x0 : Option Addr) (x1 : ByteArray) (w : World) {Q : Value → World → Prop} (h : F17.vc x0 x1 w Q) : Calls Tryz.prog 17 #[Value.pointer x0, Value.string x1] w (fun e w' => ∃ v, e = .returned v ∧ Q v w') := vcFn_of (A := F17.an) noCount mixed h (by kernel_rfl)
end Go.Proofs.YthcclmlbkfadcaaGreat
/- PRINTED BY MY OWN gen.py out of the translation: each function as a proposition. -/
namespace Go.Proofs.YthcclmlbkfadcaaGreat
open Go.GV
set_option linter.unusedVariables false
set_option maxRecDepth 100000
/-! ### function 18: stillage/stillageref21.Get -/
def F18.b2c (Q : Value → World → Prop) (C2 : ((Option Addr × Nat × Nat) × ByteArray × (Nat × Nat) × Int × Unit) → World → Prop) (x0 : (Option Addr × Nat × Nat)) (x1 : ByteArray) (x4 : (Nat × Nat)) (x6 : Int) (w : World) : Prop :=
  vIf (decide (x6 < ((x0.2.1 : Nat) : Int)))
  (dr x0.1 fun b3 o4 =>
    gd (decide (0 ≤ x6)) <|
    gd (decide (x6 < ((x0.2.1 : Nat) : Int))) <|
    ldS w b3 (o4 + (x6).toNat * 38) fun s5 =>
    vIf (s5.toList == x1.toList)
    (dr x0.1 fun b6 o7 =>
      gd (decide (0 ≤ x6)) <|
      gd (decide (x6 < ((x0.2.1 : Nat) : Int))) <|
      ldA 38 w b6 (o7 + (x6).toNat * 38) fun a8 =>
      gd (a8.length == 38) <|
      st w x4.1 x4.2 a8 fun w9 =>
      ldA 38 w9 x4.1 x4.2 fun a10 =>
      Q (Value.tuple #[ofL a10, Value.bool true]) w9)
    (jnC C2 ((x0.1, x0.2.1, x0.2.2), x1, (x4.1, x4.2), ((IntKind.wrap .i64 (x6 + 1))), ()) w))
  (gd (([Value.string (⟨#[]⟩ : ByteArray)] ++ ([Value.int .u8 0, Value.int .u8 0, Value.int .u8 0, Value.int .u8 0, Value.int .u8 0, Value.int .u8 0, Value.int .u8 0, Value.int .u8 0, Value.int .u8 0, Value.int .u8 0, Value.int .u8 0, Value.int .u8 0, Value.int .u8 0, Value.int .u8 0, Value.int .u8 0, Value.int .u8 0, Value.int .u8 0, Value.int .u8 0, Value.int .u8 0, Value.int .u8 0, Value.int .u8 0, Value.int .u8 0, Value.int .u8 0, Value.int .u8 0, Value.int .u8 0, Value.int .u8 0, Value.int .u8 0, Value.int .u8 0, Value.int .u8 0, Value.int .u8 0, Value.int .u8 0, Value.int .u8 0] ++ ([Value.bool false] ++ ([Value.int .i64 0, Value.int .i64 0, Value.int .i64 0] ++ ([Value.slice none 0 0] ++ []))))).length == 38) <|
    st w x4.1 x4.2 ([Value.string (⟨#[]⟩ : ByteArray)] ++ ([Value.int .u8 0, Value.int .u8 0, Value.int .u8 0, Value.int .u8 0, Value.int .u8 0, Value.int .u8 0, Value.int .u8 0, Value.int .u8 0, Value.int .u8 0, Value.int .u8 0, Value.int .u8 0, Value.int .u8 0, Value.int .u8 0, Value.int .u8 0, Value.int .u8 0, Value.int .u8 0, Value.int .u8 0, Value.int .u8 0, Value.int .u8 0, Value.int .u8 0, Value.int .u8 0, Value.int .u8 0, Value.int .u8 0, Value.int .u8 0, Value.int .u8 0, Value.int .u8 0, Value.int .u8 0, Value.int .u8 0, Value.int .u8 0, Value.int .u8 0, Value.int .u8 0, Value.int .u8 0] ++ ([Value.bool false] ++ ([Value.int .i64 0, Value.int .i64 0, Value.int .i64 0] ++ ([Value.slice none 0 0] ++ []))))) fun w11 =>
    ldA 38 w11 x4.1 x4.2 fun a12 =>
    Q (Value.tuple #[ofL a12, Value.bool false]) w11)
def F18.b2 (Q : Value → World → Prop) : ((Option Addr × Nat × Nat) × ByteArray × (Nat × Nat) × Int × Unit) → World → (((Option Addr × Nat × Nat) × ByteArray × (Nat × Nat) × Int × Unit) → World → Prop) → Prop := fun s w C2 => ∀ _ : Nat → Value, F18.b2c Q C2 s.1 s.2.1 s.2.2.1 s.2.2.2.1 w
def F18.l2 (Q : Value → World → Prop) : ((Option Addr × Nat × Nat) × ByteArray × (Nat × Nat) × Int × Unit) → World → Prop := fun s w => ∃ n, loopC (F18.b2 Q) n s w
def F18.vc (x0A : Option Addr) (x0n x0c : Nat) (x1 : ByteArray) (w : World) (Q : Value → World → Prop) : Prop :=
  nw w Z53 53 fun b1 w2 =>
  jnC (F18.l2 Q) ((x0A, x0n, x0c), x1, (b1, 0), (0), ()) w2
def F18.an : Ann := ⟨[(2, [(0, .kSl), (1, .kS), (4, .kL), (6, .kI .i64)])], []⟩
theorem F18.of (x0A : Option Addr) (x0n x0c : Nat) (x1 : ByteArray) (w : World) {Q : Value → World → Prop} (h : F18.vc x0A x0n x0c x1 w Q) : Calls Tryz.prog 18 #[Value.slice x0A x0n x0c, Value.string x1] w (fun e w' => ∃ v, e = .returned v ∧ Q v w') := vcFn_of (A := F18.an) noCount mixed h (by kernel_rfl)
/-! ### function 19: (*stillage/state.State).Count -/
def F19.vc (x0 : Option Addr) (w : World) (Q : Value → World → Prop) : Prop :=
  vIf x0.isNone
  (Q (Value.tuple #[Value.int .i64 0, Value.int .i64 0, Value.int .i64 0]) w)
  (dr x0 fun b1 o2 =>
    ldP w b1 o2 fun p3 =>
    Calls Tryz.prog 60 #[Value.pointer p3] w fun e5 w4 =>
    ∃ i6 : Int, ∃ i7 : Int, e5 = .returned (Value.tuple #[Value.int .i64 i6, Value.int .i64 i7]) ∧ (
      dr x0 fun b8 o9 =>
      ldP w4 b8 (o9 + 2) fun p10 =>
      Calls Tryz.prog 61 #[Value.pointer p10] w4 fun e12 w11 =>
      ∃ i13 : Int, e12 = .returned (Value.int .i64 i13) ∧ (
        Q (Value.tuple #[Value.int .i64 i6, Value.int .i64 i7, Value.int .i64 i13]) w11)))
def F19.an : Ann := ⟨[], []⟩
theorem F19.of (x0 : Option Addr) (w : World) {Q : Value → World → Prop} (h : F19.vc x0 w Q) : Calls Tryz.prog 19 #[Value.pointer x0] w (fun e w' => ∃ v, e = .returned v ∧ Q v w') := vcFn_of (A := F19.an) noCount mixed h (by kernel_rfl)
/-! ### function 20: stillage/stillageref20.Count -/
def F20.b3c (Q : Value → World → Prop) (C3 : ((Option Addr × Nat × Nat) × Int × Int × Int × Unit) → World → Prop) (x0 : (Option Addr × Nat × Nat)) (x4 : Int) (x5 : Int) (x6 : Int) (w : World) : Prop :=
  vIf (decide (x6 < ((x0.2.1 : Nat) : Int)))
  (dr x0.1 fun b1 o2 =>
    gd (decide (0 ≤ x6)) <|
    gd (decide (x6 < ((x0.2.1 : Nat) : Int))) <|
    ldI .i64 w b1 ((o2 + (x6).toNat * 38) + 32) fun i3 =>
    vIf (i3 != 5)
    (dr x0.1 fun b4 o5 =>
      gd (decide (0 ≤ x6)) <|
      gd (decide (x6 < ((x0.2.1 : Nat) : Int))) <|
      ldI .i64 w b4 ((o5 + (x6).toNat * 38) + 33) fun i6 =>
      jnC C3 ((x0.1, x0.2.1, x0.2.2), ((IntKind.wrap .i64 (x4 + 1))), ((IntKind.wrap .i64 (x5 + i6))), ((IntKind.wrap .i64 (x6 + 1))), ()) w)
    (jnC C3 ((x0.1, x0.2.1, x0.2.2), (x4), (x5), ((IntKind.wrap .i64 (x6 + 1))), ()) w))
  (Q (Value.tuple #[Value.int .i64 x4, Value.int .i64 x5]) w)
def F20.b3 (Q : Value → World → Prop) : ((Option Addr × Nat × Nat) × Int × Int × Int × Unit) → World → (((Option Addr × Nat × Nat) × Int × Int × Int × Unit) → World → Prop) → Prop := fun s w C3 => ∀ _ : Nat → Value, F20.b3c Q C3 s.1 s.2.1 s.2.2.1 s.2.2.2.1 w
def F20.l3 (Q : Value → World → Prop) : ((Option Addr × Nat × Nat) × Int × Int × Int × Unit) → World → Prop := fun s w => ∃ n, loopC (F20.b3 Q) n s w
def F20.vc (x0A : Option Addr) (x0n x0c : Nat) (w : World) (Q : Value → World → Prop) : Prop :=
  jnC (F20.l3 Q) ((x0A, x0n, x0c), (0), (0), (0), ()) w
def F20.an : Ann := ⟨[(3, [(0, .kSl), (4, .kI .i64), (5, .kI .i64), (6, .kI .i64)])], []⟩
theorem F20.of (x0A : Option Addr) (x0n x0c : Nat) (w : World) {Q : Value → World → Prop} (h : F20.vc x0A x0n x0c w Q) : Calls Tryz.prog 20 #[Value.slice x0A x0n x0c] w (fun e w' => ∃ v, e = .returned v ∧ Q v w') := vcFn_of (A := F20.an) noCount mixed h (by kernel_rfl)
/-! ### function 21: stillage/stillageref19.Same -/
def F21.vc (x0 : List Value) (x1 : List Value) (w : World) (Q : Value → World → Prop) : Prop :=
  nw w x0 48 fun b1 w2 =>
  nw w2 x1 48 fun b3 w4 =>
  ldA 32 w4 b1 0 fun a5 =>
  ldA 32 w4 b3 0 fun a6 =>
  eqAB 32 a5 a6 fun t7 =>
  vIf t7
  (ldI .i64 w4 b1 (0 + 32) fun i8 =>
    ldI .i64 w4 b3 (0 + 32) fun i9 =>
    vIf (i8 == i9)
    (ldI .i64 w4 b1 (0 + 33) fun i10 =>
      ldI .i64 w4 b3 (0 + 33) fun i11 =>
      vIf (i10 == i11)
      (ldA 3 w4 b1 (0 + 34) fun a12 =>
        ldA 3 w4 b3 (0 + 34) fun a13 =>
        eqI64 3 a12 a13 fun t14 =>
        vIf t14
        (ldSl w4 b1 (0 + 37) fun A15 n16 c17 =>
          ldSl w4 b3 (0 + 37) fun A18 n19 c20 =>
          Calls Tryz.prog 62 #[Value.slice A15 n16 c17, Value.slice A18 n19 c20] w4 fun e22 w21 =>
          ∃ t23 : Bool, e22 = .returned (Value.bool t23) ∧ (
            Q (Value.bool t23) w21))
        (Q (Value.bool false) w4))
      (Q (Value.bool false) w4))
    (Q (Value.bool false) w4))
  (Q (Value.bool false) w4)
def F21.an : Ann := ⟨[], []⟩
theorem F21.of (x0 : List Value) (x1 : List Value) (w : World) {Q : Value → World → Prop} (h : F21.vc x0 x1 w Q) : Calls Tryz.prog 21 #[ofL x0, ofL x1] w (fun e w' => ∃ v, e = .returned v ∧ Q v w') := vcFn_of (A := F21.an) noCount mixed h (by kernel_rfl)
/-! ### function 22: stillage/stillageref19.SameTag -/
def F22.vc (x0 : List Value) (x1 : List Value) (w : World) (Q : Value → World → Prop) : Prop :=
  nw w x0 53 fun b1 w2 =>
  nw w2 x1 53 fun b3 w4 =>
  ldS w4 b1 0 fun s5 =>
  ldS w4 b3 0 fun s6 =>
  vIf (s5.toList == s6.toList)
  (ldA 32 w4 b1 (0 + 1) fun a7 =>
    ldA 32 w4 b3 (0 + 1) fun a8 =>
    eqAB 32 a7 a8 fun t9 =>
    vIf t9
    (ldB w4 b1 (0 + 33) fun t10 =>
      ldB w4 b3 (0 + 33) fun t11 =>
      vIf (t10 == t11)
      (ldA 3 w4 b1 (0 + 34) fun a12 =>
        ldA 3 w4 b3 (0 + 34) fun a13 =>
        eqI64 3 a12 a13 fun t14 =>
        vIf t14
        (ldSl w4 b1 (0 + 37) fun A15 n16 c17 =>
          ldSl w4 b3 (0 + 37) fun A18 n19 c20 =>
          Calls Tryz.prog 62 #[Value.slice A15 n16 c17, Value.slice A18 n19 c20] w4 fun e22 w21 =>
          ∃ t23 : Bool, e22 = .returned (Value.bool t23) ∧ (
            Q (Value.bool t23) w21))
        (Q (Value.bool false) w4))
      (Q (Value.bool false) w4))
    (Q (Value.bool false) w4))
  (Q (Value.bool false) w4)
def F22.an : Ann := ⟨[], []⟩
theorem F22.of (x0 : List Value) (x1 : List Value) (w : World) {Q : Value → World → Prop} (h : F22.vc x0 x1 w Q) : Calls Tryz.prog 22 #[ofL x0, ofL x1] w (fun e w' => ∃ v, e = .returned v ∧ Q v w') := vcFn_of (A := F22.an) noCount mixed h (by kernel_rfl)
/-! ### function 23: stillage/stillageref21.Names -/
def F23.b3c (Q : Value → World → Prop) (C3 : ((Option Addr × Nat × Nat) × (Option Addr × Nat × Nat) × Int × Unit) → World → Prop) (x0 : (Option Addr × Nat × Nat)) (x3 : (Option Addr × Nat × Nat)) (x4 : Int) (w : World) : Prop :=
  vIf (decide (x4 < ((x0.2.1 : Nat) : Int)))
  (dr x0.1 fun b1 o2 =>
    gd (decide (0 ≤ x4)) <|
    gd (decide (x4 < ((x0.2.1 : Nat) : Int))) <|
    ldB w b1 ((o2 + (x4).toNat * 38) + 33) fun t3 =>
    vIf (!t3)
    (dr x0.1 fun b4 o5 =>
      gd (decide (0 ≤ x4)) <|
      gd (decide (x4 < ((x0.2.1 : Nat) : Int))) <|
      ldA 32 w b4 ((o5 + (x4).toNat * 38) + 1) fun a6 =>
      gd (a6.length == 32) <|
      nw w (a6 ++ []) 33 fun b7 w8 =>
      app w8 32 32 Z33 33 x3.1 x3.2.1 x3.2.2 (Value.slice (some ⟨b7, 0, none⟩) 1 1) fun A9 n10 c11 w12 =>
      jnC C3 ((x0.1, x0.2.1, x0.2.2), (A9, n10, c11), ((IntKind.wrap .i64 (x4 + 1))), ()) w12)
    (jnC C3 ((x0.1, x0.2.1, x0.2.2), (x3.1, x3.2.1, x3.2.2), ((IntKind.wrap .i64 (x4 + 1))), ()) w))
  (Q (Value.slice x3.1 x3.2.1 x3.2.2) w)
def F23.b3 (Q : Value → World → Prop) : ((Option Addr × Nat × Nat) × (Option Addr × Nat × Nat) × Int × Unit) → World → (((Option Addr × Nat × Nat) × (Option Addr × Nat × Nat) × Int × Unit) → World → Prop) → Prop := fun s w C3 => ∀ _ : Nat → Value, F23.b3c Q C3 s.1 s.2.1 s.2.2.1 w
def F23.l3 (Q : Value → World → Prop) : ((Option Addr × Nat × Nat) × (Option Addr × Nat × Nat) × Int × Unit) → World → Prop := fun s w => ∃ n, loopC (F23.b3 Q) n s w
def F23.vc (x0A : Option Addr) (x0n x0c : Nat) (w : World) (Q : Value → World → Prop) : Prop :=
  jnC (F23.l3 Q) ((x0A, x0n, x0c), (none, 0, 0), (0), ()) w
def F23.an : Ann := ⟨[(3, [(0, .kSl), (3, .kSl), (4, .kI .i64)])], []⟩
theorem F23.of (x0A : Option Addr) (x0n x0c : Nat) (w : World) {Q : Value → World → Prop} (h : F23.vc x0A x0n x0c w Q) : Calls Tryz.prog 23 #[Value.slice x0A x0n x0c] w (fun e w' => ∃ v, e = .returned v ∧ Q v w') := vcFn_of (A := F23.an) noCount mixed h (by kernel_rfl)
/-! ### function 24: stillage/stillageref06.Same -/
def F24.b4c (Q : Value → World → Prop) (C4 : ((Option Addr × Nat × Nat) × (Option Addr × Nat × Nat) × Int × Unit) → World → Prop) (x0 : (Option Addr × Nat × Nat)) (x1 : (Option Addr × Nat × Nat)) (x5 : Int) (w : World) : Prop :=
  vIf (decide (x5 < ((x0.2.1 : Nat) : Int)))
  (dr x0.1 fun b1 o2 =>
    gd (decide (0 ≤ x5)) <|
    gd (decide (x5 < ((x0.2.1 : Nat) : Int))) <|
    ldA 32 w.drew b1 (o2 + (x5).toNat * 32) fun a3 =>
    dr x1.1 fun b4 o5 =>
    gd (decide (0 ≤ x5)) <|
    gd (decide (x5 < ((x1.2.1 : Nat) : Int))) <|
    ldA 32 w.drew b4 (o5 + (x5).toNat * 32) fun a6 =>
    eqAB 32 a3 a6 fun t7 =>
    vIf (!t7)
    (Q (Value.bool false) w.drew)
    (jnC C4 ((x0.1, x0.2.1, x0.2.2), (x1.1, x1.2.1, x1.2.2), ((IntKind.wrap .i64 (x5 + 1))), ()) w.drew))
  (Q (Value.bool true) w)
def F24.b4 (Q : Value → World → Prop) : ((Option Addr × Nat × Nat) × (Option Addr × Nat × Nat) × Int × Unit) → World → (((Option Addr × Nat × Nat) × (Option Addr × Nat × Nat) × Int × Unit) → World → Prop) → Prop := fun s w C4 => ∀ _ : Nat → Value, F24.b4c Q C4 s.1 s.2.1 s.2.2.1 w
def F24.l4 (Q : Value → World → Prop) : ((Option Addr × Nat × Nat) × (Option Addr × Nat × Nat) × Int × Unit) → World → Prop := fun s w => ∃ n, loopC (F24.b4 Q) n s w
def F24.vc (x0A : Option Addr) (x0n x0c : Nat) (x1A : Option Addr) (x1n x1c : Nat) (w : World) (Q : Value → World → Prop) : Prop :=
  vIf (((x0n : Nat) : Int) != ((x1n : Nat) : Int))
  (Q (Value.bool false) w)
  (jnC (F24.l4 Q) ((x0A, x0n, x0c), (x1A, x1n, x1c), (0), ()) w)
def F24.an : Ann := ⟨[(4, [(0, .kSl), (1, .kSl), (5, .kI .i64)])], []⟩
theorem F24.of (x0A : Option Addr) (x0n x0c : Nat) (x1A : Option Addr) (x1n x1c : Nat) (w : World) {Q : Value → World → Prop} (h : F24.vc x0A x0n x0c x1A x1n x1c w Q) : Calls Tryz.prog 24 #[Value.slice x0A x0n x0c, Value.slice x1A x1n x1c] w (fun e w' => ∃ v, e = .returned v ∧ Q v w') := vcFn_of (A := F24.an) noCount mixed h (by kernel_rfl)
/-! ### function 25: (*stillage/state.State).Names -/
def F25.vc (x0 : Option Addr) (w : World) (Q : Value → World → Prop) : Prop :=
  vIf x0.isNone
  (Q (Value.slice none 0 0) w)
  (dr x0 fun b1 o2 =>
    ldP w b1 (o2 + 2) fun p3 =>
    Calls Tryz.prog 63 #[Value.pointer p3] w fun e5 w4 =>
    ∃ (A6 : Option Addr) (n7 c8 : Nat), e5 = .returned (Value.slice A6 n7 c8) ∧ (
      Q (Value.slice A6 n7 c8) w4))
def F25.an : Ann := ⟨[], []⟩
theorem F25.of (x0 : Option Addr) (w : World) {Q : Value → World → Prop} (h : F25.vc x0 w Q) : Calls Tryz.prog 25 #[Value.pointer x0] w (fun e w' => ∃ v, e = .returned v ∧ Q v w') := vcFn_of (A := F25.an) noCount mixed h (by kernel_rfl)
/-! ### function 26: stillage/stillageref21.Texts -/
def F26.b4c (Q : Value → World → Prop) (C4 : ((Option Addr × Nat × Nat) × (Option Addr × Nat × Nat) × Int × Unit) → World → Prop) (x0 : (Option Addr × Nat × Nat)) (x1 : (Option Addr × Nat × Nat)) (x5 : Int) (w : World) : Prop :=
  vIf (decide (x5 < ((x0.2.1 : Nat) : Int)))
  (dr x0.1 fun b1 o2 =>
    gd (decide (0 ≤ x5)) <|
    gd (decide (x5 < ((x0.2.1 : Nat) : Int))) <|
    ldS w.drew b1 (o2 + (x5).toNat * 1) fun s3 =>
    dr x1.1 fun b4 o5 =>
    gd (decide (0 ≤ x5)) <|
    gd (decide (x5 < ((x1.2.1 : Nat) : Int))) <|
    ldS w.drew b4 (o5 + (x5).toNat * 1) fun s6 =>
    vIf (!(s3.toList == s6.toList))
    (Q (Value.bool false) w.drew)
    (jnC C4 ((x0.1, x0.2.1, x0.2.2), (x1.1, x1.2.1, x1.2.2), ((IntKind.wrap .i64 (x5 + 1))), ()) w.drew))
  (Q (Value.bool true) w)
def F26.b4 (Q : Value → World → Prop) : ((Option Addr × Nat × Nat) × (Option Addr × Nat × Nat) × Int × Unit) → World → (((Option Addr × Nat × Nat) × (Option Addr × Nat × Nat) × Int × Unit) → World → Prop) → Prop := fun s w C4 => ∀ _ : Nat → Value, F26.b4c Q C4 s.1 s.2.1 s.2.2.1 w
def F26.l4 (Q : Value → World → Prop) : ((Option Addr × Nat × Nat) × (Option Addr × Nat × Nat) × Int × Unit) → World → Prop := fun s w => ∃ n, loopC (F26.b4 Q) n s w
def F26.vc (x0A : Option Addr) (x0n x0c : Nat) (x1A : Option Addr) (x1n x1c : Nat) (w : World) (Q : Value → World → Prop) : Prop :=
  vIf (((x0n : Nat) : Int) != ((x1n : Nat) : Int))
  (Q (Value.bool false) w)
  (jnC (F26.l4 Q) ((x0A, x0n, x0c), (x1A, x1n, x1c), (0), ()) w)
def F26.an : Ann := ⟨[(4, [(0, .kSl), (1, .kSl), (5, .kI .i64)])], []⟩
theorem F26.of (x0A : Option Addr) (x0n x0c : Nat) (x1A : Option Addr) (x1n x1c : Nat) (w : World) {Q : Value → World → Prop} (h : F26.vc x0A x0n x0c x1A x1n x1c w Q) : Calls Tryz.prog 26 #[Value.slice x0A x0n x0c, Value.slice x1A x1n x1c] w (fun e w' => ∃ v, e = .returned v ∧ Q v w') := vcFn_of (A := F26.an) noCount mixed h (by kernel_rfl)
/-! ### function 27: (*stillage/state.State).List -/
def F27.vc (x0 : Option Addr) (x1 : ByteArray) (x2 : Int) (w : World) (Q : Value → World → Prop) : Prop :=
  vIf x0.isNone
  (Q (Value.slice none 0 0) w)
  (dr x0 fun b1 o2 =>
    ldP w b1 (o2 + 2) fun p3 =>
    Calls Tryz.prog 64 #[Value.pointer p3, Value.string x1, Value.int .i64 x2] w fun e5 w4 =>
    ∃ (A6 : Option Addr) (n7 c8 : Nat), e5 = .returned (Value.slice A6 n7 c8) ∧ (
      Q (Value.slice A6 n7 c8) w4))
def F27.an : Ann := ⟨[], []⟩
theorem F27.of (x0 : Option Addr) (x1 : ByteArray) (x2 : Int) (w : World) {Q : Value → World → Prop} (h : F27.vc x0 x1 x2 w Q) : Calls Tryz.prog 27 #[Value.pointer x0, Value.string x1, Value.int .i64 x2] w (fun e w' => ∃ v, e = .returned v ∧ Q v w') := vcFn_of (A := F27.an) noCount mixed h (by kernel_rfl)
/-! ### function 28: stillage/stillageref21.List -/
def F28.k6c (Q : Value → World → Prop) (C3 : ((Option Addr × Nat × Nat) × ByteArray × Int × (Option Addr × Nat × Nat) × Int × Unit) → World → Prop) (x0 : (Option Addr × Nat × Nat)) (x1 : ByteArray) (x2 : Int) (x7 : (Option Addr × Nat × Nat)) (x8 : Int) (x35 : Bool) (w : World) : Prop :=
  vIf x35
  (dr x0.1 fun b7 o8 =>
    gd (decide (0 ≤ x8)) <|
    gd (decide (x8 < ((x0.2.1 : Nat) : Int))) <|
    ldS w b7 (o8 + (x8).toNat * 38) fun s9 =>
    nw w ([Value.string s9] ++ []) 9 fun b10 w11 =>
    app w11 1 16 [Value.string (⟨#[]⟩ : ByteArray)] 9 x7.1 x7.2.1 x7.2.2 (Value.slice (some ⟨b10, 0, none⟩) 1 1) fun A12 n13 c14 w15 =>
    jnC C3 ((x0.1, x0.2.1, x0.2.2), x1, (x2), (A12, n13, c14), ((IntKind.wrap .i64 (x8 + 1))), ()) w15)
  (jnC C3 ((x0.1, x0.2.1, x0.2.2), x1, (x2), (x7.1, x7.2.1, x7.2.2), ((IntKind.wrap .i64 (x8 + 1))), ()) w)
def F28.k6 (Q : Value → World → Prop) (C3 : ((Option Addr × Nat × Nat) × ByteArray × Int × (Option Addr × Nat × Nat) × Int × Unit) → World → Prop) : ((Option Addr × Nat × Nat) × ByteArray × Int × (Option Addr × Nat × Nat) × Int × Bool × Unit) → World → Prop := fun s w => ∀ _ : Nat → Value, F28.k6c Q C3 s.1 s.2.1 s.2.2.1 s.2.2.2.1 s.2.2.2.2.1 s.2.2.2.2.2.1 w
def F28.b3c (Q : Value → World → Prop) (C3 : ((Option Addr × Nat × Nat) × ByteArray × Int × (Option Addr × Nat × Nat) × Int × Unit) → World → Prop) (x0 : (Option Addr × Nat × Nat)) (x1 : ByteArray) (x2 : Int) (x7 : (Option Addr × Nat × Nat)) (x8 : Int) (w : World) : Prop :=
  vIf (decide (x8 < ((x0.2.1 : Nat) : Int)))
  (dr x0.1 fun b1 o2 =>
    gd (decide (0 ≤ x8)) <|
    gd (decide (x8 < ((x0.2.1 : Nat) : Int))) <|
    ldB w b1 ((o2 + (x8).toNat * 38) + 33) fun t3 =>
    vIf (!t3)
    (dr x0.1 fun b4 o5 =>
      gd (decide (0 ≤ x8)) <|
      gd (decide (x8 < ((x0.2.1 : Nat) : Int))) <|
      ldS w b4 (o5 + (x8).toNat * 38) fun s6 =>
      vIf (Op.bytesLess x1.toList s6.toList)
      (jnC (F28.k6 Q C3) ((x0.1, x0.2.1, x0.2.2), x1, (x2), (x7.1, x7.2.1, x7.2.2), (x8), (decide (x2 > ((x7.2.1 : Nat) : Int))), ()) w)
      (jnC (F28.k6 Q C3) ((x0.1, x0.2.1, x0.2.2), x1, (x2), (x7.1, x7.2.1, x7.2.2), (x8), false, ()) w))
    (jnC (F28.k6 Q C3) ((x0.1, x0.2.1, x0.2.2), x1, (x2), (x7.1, x7.2.1, x7.2.2), (x8), false, ()) w))
  (Q (Value.slice x7.1 x7.2.1 x7.2.2) w)
def F28.b3 (Q : Value → World → Prop) : ((Option Addr × Nat × Nat) × ByteArray × Int × (Option Addr × Nat × Nat) × Int × Unit) → World → (((Option Addr × Nat × Nat) × ByteArray × Int × (Option Addr × Nat × Nat) × Int × Unit) → World → Prop) → Prop := fun s w C3 => ∀ _ : Nat → Value, F28.b3c Q C3 s.1 s.2.1 s.2.2.1 s.2.2.2.1 s.2.2.2.2.1 w
def F28.l3 (Q : Value → World → Prop) : ((Option Addr × Nat × Nat) × ByteArray × Int × (Option Addr × Nat × Nat) × Int × Unit) → World → Prop := fun s w => ∃ n, loopC (F28.b3 Q) n s w
def F28.vc (x0A : Option Addr) (x0n x0c : Nat) (x1 : ByteArray) (x2 : Int) (w : World) (Q : Value → World → Prop) : Prop :=
  jnC (F28.l3 Q) ((x0A, x0n, x0c), x1, (x2), (none, 0, 0), (0), ()) w
def F28.an : Ann := ⟨[(3, [(0, .kSl), (1, .kS), (2, .kI .i64), (7, .kSl), (8, .kI .i64)])], [(6, [(0, .kSl), (1, .kS), (2, .kI .i64), (7, .kSl), (8, .kI .i64), (35, .kB)])]⟩
theorem F28.of (x0A : Option Addr) (x0n x0c : Nat) (x1 : ByteArray) (x2 : Int) (w : World) {Q : Value → World → Prop} (h : F28.vc x0A x0n x0c x1 x2 w Q) : Calls Tryz.prog 28 #[Value.slice x0A x0n x0c, Value.string x1, Value.int .i64 x2] w (fun e w' => ∃ v, e = .returned v ∧ Q v w') := vcFn_of (A := F28.an) noCount mixed h (by kernel_rfl)
/-! ### function 36: (*stillage/state.State).Loads -/
def F36.b8c (Q : Value → World → Prop) (C5 : (Option Addr × (Option Addr × Nat × Nat) × Int × Int × Unit) → World → Prop) (C8 : (Option Addr × (Option Addr × Nat × Nat) × Int × Int × Int × (Option Addr × Nat × Nat) × Int × Int × Unit) → World → Prop) (x0 : Option Addr) (x3 : (Option Addr × Nat × Nat)) (x4 : Int) (x16 : Int) (x17 : Int) (x26 : (Option Addr × Nat × Nat)) (x27 : Int) (x28 : Int) (w : World) : Prop :=
  vIf (decide (x28 < x27))
  (dr x26.1 fun b19 o20 =>
    gd (decide (0 ≤ x28)) <|
    gd (decide (x28 < ((x26.2.1 : Nat) : Int))) <|
    ldA 39 w b19 (o20 + (x28).toNat * 39) fun a21 =>
    nw w Z37 37 fun b22 w23 =>
    gd (a21.length == 39) <|
    st w23 b22 0 a21 fun w24 =>
    dr x3.1 fun b25 o26 =>
    gd (decide (0 ≤ x4)) <|
    gd (decide (x4 < ((x3.2.1 : Nat) : Int))) <|
    ldI .i64 w24.drew b25 ((o26 + (x4).toNat * 3) + 2) fun i27 =>
    ldI .i64 w24.drew b22 ((0 + 36) + 2) fun i28 =>
    dr x3.1 fun b29 o30 =>
    gd (decide (0 ≤ x4)) <|
    gd (decide (x4 < ((x3.2.1 : Nat) : Int))) <|
    st w24.drew b29 ((o30 + (x4).toNat * 3) + 2) [Value.int .i64 (IntKind.wrap .i64 (i27 + i28))] fun w31 =>
    jnC C8 (x0, (x3.1, x3.2.1, x3.2.2), (x4), (x16), (x17), (x26.1, x26.2.1, x26.2.2), (x27), ((IntKind.wrap .i64 (x28 + 1))), ()) w31)
  (jnC C5 (x0, (x3.1, x3.2.1, x3.2.2), (x16), ((IntKind.wrap .i64 (x17 + 1))), ()) w)
def F36.b8 (Q : Value → World → Prop) (C5 : (Option Addr × (Option Addr × Nat × Nat) × Int × Int × Unit) → World → Prop) : (Option Addr × (Option Addr × Nat × Nat) × Int × Int × Int × (Option Addr × Nat × Nat) × Int × Int × Unit) → World → ((Option Addr × (Option Addr × Nat × Nat) × Int × Int × Int × (Option Addr × Nat × Nat) × Int × Int × Unit) → World → Prop) → Prop := fun s w C8 => ∀ _ : Nat → Value, F36.b8c Q C5 C8 s.1 s.2.1 s.2.2.1 s.2.2.2.1 s.2.2.2.2.1 s.2.2.2.2.2.1 s.2.2.2.2.2.2.1 s.2.2.2.2.2.2.2.1 w
def F36.l8 (Q : Value → World → Prop) (C5 : (Option Addr × (Option Addr × Nat × Nat) × Int × Int × Unit) → World → Prop) : (Option Addr × (Option Addr × Nat × Nat) × Int × Int × Int × (Option Addr × Nat × Nat) × Int × Int × Unit) → World → Prop := fun s w => ∃ n, loopC (F36.b8 Q C5) n s w
def F36.b5c (Q : Value → World → Prop) (C5 : (Option Addr × (Option Addr × Nat × Nat) × Int × Int × Unit) → World → Prop) (x0 : Option Addr) (x3 : (Option Addr × Nat × Nat)) (x16 : Int) (x17 : Int) (w : World) : Prop :=
  vIf (decide (x17 < x16))
  (dr x3.1 fun b11 o12 =>
    gd (decide (0 ≤ x17)) <|
    gd (decide (x17 < ((x3.2.1 : Nat) : Int))) <|
    ldI .i64 w b11 (o12 + (x17).toNat * 3) fun i13 =>
    Calls Tryz.prog 12 #[Value.pointer x0, Value.int .i64 i13] w fun e15 w14 =>
    ∃ (A16 : Option Addr) (n17 c18 : Nat), e15 = .returned (Value.slice A16 n17 c18) ∧ (
      jnC (F36.l8 Q C5) (x0, (x3.1, x3.2.1, x3.2.2), (x17), (x16), (x17), (A16, n17, c18), (((n17 : Nat) : Int)), (0), ()) w14))
  (Q (Value.slice x3.1 x3.2.1 x3.2.2) w)
def F36.b5 (Q : Value → World → Prop) : (Option Addr × (Option Addr × Nat × Nat) × Int × Int × Unit) → World → ((Option Addr × (Option Addr × Nat × Nat) × Int × Int × Unit) → World → Prop) → Prop := fun s w C5 => ∀ _ : Nat → Value, F36.b5c Q C5 s.1 s.2.1 s.2.2.1 s.2.2.2.1 w
def F36.l5 (Q : Value → World → Prop) : (Option Addr × (Option Addr × Nat × Nat) × Int × Int × Unit) → World → Prop := fun s w => ∃ n, loopC (F36.b5 Q) n s w
def F36.vc (x0 : Option Addr) (w : World) (Q : Value → World → Prop) : Prop :=
  vIf x0.isNone
  (Q (Value.slice none 0 0) w)
  (dr x0 fun b1 o2 =>
    ldSl w b1 (o2 + 1) fun A3 n4 c5 =>
    Calls Tryz.prog 77 #[Value.slice A3 n4 c5] w fun e7 w6 =>
    ∃ (A8 : Option Addr) (n9 c10 : Nat), e7 = .returned (Value.slice A8 n9 c10) ∧ (
      jnC (F36.l5 Q) (x0, (A8, n9, c10), (((n9 : Nat) : Int)), (0), ()) w6))
def F36.an : Ann := ⟨[(5, [(0, .kP), (3, .kSl), (16, .kI .i64), (17, .kI .i64)]), (8, [(0, .kP), (3, .kSl), (4, .kI .i64), (16, .kI .i64), (17, .kI .i64), (26, .kSl), (27, .kI .i64), (28, .kI .i64)])], []⟩
theorem F36.of (x0 : Option Addr) (w : World) {Q : Value → World → Prop} (h : F36.vc x0 w Q) : Calls Tryz.prog 36 #[Value.pointer x0] w (fun e w' => ∃ v, e = .returned v ∧ Q v w') := vcFn_of (A := F36.an) noCount mixed h (by kernel_rfl)
/-! ### function 40: stillage/index.New -/
def F40.b3c (Q : Value → World → Prop) (C3 : ((Nat × Nat) × (Option Addr × Nat × Nat) × Int × Int × Unit) → World → Prop) (x3 : (Nat × Nat)) (x9 : (Option Addr × Nat × Nat)) (x10 : Int) (x11 : Int) (w : World) : Prop :=
  vIf (decide (x11 < x10))
  (dr x9.1 fun b6 o7 =>
    gd (decide (0 ≤ x11)) <|
    gd (decide (x11 < ((x9.2.1 : Nat) : Int))) <|
    ldA 38 w b6 (o7 + (x11).toNat * 38) fun a8 =>
    nw w Z48 48 fun b9 w10 =>
    gd (a8.length == 38) <|
    st w10 b9 0 a8 fun w11 =>
    ldP w11.drew x3.1 x3.2 fun p12 =>
    ldA 32 w11.drew b9 0 fun a13 =>
    ldA 38 w11.drew b9 0 fun a14 =>
    Calls Tryz.prog 80 #[ofL a14] w11.drew fun e16 w15 =>
    ∃ a17 : List Value, e16 = .returned (ofL a17) ∧ (
      kp w11.drew b9 0 32 w15 <|
      kp w11.drew x3.1 x3.2 1 w15 <|
      Calls Tryz.prog 79 #[Value.pointer p12, ofL a13, ofL a17] w15 fun e19 w18 =>
      e19 = .returned (Value.tuple #[]) ∧ (
        jnC C3 ((x3.1, x3.2), (x9.1, x9.2.1, x9.2.2), (x10), ((IntKind.wrap .i64 (x11 + 1))), ()) w18)))
  (Q (Value.pointer (some ⟨x3.1, x3.2, none⟩)) w)
def F40.b3 (Q : Value → World → Prop) : ((Nat × Nat) × (Option Addr × Nat × Nat) × Int × Int × Unit) → World → (((Nat × Nat) × (Option Addr × Nat × Nat) × Int × Int × Unit) → World → Prop) → Prop := fun s w C3 => ∀ _ : Nat → Value, F40.b3c Q C3 s.1 s.2.1 s.2.2.1 s.2.2.2.1 w
def F40.l3 (Q : Value → World → Prop) : ((Nat × Nat) × (Option Addr × Nat × Nat) × Int × Int × Unit) → World → Prop := fun s w => ∃ n, loopC (F40.b3 Q) n s w
def F40.vc (x0A : Option Addr) (x0n x0c : Nat) (w : World) (Q : Value → World → Prop) : Prop :=
  Calls Tryz.prog 78 #[] w fun e2 w1 =>
  ∃ p3 : Option Addr, e2 = .returned (Value.pointer p3) ∧ (
    nw w1 ([Value.pointer p3] ++ []) 129 fun b4 w5 =>
    jnC (F40.l3 Q) ((b4, 0), (x0A, x0n, x0c), (((x0n : Nat) : Int)), (0), ()) w5)
def F40.an : Ann := ⟨[(3, [(3, .kL), (9, .kSl), (10, .kI .i64), (11, .kI .i64)])], []⟩
theorem F40.of (x0A : Option Addr) (x0n x0c : Nat) (w : World) {Q : Value → World → Prop} (h : F40.vc x0A x0n x0c w Q) : Calls Tryz.prog 40 #[Value.slice x0A x0n x0c] w (fun e w' => ∃ v, e = .returned v ∧ Q v w') := vcFn_of (A := F40.an) noCount mixed h (by kernel_rfl)
/-! ### function 41: stillage/tags.New -/
def F41.b3c (Q : Value → World → Prop) (C3 : ((Nat × Nat) × (Option Addr × Nat × Nat) × Int × Int × Unit) → World → Prop) (x3 : (Nat × Nat)) (x8 : (Option Addr × Nat × Nat)) (x9 : Int) (x10 : Int) (w : World) : Prop :=
  vIf (decide (x10 < x9))
  (dr x8.1 fun b3 o4 =>
    gd (decide (0 ≤ x10)) <|
    gd (decide (x10 < ((x8.2.1 : Nat) : Int))) <|
    ldA 38 w b3 (o4 + (x10).toNat * 38) fun a5 =>
    nw w Z53 53 fun b6 w7 =>
    gd (a5.length == 38) <|
    st w7 b6 0 a5 fun w8 =>
    ldA 38 w8 b6 0 fun a9 =>
    Calls Tryz.prog 82 #[ofL a9] w8 fun e11 w10 =>
    ∃ a12 : List Value, e11 = .returned (ofL a12) ∧ (
      Calls Tryz.prog 81 #[Value.pointer (some ⟨x3.1, x3.2, none⟩), ofL a12] w10 fun e14 w13 =>
      e14 = .returned (Value.tuple #[]) ∧ (
        jnC C3 ((x3.1, x3.2), (x8.1, x8.2.1, x8.2.2), (x9), ((IntKind.wrap .i64 (x10 + 1))), ()) w13)))
  (Q (Value.pointer (some ⟨x3.1, x3.2, none⟩)) w)
def F41.b3 (Q : Value → World → Prop) : ((Nat × Nat) × (Option Addr × Nat × Nat) × Int × Int × Unit) → World → (((Nat × Nat) × (Option Addr × Nat × Nat) × Int × Int × Unit) → World → Prop) → Prop := fun s w C3 => ∀ _ : Nat → Value, F41.b3c Q C3 s.1 s.2.1 s.2.2.1 s.2.2.2.1 w
def F41.l3 (Q : Value → World → Prop) : ((Nat × Nat) × (Option Addr × Nat × Nat) × Int × Int × Unit) → World → Prop := fun s w => ∃ n, loopC (F41.b3 Q) n s w
def F41.vc (x0A : Option Addr) (x0n x0c : Nat) (w : World) (Q : Value → World → Prop) : Prop :=
  nw w ([Value.slice none 0 0] ++ []) 133 fun b1 w2 =>
  jnC (F41.l3 Q) ((b1, 0), (x0A, x0n, x0c), (((x0n : Nat) : Int)), (0), ()) w2
def F41.an : Ann := ⟨[(3, [(3, .kL), (8, .kSl), (9, .kI .i64), (10, .kI .i64)])], []⟩
theorem F41.of (x0A : Option Addr) (x0n x0c : Nat) (w : World) {Q : Value → World → Prop} (h : F41.vc x0A x0n x0c w Q) : Calls Tryz.prog 41 #[Value.slice x0A x0n x0c] w (fun e w' => ∃ v, e = .returned v ∧ Q v w') := vcFn_of (A := F41.an) noCount mixed h (by kernel_rfl)
/-! ### function 42: (*stillage/state.State).set -/
def F42.k3c (Q : Value → World → Prop) (x0 : Option Addr) (x2 : Int) (x6 : Int) (w : World) : Prop :=
  dr x0 fun b20 o21 =>
  ldSl w b20 (o21 + 1) fun A22 n23 c24 =>
  dr A22 fun b25 o26 =>
  gd (decide (0 ≤ x6)) <|
  gd (decide (x6 < ((n23 : Nat) : Int))) <|
  st w b25 ((o26 + (x6).toNat * 3) + 1) [Value.int .i64 x2] fun w27 =>
  Q (Value.tuple #[]) w27
def F42.k3 (Q : Value → World → Prop) : (Option Addr × Int × Int × Unit) → World → Prop := fun s w => ∀ _ : Nat → Value, F42.k3c Q s.1 s.2.1 s.2.2.1 w
def F42.vc (x0 : Option Addr) (x1 : Int) (x2 : Int) (w : World) (Q : Value → World → Prop) : Prop :=
  Calls Tryz.prog 45 #[Value.pointer x0, Value.int .i64 x1] w fun e2 w1 =>
  ∃ i3 : Int, ∃ t4 : Bool, e2 = .returned (Value.tuple #[Value.int .i64 i3, Value.bool t4]) ∧ (
    vIf (!t4)
    (dr x0 fun b5 o6 =>
      ldSl w1 b5 (o6 + 1) fun A7 n8 c9 =>
      gd (([Value.int .i64 x1] ++ ([Value.int .i64 0] ++ ([Value.int .i64 0] ++ []))).length == 3) <|
      nw w1 (([Value.int .i64 x1] ++ ([Value.int .i64 0] ++ ([Value.int .i64 0] ++ []))) ++ []) 98 fun b10 w11 =>
      Calls Tryz.prog 83 #[Value.slice A7 n8 c9, Value.int .i64 i3, Value.slice (some ⟨b10, 0, none⟩) 1 1] w11 fun e13 w12 =>
      ∃ (A14 : Option Addr) (n15 c16 : Nat), e13 = .returned (Value.slice A14 n15 c16) ∧ (
        dr x0 fun b17 o18 =>
        st w12 b17 (o18 + 1) [Value.slice A14 n15 c16] fun w19 =>
        jnC (F42.k3 Q) (x0, (x2), (i3), ()) w19))
    (jnC (F42.k3 Q) (x0, (x2), (i3), ()) w1))
def F42.an : Ann := ⟨[], [(3, [(0, .kP), (2, .kI .i64), (6, .kI .i64)])]⟩
theorem F42.of (x0 : Option Addr) (x1 : Int) (x2 : Int) (w : World) {Q : Value → World → Prop} (h : F42.vc x0 x1 x2 w Q) : Calls Tryz.prog 42 #[Value.pointer x0, Value.int .i64 x1, Value.int .i64 x2] w (fun e w' => ∃ v, e = .returned v ∧ Q v w') := vcFn_of (A := F42.an) noCount mixed h (by kernel_rfl)
end Go.Proofs.YthcclmlbkfadcaaGreat
/- PRINTED BY MY OWN gen.py out of the translation: each function as a proposition. -/
namespace Go.Proofs.YthcclmlbkfadcaaGreat
open Go.GV
set_option linter.unusedVariables false
set_option maxRecDepth 100000
/-! ### function 43: (*stillage/index.Index).Apply -/
def F43.k6c (Q : Value → World → Prop) (x0 : Option Addr) (x3 : (Nat × Nat)) (x4 : (Nat × Nat)) (x5 : Bool) (x19 : Int) (x20 : Bool) (w : World) : Prop :=
  vIf x20
  (dr x0 fun b15 o16 =>
    ldP w.drew b15 o16 fun p17 =>
    ldA 32 w.drew x3.1 (x3.2 + 2) fun a18 =>
    ldA 38 w.drew x4.1 x4.2 fun a19 =>
    ldA 39 w.drew x3.1 x3.2 fun a20 =>
    Calls Tryz.prog 85 #[ofL a19, ofL a20] w.drew fun e22 w21 =>
    ∃ a23 : List Value, e22 = .returned (ofL a23) ∧ (
      kp w.drew x3.1 (x3.2 + 2) 32 w21 <|
      kp w.drew b15 o16 1 w21 <|
      Calls Tryz.prog 79 #[Value.pointer p17, ofL a18, ofL a23] w21 fun e25 w24 =>
      e25 = .returned (Value.tuple #[]) ∧ (
        Q (Value.tuple #[]) w24)))
  (vIf (x19 == 5)
    (vIf x5
      (dr x0 fun b26 o27 =>
        ldP w.drew b26 o27 fun p28 =>
        ldA 32 w.drew x3.1 (x3.2 + 2) fun a29 =>
        ldA 38 w.drew x4.1 x4.2 fun a30 =>
        ldA 39 w.drew x3.1 x3.2 fun a31 =>
        Calls Tryz.prog 86 #[ofL a30, ofL a31] w.drew fun e33 w32 =>
        ∃ a34 : List Value, e33 = .returned (ofL a34) ∧ (
          kp w.drew x3.1 (x3.2 + 2) 32 w32 <|
          kp w.drew b26 o27 1 w32 <|
          Calls Tryz.prog 79 #[Value.pointer p28, ofL a29, ofL a34] w32 fun e36 w35 =>
          e36 = .returned (Value.tuple #[]) ∧ (
            Q (Value.tuple #[]) w35)))
      (Q (Value.tuple #[]) w))
    (Q (Value.tuple #[]) w))
def F43.k6 (Q : Value → World → Prop) : (Option Addr × (Nat × Nat) × (Nat × Nat) × Bool × Int × Bool × Unit) → World → Prop := fun s w => ∀ _ : Nat → Value, F43.k6c Q s.1 s.2.1 s.2.2.1 s.2.2.2.1 s.2.2.2.2.1 s.2.2.2.2.2.1 w
def F43.vc (x0 : Option Addr) (x1 : List Value) (w : World) (Q : Value → World → Prop) : Prop :=
  nw w x1 37 fun b1 w2 =>
  vIf x0.isNone
  (Q (Value.tuple #[]) w2)
  (dr x0 fun b3 o4 =>
    ldP w2.drew b3 o4 fun p5 =>
    ldA 32 w2.drew b1 (0 + 2) fun a6 =>
    (Calls Tryz.prog 84 #[Value.pointer p5, ofL a6] w2.drew fun e8 w7 =>
      ∃ a9 : List Value, ∃ t10 : Bool, e8 = .returned (Value.tuple #[ofL a9, Value.bool t10]) ∧ (
        nw w7 Z48 48 fun b11 w12 =>
        kp w2.drew b1 (0 + 2) 32 w12 <|
        kp w2.drew b3 o4 1 w12 <|
        gd (a9.length == 38) <|
        st w12 b11 0 a9 fun w13 =>
        ldI .i64 w13 b1 0 fun i14 =>
        vIf (i14 == 1)
        (jnC (F43.k6 Q) (x0, (b1, 0), (b11, 0), t10, (i14), (i14 == 1), ()) w13)
        (jnC (F43.k6 Q) (x0, (b1, 0), (b11, 0), t10, (i14), (i14 == 2), ()) w13))) ∧
    (nw w2.drew Z48 48 fun b37 w38 =>
      kp w2.drew b1 (0 + 2) 32 w38 <|
      kp w2.drew b3 o4 1 w38 <|
      Calls Tryz.prog 84 #[Value.pointer p5, ofL a6] w38 fun e40 w39 =>
      ∃ a41 : List Value, ∃ t42 : Bool, e40 = .returned (Value.tuple #[ofL a41, Value.bool t42]) ∧ (
        gd (a41.length == 38) <|
        st w39 b37 0 a41 fun w43 =>
        ldI .i64 w43 b1 0 fun i44 =>
        vIf (i44 == 1)
        (jnC (F43.k6 Q) (x0, (b1, 0), (b37, 0), t42, (i44), (i44 == 1), ()) w43)
        (jnC (F43.k6 Q) (x0, (b1, 0), (b37, 0), t42, (i44), (i44 == 2), ()) w43))))
def F43.an : Ann := ⟨[], [(6, [(0, .kP), (3, .kL), (4, .kL), (5, .kB), (19, .kI .i64), (20, .kB)])]⟩
theorem F43.of (x0 : Option Addr) (x1 : List Value) (w : World) {Q : Value → World → Prop} (h : F43.vc x0 x1 w Q) : Calls Tryz.prog 43 #[Value.pointer x0, ofL x1] w (fun e w' => ∃ v, e = .returned v ∧ Q v w') := vcFn_of (A := F43.an) noCount mixed h (by kernel_rfl)
/-! ### function 44: (*stillage/tags.Tags).Apply -/
def F44.vc (x0 : Option Addr) (x1 : List Value) (w : World) (Q : Value → World → Prop) : Prop :=
  nw w x1 37 fun b1 w2 =>
  vIf x0.isNone
  (Q (Value.tuple #[]) w2)
  (ldS w2 b1 (0 + 34) fun s3 =>
    Calls Tryz.prog 59 #[Value.pointer x0, Value.string s3] w2 fun e5 w4 =>
    ∃ a6 : List Value, ∃ t7 : Bool, e5 = .returned (Value.tuple #[ofL a6, Value.bool t7]) ∧ (
      nw w4 Z53 53 fun b8 w9 =>
      gd (a6.length == 38) <|
      st w9 b8 0 a6 fun w10 =>
      ldI .i64 w10 b1 0 fun i11 =>
      vIf (i11 == 3)
      (ldA 38 w10 b8 0 fun a12 =>
        ldA 39 w10 b1 0 fun a13 =>
        Calls Tryz.prog 87 #[ofL a12, ofL a13] w10 fun e15 w14 =>
        ∃ a16 : List Value, e15 = .returned (ofL a16) ∧ (
          Calls Tryz.prog 81 #[Value.pointer x0, ofL a16] w14 fun e18 w17 =>
          e18 = .returned (Value.tuple #[]) ∧ (
            Q (Value.tuple #[]) w17)))
      (vIf (i11 == 4)
        (vIf t7
          (ldA 38 w10 b8 0 fun a19 =>
            ldA 39 w10 b1 0 fun a20 =>
            Calls Tryz.prog 88 #[ofL a19, ofL a20] w10 fun e22 w21 =>
            ∃ a23 : List Value, e22 = .returned (ofL a23) ∧ (
              Calls Tryz.prog 81 #[Value.pointer x0, ofL a23] w21 fun e25 w24 =>
              e25 = .returned (Value.tuple #[]) ∧ (
                Q (Value.tuple #[]) w24)))
          (Q (Value.tuple #[]) w10))
        (Q (Value.tuple #[]) w10))))
def F44.an : Ann := ⟨[], []⟩
theorem F44.of (x0 : Option Addr) (x1 : List Value) (w : World) {Q : Value → World → Prop} (h : F44.vc x0 x1 w Q) : Calls Tryz.prog 44 #[Value.pointer x0, ofL x1] w (fun e w' => ∃ v, e = .returned v ∧ Q v w') := vcFn_of (A := F44.an) noCount mixed h (by kernel_rfl)
/-! ### function 45: (*stillage/state.State).place -/
def F45.vc (x0 : Option Addr) (x1 : Int) (w : World) (Q : Value → World → Prop) : Prop :=
  dr x0 fun b1 o2 =>
  ldSl w b1 (o2 + 1) fun A3 n4 c5 =>
  Calls Tryz.prog 89 #[Value.slice A3 n4 c5, Value.int .i64 x1, Value.func (.func 90) #[] #[]] w fun e7 w6 =>
  ∃ i8 : Int, ∃ t9 : Bool, e7 = .returned (Value.tuple #[Value.int .i64 i8, Value.bool t9]) ∧ (
    Q (Value.tuple #[Value.int .i64 i8, Value.bool t9]) w6)
def F45.an : Ann := ⟨[], []⟩
theorem F45.of (x0 : Option Addr) (x1 : Int) (w : World) {Q : Value → World → Prop} (h : F45.vc x0 x1 w Q) : Calls Tryz.prog 45 #[Value.pointer x0, Value.int .i64 x1] w (fun e w' => ∃ v, e = .returned v ∧ Q v w') := vcFn_of (A := F45.an) noCount mixed h (by kernel_rfl)
/-! ### function 46: (*stillage/index.Index).Row -/
def F46.b6c (Q : Value → World → Prop) (C6 : (Option Addr × Unit × (Option Addr × Nat × Nat) × (Option Addr × Nat × Nat) × Int × Int × Unit) → World → Prop) (x0 : Option Addr) (x3 : Unit) (x4 : (Option Addr × Nat × Nat)) (x15 : (Option Addr × Nat × Nat)) (x16 : Int) (x17 : Int) (w : World) : Prop :=
  vIf (decide (x17 < x16))
  (dr x15.1 fun b9 o10 =>
    gd (decide (0 ≤ x17)) <|
    gd (decide (x17 < ((x15.2.1 : Nat) : Int))) <|
    ldA 32 w b9 (o10 + (x17).toNat * 32) fun a11 =>
    nw w Z33 33 fun b12 w13 =>
    gd (a11.length == 32) <|
    st w13 b12 0 a11 fun w14 =>
    ldA 32 w14 b12 0 fun a15 =>
    Calls Tryz.prog 58 #[Value.pointer x0, ofL a15] w14 fun e17 w16 =>
    ∃ a18 : List Value, ∃ t19 : Bool, e17 = .returned (Value.tuple #[ofL a18, Value.bool t19]) ∧ (
      nw w16 Z48 48 fun b20 w21 =>
      gd (a18.length == 38) <|
      st w21 b20 0 a18 fun w22 =>
      ldA 38 w22 b20 0 fun a23 =>
      gd (a23.length == 38) <|
      nw w22 (a23 ++ []) 48 fun b24 w25 =>
      app w25 38 96 Z48 48 x4.1 x4.2.1 x4.2.2 (Value.slice (some ⟨b24, 0, none⟩) 1 1) fun A26 n27 c28 w29 =>
      jnC C6 (x0, (), (A26, n27, c28), (x15.1, x15.2.1, x15.2.2), (x16), ((IntKind.wrap .i64 (x17 + 1))), ()) w29))
  (Q (Value.slice x4.1 x4.2.1 x4.2.2) w)
def F46.b6 (Q : Value → World → Prop) : (Option Addr × Unit × (Option Addr × Nat × Nat) × (Option Addr × Nat × Nat) × Int × Int × Unit) → World → ((Option Addr × Unit × (Option Addr × Nat × Nat) × (Option Addr × Nat × Nat) × Int × Int × Unit) → World → Prop) → Prop := fun s w C6 => ∀ _ : Nat → Value, F46.b6c Q C6 s.1 s.2.1 s.2.2.1 s.2.2.2.1 s.2.2.2.2.1 s.2.2.2.2.2.1 w
def F46.l6 (Q : Value → World → Prop) : (Option Addr × Unit × (Option Addr × Nat × Nat) × (Option Addr × Nat × Nat) × Int × Int × Unit) → World → Prop := fun s w => ∃ n, loopC (F46.b6 Q) n s w
def F46.vc (x0 : Option Addr) (w : World) (Q : Value → World → Prop) : Prop :=
  vIf x0.isNone
  (Q (Value.slice none 0 0) w)
  (dr x0 fun b1 o2 =>
    ldP w b1 o2 fun p3 =>
    Calls Tryz.prog 91 #[Value.pointer p3] w fun e5 w4 =>
    ∃ (A6 : Option Addr) (n7 c8 : Nat), e5 = .returned (Value.slice A6 n7 c8) ∧ (
      jnC (F46.l6 Q) (x0, (), (none, 0, 0), (A6, n7, c8), (((n7 : Nat) : Int)), (0), ()) w4))
def F46.an : Ann := ⟨[(6, [(0, .kP), (3, .kF 58), (4, .kSl), (15, .kSl), (16, .kI .i64), (17, .kI .i64)])], []⟩
theorem F46.of (x0 : Option Addr) (w : World) {Q : Value → World → Prop} (h : F46.vc x0 w Q) : Calls Tryz.prog 46 #[Value.pointer x0] w (fun e w' => ∃ v, e = .returned v ∧ Q v w') := vcFn_of (A := F46.an) noCount mixed h (by kernel_rfl)
/-! ### function 47: (*stillage/tags.Tags).Row -/
def F47.b5c (Q : Value → World → Prop) (C5 : ((Option Addr × Nat × Nat) × (Option Addr × Nat × Nat) × Int × Int × Unit) → World → Prop) (x3 : (Option Addr × Nat × Nat)) (x11 : (Option Addr × Nat × Nat)) (x12 : Int) (x13 : Int) (w : World) : Prop :=
  vIf (decide (x13 < x12))
  (dr x11.1 fun b6 o7 =>
    gd (decide (0 ≤ x13)) <|
    gd (decide (x13 < ((x11.2.1 : Nat) : Int))) <|
    ldA 38 w b6 (o7 + (x13).toNat * 38) fun a8 =>
    nw w Z53 53 fun b9 w10 =>
    gd (a8.length == 38) <|
    st w10 b9 0 a8 fun w11 =>
    ldA 38 w11 b9 0 fun a12 =>
    Calls Tryz.prog 82 #[ofL a12] w11 fun e14 w13 =>
    ∃ a15 : List Value, e14 = .returned (ofL a15) ∧ (
      gd (a15.length == 38) <|
      nw w13 (a15 ++ []) 53 fun b16 w17 =>
      app w17 38 104 Z53 53 x3.1 x3.2.1 x3.2.2 (Value.slice (some ⟨b16, 0, none⟩) 1 1) fun A18 n19 c20 w21 =>
      jnC C5 ((A18, n19, c20), (x11.1, x11.2.1, x11.2.2), (x12), ((IntKind.wrap .i64 (x13 + 1))), ()) w21))
  (Q (Value.slice x3.1 x3.2.1 x3.2.2) w)
def F47.b5 (Q : Value → World → Prop) : ((Option Addr × Nat × Nat) × (Option Addr × Nat × Nat) × Int × Int × Unit) → World → (((Option Addr × Nat × Nat) × (Option Addr × Nat × Nat) × Int × Int × Unit) → World → Prop) → Prop := fun s w C5 => ∀ _ : Nat → Value, F47.b5c Q C5 s.1 s.2.1 s.2.2.1 s.2.2.2.1 w
def F47.l5 (Q : Value → World → Prop) : ((Option Addr × Nat × Nat) × (Option Addr × Nat × Nat) × Int × Int × Unit) → World → Prop := fun s w => ∃ n, loopC (F47.b5 Q) n s w
def F47.vc (x0 : Option Addr) (w : World) (Q : Value → World → Prop) : Prop :=
  vIf x0.isNone
  (Q (Value.slice none 0 0) w)
  (dr x0 fun b1 o2 =>
    ldSl w b1 o2 fun A3 n4 c5 =>
    jnC (F47.l5 Q) ((none, 0, 0), (A3, n4, c5), (((n4 : Nat) : Int)), (0), ()) w)
def F47.an : Ann := ⟨[(5, [(3, .kSl), (11, .kSl), (12, .kI .i64), (13, .kI .i64)])], []⟩
theorem F47.of (x0 : Option Addr) (w : World) {Q : Value → World → Prop} (h : F47.vc x0 w Q) : Calls Tryz.prog 47 #[Value.pointer x0] w (fun e w' => ∃ v, e = .returned v ∧ Q v w') := vcFn_of (A := F47.an) noCount mixed h (by kernel_rfl)
/-! ### function 48: stillage/entry.Alive -/
def F48.vc (x0 : List Value) (w : World) (Q : Value → World → Prop) : Prop :=
  nw w x0 48 fun b1 w2 =>
  ldI .i64 w2 b1 (0 + 32) fun i3 =>
  vIf (i3 != 5)
  (Q (Value.bool true) w2)
  (ldSl w2 b1 (0 + 37) fun A4 n5 c6 =>
    ldI .i64 w2 b1 (0 + 34) fun i7 =>
    Calls Tryz.prog 92 #[Value.slice A4 n5 c6, Value.int .i64 i7] w2 fun e9 w8 =>
    ∃ t10 : Bool, e9 = .returned (Value.bool t10) ∧ (
      Q (Value.bool t10) w8))
def F48.an : Ann := ⟨[], []⟩
theorem F48.of (x0 : List Value) (w : World) {Q : Value → World → Prop} (h : F48.vc x0 w Q) : Calls Tryz.prog 48 #[ofL x0] w (fun e w' => ∃ v, e = .returned v ∧ Q v w') := vcFn_of (A := F48.an) noCount mixed h (by kernel_rfl)
/-! ### function 49: stillage/entry.AliveTag -/
def F49.vc (x0 : List Value) (w : World) (Q : Value → World → Prop) : Prop :=
  nw w x0 53 fun b1 w2 =>
  ldB w2 b1 (0 + 33) fun t3 =>
  vIf (!t3)
  (Q (Value.bool true) w2)
  (ldSl w2 b1 (0 + 37) fun A4 n5 c6 =>
    ldI .i64 w2 b1 (0 + 34) fun i7 =>
    Calls Tryz.prog 92 #[Value.slice A4 n5 c6, Value.int .i64 i7] w2 fun e9 w8 =>
    ∃ t10 : Bool, e9 = .returned (Value.bool t10) ∧ (
      Q (Value.bool t10) w8))
def F49.an : Ann := ⟨[], []⟩
theorem F49.of (x0 : List Value) (w : World) {Q : Value → World → Prop} (h : F49.vc x0 w Q) : Calls Tryz.prog 49 #[ofL x0] w (fun e w' => ∃ v, e = .returned v ∧ Q v w') := vcFn_of (A := F49.an) noCount mixed h (by kernel_rfl)
/-! ### function 50: stillage/state.word -/
def F50.vc (x0 : List Value) (w : World) (Q : Value → World → Prop) : Prop :=
  nw w x0 53 fun b1 w2 =>
  nw w2 Z37 37 fun b3 w4 =>
  ldS w4 b1 0 fun s5 =>
  ldA 32 w4 b1 (0 + 1) fun a6 =>
  ldA 3 w4 b1 (0 + 34) fun a7 =>
  gd (a6.length == 32) <|
  gd (a7.length == 3) <|
  nw w4 Z37 37 fun b8 w9 =>
  gd (([Value.int .i64 3] ++ ([Value.int .u64 0] ++ (a6 ++ ([Value.string s5] ++ ([Value.int .i64 0] ++ (a7 ++ [])))))).length == 39) <|
  st w9 b8 0 ([Value.int .i64 3] ++ ([Value.int .u64 0] ++ (a6 ++ ([Value.string s5] ++ ([Value.int .i64 0] ++ (a7 ++ [])))))) fun w10 =>
  ldB w10 b1 (0 + 33) fun t11 =>
  vIf t11
  (st w10 b8 0 [Value.int .i64 4] fun w12 =>
    ldA 39 w12 b8 0 fun a13 =>
    gd (a13.length == 39) <|
    st w12 b3 0 a13 fun w14 =>
    ldA 39 w14 b3 0 fun a15 =>
    Q (ofL a15) w14)
  (ldA 39 w10 b8 0 fun a16 =>
    gd (a16.length == 39) <|
    st w10 b3 0 a16 fun w17 =>
    ldA 39 w17 b3 0 fun a18 =>
    Q (ofL a18) w17)
def F50.an : Ann := ⟨[], []⟩
theorem F50.of (x0 : List Value) (w : World) {Q : Value → World → Prop} (h : F50.vc x0 w Q) : Calls Tryz.prog 50 #[ofL x0] w (fun e w' => ∃ v, e = .returned v ∧ Q v w') := vcFn_of (A := F50.an) noCount mixed h (by kernel_rfl)
/-! ### function 51: slices.SortStableFunc[[]stillage/api.Word,stillage/api.Word] -/
def F51s.vc (x0A : Option Addr) (x0n x0c : Nat) (w : World) (Q : Value → World → Prop) : Prop :=
  Calls Tryz.prog 93 #[Value.slice x0A x0n x0c, Value.int .i64 ((x0n : Nat) : Int), Value.func (.func 52) #[] #[]] w fun e2 w1 =>
  e2 = .returned (Value.tuple #[]) ∧ (
    Q (Value.tuple #[]) w1)
def F51s.an : Ann := ⟨[], []⟩
theorem F51s.of (x0A : Option Addr) (x0n x0c : Nat) (w : World) {Q : Value → World → Prop} (h : F51s.vc x0A x0n x0c w Q) : Calls Tryz.prog 51 #[Value.slice x0A x0n x0c, Value.func (.func 52) #[] #[]] w (fun e w' => ∃ v, e = .returned v ∧ Q v w') := vcFn_of (A := F51s.an) noCount mixed h (by kernel_rfl)
/-! ### function 52: (*stillage/state.State).Here$1 -/
def F52.vc (x0 : List Value) (x1 : List Value) (w : World) (Q : Value → World → Prop) : Prop :=
  nw w x0 37 fun b1 w2 =>
  nw w2 x1 37 fun b3 w4 =>
  ldI .i64 w4 b1 ((0 + 36) + 1) fun i5 =>
  ldI .i64 w4 b3 ((0 + 36) + 1) fun i6 =>
  Calls Tryz.prog 53 #[Value.int .i64 i5, Value.int .i64 i6] w4 fun e8 w7 =>
  ∃ i9 : Int, e8 = .returned (Value.int .i64 i9) ∧ (
    Q (Value.int .i64 i9) w7)
def F52.an : Ann := ⟨[], []⟩
theorem F52.of (x0 : List Value) (x1 : List Value) (w : World) {Q : Value → World → Prop} (h : F52.vc x0 x1 w Q) : Calls Tryz.prog 52 #[ofL x0, ofL x1] w (fun e w' => ∃ v, e = .returned v ∧ Q v w') := vcFn_of (A := F52.an) noCount mixed h (by kernel_rfl)
/-! ### function 53: cmp.Compare[int] -/
def F53.vc (x0 : Int) (x1 : Int) (w : World) (Q : Value → World → Prop) : Prop :=
  Calls Tryz.prog 94 #[Value.int .i64 x0] w fun e2 w1 =>
  ∃ t3 : Bool, e2 = .returned (Value.bool t3) ∧ (
    Calls Tryz.prog 94 #[Value.int .i64 x1] w1 fun e5 w4 =>
    ∃ t6 : Bool, e5 = .returned (Value.bool t6) ∧ (
      vIf t3
      (vIf t6
        (Q (Value.int .i64 0) w4)
        (Q (Value.int .i64 (-1)) w4))
      (vIf t6
        (Q (Value.int .i64 1) w4)
        (vIf (decide (x0 < x1))
          (Q (Value.int .i64 (-1)) w4)
          (vIf (decide (x0 > x1))
            (Q (Value.int .i64 1) w4)
            (Q (Value.int .i64 0) w4))))))
def F53.an : Ann := ⟨[], []⟩
theorem F53.of (x0 : Int) (x1 : Int) (w : World) {Q : Value → World → Prop} (h : F53.vc x0 x1 w Q) : Calls Tryz.prog 53 #[Value.int .i64 x0, Value.int .i64 x1] w (fun e w' => ∃ v, e = .returned v ∧ Q v w') := vcFn_of (A := F53.an) noCount mixed h (by kernel_rfl)
/-! ### function 55: stillage/stillageref20.New -/
def F55.b3c (Q : Value → World → Prop) (C3 : ((Option Addr × Nat × Nat) × (Option Addr × Nat × Nat) × Int × Unit) → World → Prop) (x0 : (Option Addr × Nat × Nat)) (x3 : (Option Addr × Nat × Nat)) (x4 : Int) (w : World) : Prop :=
  vIf (decide (x4 < ((x0.2.1 : Nat) : Int)))
  (dr x0.1 fun b1 o2 =>
    gd (decide (0 ≤ x4)) <|
    gd (decide (x4 < ((x0.2.1 : Nat) : Int))) <|
    ldA 38 w b1 (o2 + (x4).toNat * 38) fun a3 =>
    Calls Tryz.prog 95 #[Value.slice x3.1 x3.2.1 x3.2.2, ofL a3] w fun e5 w4 =>
    ∃ (A6 : Option Addr) (n7 c8 : Nat), e5 = .returned (Value.slice A6 n7 c8) ∧ (
      jnC C3 ((x0.1, x0.2.1, x0.2.2), (A6, n7, c8), ((IntKind.wrap .i64 (x4 + 1))), ()) w4))
  (Q (Value.slice x3.1 x3.2.1 x3.2.2) w)
def F55.b3 (Q : Value → World → Prop) : ((Option Addr × Nat × Nat) × (Option Addr × Nat × Nat) × Int × Unit) → World → (((Option Addr × Nat × Nat) × (Option Addr × Nat × Nat) × Int × Unit) → World → Prop) → Prop := fun s w C3 => ∀ _ : Nat → Value, F55.b3c Q C3 s.1 s.2.1 s.2.2.1 w
def F55.l3 (Q : Value → World → Prop) : ((Option Addr × Nat × Nat) × (Option Addr × Nat × Nat) × Int × Unit) → World → Prop := fun s w => ∃ n, loopC (F55.b3 Q) n s w
def F55.vc (x0A : Option Addr) (x0n x0c : Nat) (w : World) (Q : Value → World → Prop) : Prop :=
  jnC (F55.l3 Q) ((x0A, x0n, x0c), (none, 0, 0), (0), ()) w
def F55.an : Ann := ⟨[(3, [(0, .kSl), (3, .kSl), (4, .kI .i64)])], []⟩
theorem F55.of (x0A : Option Addr) (x0n x0c : Nat) (w : World) {Q : Value → World → Prop} (h : F55.vc x0A x0n x0c w Q) : Calls Tryz.prog 55 #[Value.slice x0A x0n x0c] w (fun e w' => ∃ v, e = .returned v ∧ Q v w') := vcFn_of (A := F55.an) noCount mixed h (by kernel_rfl)
/-! ### function 56: stillage/stillageref21.New -/
def F56.b3c (Q : Value → World → Prop) (C3 : ((Option Addr × Nat × Nat) × (Option Addr × Nat × Nat) × Int × Unit) → World → Prop) (x0 : (Option Addr × Nat × Nat)) (x3 : (Option Addr × Nat × Nat)) (x4 : Int) (w : World) : Prop :=
  vIf (decide (x4 < ((x0.2.1 : Nat) : Int)))
  (dr x0.1 fun b1 o2 =>
    gd (decide (0 ≤ x4)) <|
    gd (decide (x4 < ((x0.2.1 : Nat) : Int))) <|
    ldA 38 w b1 (o2 + (x4).toNat * 38) fun a3 =>
    Calls Tryz.prog 96 #[Value.slice x3.1 x3.2.1 x3.2.2, ofL a3] w fun e5 w4 =>
    ∃ (A6 : Option Addr) (n7 c8 : Nat), e5 = .returned (Value.slice A6 n7 c8) ∧ (
      jnC C3 ((x0.1, x0.2.1, x0.2.2), (A6, n7, c8), ((IntKind.wrap .i64 (x4 + 1))), ()) w4))
  (Q (Value.slice x3.1 x3.2.1 x3.2.2) w)
def F56.b3 (Q : Value → World → Prop) : ((Option Addr × Nat × Nat) × (Option Addr × Nat × Nat) × Int × Unit) → World → (((Option Addr × Nat × Nat) × (Option Addr × Nat × Nat) × Int × Unit) → World → Prop) → Prop := fun s w C3 => ∀ _ : Nat → Value, F56.b3c Q C3 s.1 s.2.1 s.2.2.1 w
def F56.l3 (Q : Value → World → Prop) : ((Option Addr × Nat × Nat) × (Option Addr × Nat × Nat) × Int × Unit) → World → Prop := fun s w => ∃ n, loopC (F56.b3 Q) n s w
def F56.vc (x0A : Option Addr) (x0n x0c : Nat) (w : World) (Q : Value → World → Prop) : Prop :=
  jnC (F56.l3 Q) ((x0A, x0n, x0c), (none, 0, 0), (0), ()) w
def F56.an : Ann := ⟨[(3, [(0, .kSl), (3, .kSl), (4, .kI .i64)])], []⟩
theorem F56.of (x0A : Option Addr) (x0n x0c : Nat) (w : World) {Q : Value → World → Prop} (h : F56.vc x0A x0n x0c w Q) : Calls Tryz.prog 56 #[Value.slice x0A x0n x0c] w (fun e w' => ∃ v, e = .returned v ∧ Q v w') := vcFn_of (A := F56.an) noCount mixed h (by kernel_rfl)
/-! ### function 57: stillage/stillageref22.load -/
def F57.k13c (Q : Value → World → Prop) (C4 : ((Option Addr × Nat × Nat) × Int × Int × Bool × (Option Addr × Nat × Nat) × Bool × Int × Unit) → World → Prop) (x0 : (Option Addr × Nat × Nat)) (x1 : Int) (x2 : Int) (x3 : Bool) (x9 : (Option Addr × Nat × Nat)) (x11 : Int) (x12 : (Nat × Nat)) (w : World) : Prop :=
  ldI .i64 w x12.1 (x12.2 + 1) fun i18 =>
  st w x12.1 (x12.2 + 1) [Value.int .i64 (IntKind.wrap .i64 (i18 + x2))] fun w19 =>
  ldA 3 w19 x12.1 x12.2 fun a20 =>
  gd (a20.length == 3) <|
  nw w19 (a20 ++ []) 98 fun b21 w22 =>
  app w22 3 24 [Value.int .i64 0, Value.int .i64 0, Value.int .i64 0] 98 x9.1 x9.2.1 x9.2.2 (Value.slice (some ⟨b21, 0, none⟩) 1 1) fun A23 n24 c25 w26 =>
  jnC C4 ((x0.1, x0.2.1, x0.2.2), (x1), (x2), x3, (A23, n24, c25), true, ((IntKind.wrap .i64 (x11 + 1))), ()) w26
def F57.k13 (Q : Value → World → Prop) (C4 : ((Option Addr × Nat × Nat) × Int × Int × Bool × (Option Addr × Nat × Nat) × Bool × Int × Unit) → World → Prop) : ((Option Addr × Nat × Nat) × Int × Int × Bool × (Option Addr × Nat × Nat) × Int × (Nat × Nat) × Unit) → World → Prop := fun s w => ∀ _ : Nat → Value, F57.k13c Q C4 s.1 s.2.1 s.2.2.1 s.2.2.2.1 s.2.2.2.2.1 s.2.2.2.2.2.1 s.2.2.2.2.2.2.1 w
def F57.k9c (Q : Value → World → Prop) (C4 : ((Option Addr × Nat × Nat) × Int × Int × Bool × (Option Addr × Nat × Nat) × Bool × Int × Unit) → World → Prop) (x0 : (Option Addr × Nat × Nat)) (x1 : Int) (x2 : Int) (x3 : Bool) (x9 : (Option Addr × Nat × Nat)) (x10 : Bool) (x11 : Int) (w : World) : Prop :=
  dr x0.1 fun b10 o11 =>
  gd (decide (0 ≤ x11)) <|
  gd (decide (x11 < ((x0.2.1 : Nat) : Int))) <|
  ldA 3 w b10 (o11 + (x11).toNat * 3) fun a12 =>
  nw w [Value.int .i64 0, Value.int .i64 0, Value.int .i64 0] 98 fun b13 w14 =>
  gd (a12.length == 3) <|
  st w14 b13 0 a12 fun w15 =>
  ldI .i64 w15 b13 0 fun i16 =>
  vIf (i16 == x1)
  (vIf x3
    (st w15 b13 (0 + 1) [Value.int .i64 0] fun w17 =>
      jnC (F57.k13 Q C4) ((x0.1, x0.2.1, x0.2.2), (x1), (x2), x3, (x9.1, x9.2.1, x9.2.2), (x11), (b13, 0), ()) w17)
    (jnC (F57.k13 Q C4) ((x0.1, x0.2.1, x0.2.2), (x1), (x2), x3, (x9.1, x9.2.1, x9.2.2), (x11), (b13, 0), ()) w15))
  (ldA 3 w15 b13 0 fun a27 =>
    gd (a27.length == 3) <|
    nw w15 (a27 ++ []) 98 fun b28 w29 =>
    app w29 3 24 [Value.int .i64 0, Value.int .i64 0, Value.int .i64 0] 98 x9.1 x9.2.1 x9.2.2 (Value.slice (some ⟨b28, 0, none⟩) 1 1) fun A30 n31 c32 w33 =>
    jnC C4 ((x0.1, x0.2.1, x0.2.2), (x1), (x2), x3, (A30, n31, c32), x10, ((IntKind.wrap .i64 (x11 + 1))), ()) w33)
def F57.k9 (Q : Value → World → Prop) (C4 : ((Option Addr × Nat × Nat) × Int × Int × Bool × (Option Addr × Nat × Nat) × Bool × Int × Unit) → World → Prop) : ((Option Addr × Nat × Nat) × Int × Int × Bool × (Option Addr × Nat × Nat) × Bool × Int × Unit) → World → Prop := fun s w => ∀ _ : Nat → Value, F57.k9c Q C4 s.1 s.2.1 s.2.2.1 s.2.2.2.1 s.2.2.2.2.1 s.2.2.2.2.2.1 s.2.2.2.2.2.2.1 w
def F57.k7c (Q : Value → World → Prop) (C4 : ((Option Addr × Nat × Nat) × Int × Int × Bool × (Option Addr × Nat × Nat) × Bool × Int × Unit) → World → Prop) (x0 : (Option Addr × Nat × Nat)) (x1 : Int) (x2 : Int) (x3 : Bool) (x9 : (Option Addr × Nat × Nat)) (x10 : Bool) (x11 : Int) (x29 : Bool) (w : World) : Prop :=
  vIf x29
  (gd (([Value.int .i64 x1] ++ ([Value.int .i64 x2] ++ ([Value.int .i64 0] ++ []))).length == 3) <|
    nw w (([Value.int .i64 x1] ++ ([Value.int .i64 x2] ++ ([Value.int .i64 0] ++ []))) ++ []) 98 fun b4 w5 =>
    app w5 3 24 [Value.int .i64 0, Value.int .i64 0, Value.int .i64 0] 98 x9.1 x9.2.1 x9.2.2 (Value.slice (some ⟨b4, 0, none⟩) 1 1) fun A6 n7 c8 w9 =>
    jnC (F57.k9 Q C4) ((x0.1, x0.2.1, x0.2.2), (x1), (x2), x3, (A6, n7, c8), true, (x11), ()) w9)
  (jnC (F57.k9 Q C4) ((x0.1, x0.2.1, x0.2.2), (x1), (x2), x3, (x9.1, x9.2.1, x9.2.2), x10, (x11), ()) w)
def F57.k7 (Q : Value → World → Prop) (C4 : ((Option Addr × Nat × Nat) × Int × Int × Bool × (Option Addr × Nat × Nat) × Bool × Int × Unit) → World → Prop) : ((Option Addr × Nat × Nat) × Int × Int × Bool × (Option Addr × Nat × Nat) × Bool × Int × Bool × Unit) → World → Prop := fun s w => ∀ _ : Nat → Value, F57.k7c Q C4 s.1 s.2.1 s.2.2.1 s.2.2.2.1 s.2.2.2.2.1 s.2.2.2.2.2.1 s.2.2.2.2.2.2.1 s.2.2.2.2.2.2.2.1 w
def F57.b4c (Q : Value → World → Prop) (C4 : ((Option Addr × Nat × Nat) × Int × Int × Bool × (Option Addr × Nat × Nat) × Bool × Int × Unit) → World → Prop) (x0 : (Option Addr × Nat × Nat)) (x1 : Int) (x2 : Int) (x3 : Bool) (x9 : (Option Addr × Nat × Nat)) (x10 : Bool) (x11 : Int) (w : World) : Prop :=
  vIf (decide (x11 < ((x0.2.1 : Nat) : Int)))
  (vIf (!x10)
    (dr x0.1 fun b1 o2 =>
      gd (decide (0 ≤ x11)) <|
      gd (decide (x11 < ((x0.2.1 : Nat) : Int))) <|
      ldI .i64 w b1 (o2 + (x11).toNat * 3) fun i3 =>
      jnC (F57.k7 Q C4) ((x0.1, x0.2.1, x0.2.2), (x1), (x2), x3, (x9.1, x9.2.1, x9.2.2), x10, (x11), (decide (i3 > x1)), ()) w)
    (jnC (F57.k7 Q C4) ((x0.1, x0.2.1, x0.2.2), (x1), (x2), x3, (x9.1, x9.2.1, x9.2.2), x10, (x11), false, ()) w))
  (vIf (!x10)
    (gd (([Value.int .i64 x1] ++ ([Value.int .i64 x2] ++ ([Value.int .i64 0] ++ []))).length == 3) <|
      nw w (([Value.int .i64 x1] ++ ([Value.int .i64 x2] ++ ([Value.int .i64 0] ++ []))) ++ []) 98 fun b34 w35 =>
      app w35 3 24 [Value.int .i64 0, Value.int .i64 0, Value.int .i64 0] 98 x9.1 x9.2.1 x9.2.2 (Value.slice (some ⟨b34, 0, none⟩) 1 1) fun A36 n37 c38 w39 =>
      Q (Value.slice A36 n37 c38) w39)
    (Q (Value.slice x9.1 x9.2.1 x9.2.2) w))
def F57.b4 (Q : Value → World → Prop) : ((Option Addr × Nat × Nat) × Int × Int × Bool × (Option Addr × Nat × Nat) × Bool × Int × Unit) → World → (((Option Addr × Nat × Nat) × Int × Int × Bool × (Option Addr × Nat × Nat) × Bool × Int × Unit) → World → Prop) → Prop := fun s w C4 => ∀ _ : Nat → Value, F57.b4c Q C4 s.1 s.2.1 s.2.2.1 s.2.2.2.1 s.2.2.2.2.1 s.2.2.2.2.2.1 s.2.2.2.2.2.2.1 w
def F57.l4 (Q : Value → World → Prop) : ((Option Addr × Nat × Nat) × Int × Int × Bool × (Option Addr × Nat × Nat) × Bool × Int × Unit) → World → Prop := fun s w => ∃ n, loopC (F57.b4 Q) n s w
def F57.vc (x0A : Option Addr) (x0n x0c : Nat) (x1 : Int) (x2 : Int) (x3 : Bool) (w : World) (Q : Value → World → Prop) : Prop :=
  jnC (F57.l4 Q) ((x0A, x0n, x0c), (x1), (x2), x3, (none, 0, 0), false, (0), ()) w
def F57.an : Ann := ⟨[(4, [(0, .kSl), (1, .kI .i64), (2, .kI .i64), (3, .kB), (9, .kSl), (10, .kB), (11, .kI .i64)])], [(7, [(0, .kSl), (1, .kI .i64), (2, .kI .i64), (3, .kB), (9, .kSl), (10, .kB), (11, .kI .i64), (29, .kB)]), (9, [(0, .kSl), (1, .kI .i64), (2, .kI .i64), (3, .kB), (9, .kSl), (10, .kB), (11, .kI .i64)]), (13, [(0, .kSl), (1, .kI .i64), (2, .kI .i64), (3, .kB), (9, .kSl), (11, .kI .i64), (12, .kL)])]⟩
theorem F57.of (x0A : Option Addr) (x0n x0c : Nat) (x1 : Int) (x2 : Int) (x3 : Bool) (w : World) {Q : Value → World → Prop} (h : F57.vc x0A x0n x0c x1 x2 x3 w Q) : Calls Tryz.prog 57 #[Value.slice x0A x0n x0c, Value.int .i64 x1, Value.int .i64 x2, Value.bool x3] w (fun e w' => ∃ v, e = .returned v ∧ Q v w') := vcFn_of (A := F57.an) noCount mixed h (by kernel_rfl)
/-! ### function 58: (*stillage/index.Index).Get -/
def F58.vc (x0 : Option Addr) (x1 : List Value) (w : World) (Q : Value → World → Prop) : Prop :=
  nw w x1 33 fun b1 w2 =>
  nw w2 Z48 48 fun b3 w4 =>
  vIf x0.isNone
  (gd (([Value.int .u8 0, Value.int .u8 0, Value.int .u8 0, Value.int .u8 0, Value.int .u8 0, Value.int .u8 0, Value.int .u8 0, Value.int .u8 0, Value.int .u8 0, Value.int .u8 0, Value.int .u8 0, Value.int .u8 0, Value.int .u8 0, Value.int .u8 0, Value.int .u8 0, Value.int .u8 0, Value.int .u8 0, Value.int .u8 0, Value.int .u8 0, Value.int .u8 0, Value.int .u8 0, Value.int .u8 0, Value.int .u8 0, Value.int .u8 0, Value.int .u8 0, Value.int .u8 0, Value.int .u8 0, Value.int .u8 0, Value.int .u8 0, Value.int .u8 0, Value.int .u8 0, Value.int .u8 0] ++ ([Value.int .i64 0] ++ ([Value.int .i64 0] ++ ([Value.int .i64 0, Value.int .i64 0, Value.int .i64 0] ++ ([Value.slice none 0 0] ++ []))))).length == 38) <|
    st w4 b3 0 ([Value.int .u8 0, Value.int .u8 0, Value.int .u8 0, Value.int .u8 0, Value.int .u8 0, Value.int .u8 0, Value.int .u8 0, Value.int .u8 0, Value.int .u8 0, Value.int .u8 0, Value.int .u8 0, Value.int .u8 0, Value.int .u8 0, Value.int .u8 0, Value.int .u8 0, Value.int .u8 0, Value.int .u8 0, Value.int .u8 0, Value.int .u8 0, Value.int .u8 0, Value.int .u8 0, Value.int .u8 0, Value.int .u8 0, Value.int .u8 0, Value.int .u8 0, Value.int .u8 0, Value.int .u8 0, Value.int .u8 0, Value.int .u8 0, Value.int .u8 0, Value.int .u8 0, Value.int .u8 0] ++ ([Value.int .i64 0] ++ ([Value.int .i64 0] ++ ([Value.int .i64 0, Value.int .i64 0, Value.int .i64 0] ++ ([Value.slice none 0 0] ++ []))))) fun w5 =>
    ldA 38 w5 b3 0 fun a6 =>
    Q (Value.tuple #[ofL a6, Value.bool false]) w5)
  (dr x0 fun b7 o8 =>
    ldP w4.drew b7 o8 fun p9 =>
    ldA 32 w4.drew b1 0 fun a10 =>
    (Calls Tryz.prog 84 #[Value.pointer p9, ofL a10] w4.drew fun e12 w11 =>
      ∃ a13 : List Value, ∃ t14 : Bool, e12 = .returned (Value.tuple #[ofL a13, Value.bool t14]) ∧ (
        nw w11 Z48 48 fun b15 w16 =>
        kp w4.drew b1 0 32 w16 <|
        kp w4.drew b7 o8 1 w16 <|
        gd (a13.length == 38) <|
        st w16 b15 0 a13 fun w17 =>
        ldA 38 w17 b15 0 fun a18 =>
        Calls Tryz.prog 80 #[ofL a18] w17 fun e20 w19 =>
        ∃ a21 : List Value, e20 = .returned (ofL a21) ∧ (
          gd (a21.length == 38) <|
          st w19 b3 0 a21 fun w22 =>
          ldA 38 w22 b3 0 fun a23 =>
          Q (Value.tuple #[ofL a23, Value.bool t14]) w22))) ∧
    (nw w4.drew Z48 48 fun b24 w25 =>
      kp w4.drew b1 0 32 w25 <|
      kp w4.drew b7 o8 1 w25 <|
      Calls Tryz.prog 84 #[Value.pointer p9, ofL a10] w25 fun e27 w26 =>
      ∃ a28 : List Value, ∃ t29 : Bool, e27 = .returned (Value.tuple #[ofL a28, Value.bool t29]) ∧ (
        gd (a28.length == 38) <|
        st w26 b24 0 a28 fun w30 =>
        ldA 38 w30 b24 0 fun a31 =>
        Calls Tryz.prog 80 #[ofL a31] w30 fun e33 w32 =>
        ∃ a34 : List Value, e33 = .returned (ofL a34) ∧ (
          gd (a34.length == 38) <|
          st w32 b3 0 a34 fun w35 =>
          ldA 38 w35 b3 0 fun a36 =>
          Q (Value.tuple #[ofL a36, Value.bool t29]) w35))))
def F58.an : Ann := ⟨[], []⟩
theorem F58.of (x0 : Option Addr) (x1 : List Value) (w : World) {Q : Value → World → Prop} (h : F58.vc x0 x1 w Q) : Calls Tryz.prog 58 #[Value.pointer x0, ofL x1] w (fun e w' => ∃ v, e = .returned v ∧ Q v w') := vcFn_of (A := F58.an) noCount mixed h (by kernel_rfl)
/-! ### function 59: (*stillage/tags.Tags).Get -/
def F59.vc (x0 : Option Addr) (x1 : ByteArray) (w : World) (Q : Value → World → Prop) : Prop :=
  nw w Z53 53 fun b1 w2 =>
  vIf x0.isNone
  (gd (([Value.string (⟨#[]⟩ : ByteArray)] ++ ([Value.int .u8 0, Value.int .u8 0, Value.int .u8 0, Value.int .u8 0, Value.int .u8 0, Value.int .u8 0, Value.int .u8 0, Value.int .u8 0, Value.int .u8 0, Value.int .u8 0, Value.int .u8 0, Value.int .u8 0, Value.int .u8 0, Value.int .u8 0, Value.int .u8 0, Value.int .u8 0, Value.int .u8 0, Value.int .u8 0, Value.int .u8 0, Value.int .u8 0, Value.int .u8 0, Value.int .u8 0, Value.int .u8 0, Value.int .u8 0, Value.int .u8 0, Value.int .u8 0, Value.int .u8 0, Value.int .u8 0, Value.int .u8 0, Value.int .u8 0, Value.int .u8 0, Value.int .u8 0] ++ ([Value.bool false] ++ ([Value.int .i64 0, Value.int .i64 0, Value.int .i64 0] ++ ([Value.slice none 0 0] ++ []))))).length == 38) <|
    st w2 b1 0 ([Value.string (⟨#[]⟩ : ByteArray)] ++ ([Value.int .u8 0, Value.int .u8 0, Value.int .u8 0, Value.int .u8 0, Value.int .u8 0, Value.int .u8 0, Value.int .u8 0, Value.int .u8 0, Value.int .u8 0, Value.int .u8 0, Value.int .u8 0, Value.int .u8 0, Value.int .u8 0, Value.int .u8 0, Value.int .u8 0, Value.int .u8 0, Value.int .u8 0, Value.int .u8 0, Value.int .u8 0, Value.int .u8 0, Value.int .u8 0, Value.int .u8 0, Value.int .u8 0, Value.int .u8 0, Value.int .u8 0, Value.int .u8 0, Value.int .u8 0, Value.int .u8 0, Value.int .u8 0, Value.int .u8 0, Value.int .u8 0, Value.int .u8 0] ++ ([Value.bool false] ++ ([Value.int .i64 0, Value.int .i64 0, Value.int .i64 0] ++ ([Value.slice none 0 0] ++ []))))) fun w3 =>
    ldA 38 w3 b1 0 fun a4 =>
    Q (Value.tuple #[ofL a4, Value.bool false]) w3)
  (Calls Tryz.prog 97 #[Value.pointer x0, Value.string x1] w2 fun e6 w5 =>
    ∃ i7 : Int, ∃ t8 : Bool, e6 = .returned (Value.tuple #[Value.int .i64 i7, Value.bool t8]) ∧ (
      vIf (!t8)
      (gd (([Value.string (⟨#[]⟩ : ByteArray)] ++ ([Value.int .u8 0, Value.int .u8 0, Value.int .u8 0, Value.int .u8 0, Value.int .u8 0, Value.int .u8 0, Value.int .u8 0, Value.int .u8 0, Value.int .u8 0, Value.int .u8 0, Value.int .u8 0, Value.int .u8 0, Value.int .u8 0, Value.int .u8 0, Value.int .u8 0, Value.int .u8 0, Value.int .u8 0, Value.int .u8 0, Value.int .u8 0, Value.int .u8 0, Value.int .u8 0, Value.int .u8 0, Value.int .u8 0, Value.int .u8 0, Value.int .u8 0, Value.int .u8 0, Value.int .u8 0, Value.int .u8 0, Value.int .u8 0, Value.int .u8 0, Value.int .u8 0, Value.int .u8 0] ++ ([Value.bool false] ++ ([Value.int .i64 0, Value.int .i64 0, Value.int .i64 0] ++ ([Value.slice none 0 0] ++ []))))).length == 38) <|
        st w5 b1 0 ([Value.string (⟨#[]⟩ : ByteArray)] ++ ([Value.int .u8 0, Value.int .u8 0, Value.int .u8 0, Value.int .u8 0, Value.int .u8 0, Value.int .u8 0, Value.int .u8 0, Value.int .u8 0, Value.int .u8 0, Value.int .u8 0, Value.int .u8 0, Value.int .u8 0, Value.int .u8 0, Value.int .u8 0, Value.int .u8 0, Value.int .u8 0, Value.int .u8 0, Value.int .u8 0, Value.int .u8 0, Value.int .u8 0, Value.int .u8 0, Value.int .u8 0, Value.int .u8 0, Value.int .u8 0, Value.int .u8 0, Value.int .u8 0, Value.int .u8 0, Value.int .u8 0, Value.int .u8 0, Value.int .u8 0, Value.int .u8 0, Value.int .u8 0] ++ ([Value.bool false] ++ ([Value.int .i64 0, Value.int .i64 0, Value.int .i64 0] ++ ([Value.slice none 0 0] ++ []))))) fun w9 =>
        ldA 38 w9 b1 0 fun a10 =>
        Q (Value.tuple #[ofL a10, Value.bool false]) w9)
      (dr x0 fun b11 o12 =>
        ldSl w5 b11 o12 fun A13 n14 c15 =>
        dr A13 fun b16 o17 =>
        gd (decide (0 ≤ i7)) <|
        gd (decide (i7 < ((n14 : Nat) : Int))) <|
        ldA 38 w5 b16 (o17 + (i7).toNat * 38) fun a18 =>
        Calls Tryz.prog 82 #[ofL a18] w5 fun e20 w19 =>
        ∃ a21 : List Value, e20 = .returned (ofL a21) ∧ (
          gd (a21.length == 38) <|
          st w19 b1 0 a21 fun w22 =>
          ldA 38 w22 b1 0 fun a23 =>
          Q (Value.tuple #[ofL a23, Value.bool true]) w22))))
def F59.an : Ann := ⟨[], []⟩
theorem F59.of (x0 : Option Addr) (x1 : ByteArray) (w : World) {Q : Value → World → Prop} (h : F59.vc x0 x1 w Q) : Calls Tryz.prog 59 #[Value.pointer x0, Value.string x1] w (fun e w' => ∃ v, e = .returned v ∧ Q v w') := vcFn_of (A := F59.an) noCount mixed h (by kernel_rfl)
/-! ### function 60: (*stillage/index.Index).Count -/
def F60.b3c (Q : Value → World → Prop) (C3 : (Int × Int × (Option Addr × Nat × Nat) × Int × Int × Unit) → World → Prop) (x4 : Int) (x5 : Int) (x9 : (Option Addr × Nat × Nat)) (x10 : Int) (x11 : Int) (w : World) : Prop :=
  vIf (decide (x11 < x10))
  (dr x9.1 fun b6 o7 =>
    gd (decide (0 ≤ x11)) <|
    gd (decide (x11 < ((x9.2.1 : Nat) : Int))) <|
    ldA 38 w b6 (o7 + (x11).toNat * 38) fun a8 =>
    nw w Z48 48 fun b9 w10 =>
    gd (a8.length == 38) <|
    st w10 b9 0 a8 fun w11 =>
    ldI .i64 w11 b9 (0 + 32) fun i12 =>
    vIf (i12 != 5)
    (ldI .i64 w11 b9 (0 + 33) fun i13 =>
      jnC C3 (((IntKind.wrap .i64 (x4 + 1))), ((IntKind.wrap .i64 (x5 + i13))), (x9.1, x9.2.1, x9.2.2), (x10), ((IntKind.wrap .i64 (x11 + 1))), ()) w11)
    (jnC C3 ((x4), (x5), (x9.1, x9.2.1, x9.2.2), (x10), ((IntKind.wrap .i64 (x11 + 1))), ()) w11))
  (Q (Value.tuple #[Value.int .i64 x4, Value.int .i64 x5]) w)
def F60.b3 (Q : Value → World → Prop) : (Int × Int × (Option Addr × Nat × Nat) × Int × Int × Unit) → World → ((Int × Int × (Option Addr × Nat × Nat) × Int × Int × Unit) → World → Prop) → Prop := fun s w C3 => ∀ _ : Nat → Value, F60.b3c Q C3 s.1 s.2.1 s.2.2.1 s.2.2.2.1 s.2.2.2.2.1 w
def F60.l3 (Q : Value → World → Prop) : (Int × Int × (Option Addr × Nat × Nat) × Int × Int × Unit) → World → Prop := fun s w => ∃ n, loopC (F60.b3 Q) n s w
def F60.vc (x0 : Option Addr) (w : World) (Q : Value → World → Prop) : Prop :=
  Calls Tryz.prog 46 #[Value.pointer x0] w fun e2 w1 =>
  ∃ (A3 : Option Addr) (n4 c5 : Nat), e2 = .returned (Value.slice A3 n4 c5) ∧ (
    jnC (F60.l3 Q) ((0), (0), (A3, n4, c5), (((n4 : Nat) : Int)), (0), ()) w1)
def F60.an : Ann := ⟨[(3, [(4, .kI .i64), (5, .kI .i64), (9, .kSl), (10, .kI .i64), (11, .kI .i64)])], []⟩
theorem F60.of (x0 : Option Addr) (w : World) {Q : Value → World → Prop} (h : F60.vc x0 w Q) : Calls Tryz.prog 60 #[Value.pointer x0] w (fun e w' => ∃ v, e = .returned v ∧ Q v w') := vcFn_of (A := F60.an) noCount mixed h (by kernel_rfl)
/-! ### function 61: (*stillage/tags.Tags).Count -/
def F61.vc (x0 : Option Addr) (w : World) (Q : Value → World → Prop) : Prop :=
  Calls Tryz.prog 98 #[Value.pointer x0] w fun e2 w1 =>
  ∃ (A3 : Option Addr) (n4 c5 : Nat), e2 = .returned (Value.slice A3 n4 c5) ∧ (
    Q (Value.int .i64 ((n4 : Nat) : Int)) w1)
def F61.an : Ann := ⟨[], []⟩
theorem F61.of (x0 : Option Addr) (w : World) {Q : Value → World → Prop} (h : F61.vc x0 w Q) : Calls Tryz.prog 61 #[Value.pointer x0] w (fun e w' => ∃ v, e = .returned v ∧ Q v w') := vcFn_of (A := F61.an) noCount mixed h (by kernel_rfl)
/-! ### function 62: stillage/stillageref11.Ints -/
def F62.b4c (Q : Value → World → Prop) (C4 : ((Option Addr × Nat × Nat) × (Option Addr × Nat × Nat) × Int × Unit) → World → Prop) (x0 : (Option Addr × Nat × Nat)) (x1 : (Option Addr × Nat × Nat)) (x5 : Int) (w : World) : Prop :=
  vIf (decide (x5 < ((x0.2.1 : Nat) : Int)))
  (dr x0.1 fun b1 o2 =>
    gd (decide (0 ≤ x5)) <|
    gd (decide (x5 < ((x0.2.1 : Nat) : Int))) <|
    ldI .i64 w.drew b1 (o2 + (x5).toNat * 1) fun i3 =>
    dr x1.1 fun b4 o5 =>
    gd (decide (0 ≤ x5)) <|
    gd (decide (x5 < ((x1.2.1 : Nat) : Int))) <|
    ldI .i64 w.drew b4 (o5 + (x5).toNat * 1) fun i6 =>
    vIf (i3 != i6)
    (Q (Value.bool false) w.drew)
    (jnC C4 ((x0.1, x0.2.1, x0.2.2), (x1.1, x1.2.1, x1.2.2), ((IntKind.wrap .i64 (x5 + 1))), ()) w.drew))
  (Q (Value.bool true) w)
def F62.b4 (Q : Value → World → Prop) : ((Option Addr × Nat × Nat) × (Option Addr × Nat × Nat) × Int × Unit) → World → (((Option Addr × Nat × Nat) × (Option Addr × Nat × Nat) × Int × Unit) → World → Prop) → Prop := fun s w C4 => ∀ _ : Nat → Value, F62.b4c Q C4 s.1 s.2.1 s.2.2.1 w
def F62.l4 (Q : Value → World → Prop) : ((Option Addr × Nat × Nat) × (Option Addr × Nat × Nat) × Int × Unit) → World → Prop := fun s w => ∃ n, loopC (F62.b4 Q) n s w
def F62.vc (x0A : Option Addr) (x0n x0c : Nat) (x1A : Option Addr) (x1n x1c : Nat) (w : World) (Q : Value → World → Prop) : Prop :=
  vIf (((x0n : Nat) : Int) != ((x1n : Nat) : Int))
  (Q (Value.bool false) w)
  (jnC (F62.l4 Q) ((x0A, x0n, x0c), (x1A, x1n, x1c), (0), ()) w)
def F62.an : Ann := ⟨[(4, [(0, .kSl), (1, .kSl), (5, .kI .i64)])], []⟩
theorem F62.of (x0A : Option Addr) (x0n x0c : Nat) (x1A : Option Addr) (x1n x1c : Nat) (w : World) {Q : Value → World → Prop} (h : F62.vc x0A x0n x0c x1A x1n x1c w Q) : Calls Tryz.prog 62 #[Value.slice x0A x0n x0c, Value.slice x1A x1n x1c] w (fun e w' => ∃ v, e = .returned v ∧ Q v w') := vcFn_of (A := F62.an) noCount mixed h (by kernel_rfl)
/-! ### function 63: (*stillage/tags.Tags).Names -/
def F63.b3c (Q : Value → World → Prop) (C3 : ((Option Addr × Nat × Nat) × (Option Addr × Nat × Nat) × Int × Int × Unit) → World → Prop) (x3 : (Option Addr × Nat × Nat)) (x7 : (Option Addr × Nat × Nat)) (x8 : Int) (x9 : Int) (w : World) : Prop :=
  vIf (decide (x9 < x8))
  (dr x7.1 fun b6 o7 =>
    gd (decide (0 ≤ x9)) <|
    gd (decide (x9 < ((x7.2.1 : Nat) : Int))) <|
    ldA 38 w b6 (o7 + (x9).toNat * 38) fun a8 =>
    nw w Z53 53 fun b9 w10 =>
    gd (a8.length == 38) <|
    st w10 b9 0 a8 fun w11 =>
    ldA 32 w11 b9 (0 + 1) fun a12 =>
    gd (a12.length == 32) <|
    nw w11 (a12 ++ []) 33 fun b13 w14 =>
    app w14 32 32 Z33 33 x3.1 x3.2.1 x3.2.2 (Value.slice (some ⟨b13, 0, none⟩) 1 1) fun A15 n16 c17 w18 =>
    jnC C3 ((A15, n16, c17), (x7.1, x7.2.1, x7.2.2), (x8), ((IntKind.wrap .i64 (x9 + 1))), ()) w18)
  (Q (Value.slice x3.1 x3.2.1 x3.2.2) w)
def F63.b3 (Q : Value → World → Prop) : ((Option Addr × Nat × Nat) × (Option Addr × Nat × Nat) × Int × Int × Unit) → World → (((Option Addr × Nat × Nat) × (Option Addr × Nat × Nat) × Int × Int × Unit) → World → Prop) → Prop := fun s w C3 => ∀ _ : Nat → Value, F63.b3c Q C3 s.1 s.2.1 s.2.2.1 s.2.2.2.1 w
def F63.l3 (Q : Value → World → Prop) : ((Option Addr × Nat × Nat) × (Option Addr × Nat × Nat) × Int × Int × Unit) → World → Prop := fun s w => ∃ n, loopC (F63.b3 Q) n s w
def F63.vc (x0 : Option Addr) (w : World) (Q : Value → World → Prop) : Prop :=
  Calls Tryz.prog 98 #[Value.pointer x0] w fun e2 w1 =>
  ∃ (A3 : Option Addr) (n4 c5 : Nat), e2 = .returned (Value.slice A3 n4 c5) ∧ (
    jnC (F63.l3 Q) ((none, 0, 0), (A3, n4, c5), (((n4 : Nat) : Int)), (0), ()) w1)
def F63.an : Ann := ⟨[(3, [(3, .kSl), (7, .kSl), (8, .kI .i64), (9, .kI .i64)])], []⟩
theorem F63.of (x0 : Option Addr) (w : World) {Q : Value → World → Prop} (h : F63.vc x0 w Q) : Calls Tryz.prog 63 #[Value.pointer x0] w (fun e w' => ∃ v, e = .returned v ∧ Q v w') := vcFn_of (A := F63.an) noCount mixed h (by kernel_rfl)
/-! ### function 64: (*stillage/tags.Tags).List -/
def F64.k6c (Q : Value → World → Prop) (C3 : (ByteArray × Int × (Option Addr × Nat × Nat) × (Option Addr × Nat × Nat) × Int × Int × Unit) → World → Prop) (x1 : ByteArray) (x2 : Int) (x7 : (Option Addr × Nat × Nat)) (x9 : (Nat × Nat)) (x11 : (Option Addr × Nat × Nat)) (x12 : Int) (x13 : Int) (x26 : Bool) (w : World) : Prop :=
  vIf x26
  (ldS w x9.1 x9.2 fun s13 =>
    nw w ([Value.string s13] ++ []) 9 fun b14 w15 =>
    app w15 1 16 [Value.string (⟨#[]⟩ : ByteArray)] 9 x7.1 x7.2.1 x7.2.2 (Value.slice (some ⟨b14, 0, none⟩) 1 1) fun A16 n17 c18 w19 =>
    jnC C3 (x1, (x2), (A16, n17, c18), (x11.1, x11.2.1, x11.2.2), (x12), ((IntKind.wrap .i64 (x13 + 1))), ()) w19)
  (jnC C3 (x1, (x2), (x7.1, x7.2.1, x7.2.2), (x11.1, x11.2.1, x11.2.2), (x12), ((IntKind.wrap .i64 (x13 + 1))), ()) w)
def F64.k6 (Q : Value → World → Prop) (C3 : (ByteArray × Int × (Option Addr × Nat × Nat) × (Option Addr × Nat × Nat) × Int × Int × Unit) → World → Prop) : (ByteArray × Int × (Option Addr × Nat × Nat) × (Nat × Nat) × (Option Addr × Nat × Nat) × Int × Int × Bool × Unit) → World → Prop := fun s w => ∀ _ : Nat → Value, F64.k6c Q C3 s.1 s.2.1 s.2.2.1 s.2.2.2.1 s.2.2.2.2.1 s.2.2.2.2.2.1 s.2.2.2.2.2.2.1 s.2.2.2.2.2.2.2.1 w
def F64.b3c (Q : Value → World → Prop) (C3 : (ByteArray × Int × (Option Addr × Nat × Nat) × (Option Addr × Nat × Nat) × Int × Int × Unit) → World → Prop) (x1 : ByteArray) (x2 : Int) (x7 : (Option Addr × Nat × Nat)) (x11 : (Option Addr × Nat × Nat)) (x12 : Int) (x13 : Int) (w : World) : Prop :=
  vIf (decide (x13 < x12))
  (dr x11.1 fun b6 o7 =>
    gd (decide (0 ≤ x13)) <|
    gd (decide (x13 < ((x11.2.1 : Nat) : Int))) <|
    ldA 38 w b6 (o7 + (x13).toNat * 38) fun a8 =>
    nw w Z53 53 fun b9 w10 =>
    gd (a8.length == 38) <|
    st w10 b9 0 a8 fun w11 =>
    ldS w11 b9 0 fun s12 =>
    vIf (!((Op.bytesLess s12.toList x1.toList) || (s12.toList == x1.toList)))
    (jnC (F64.k6 Q C3) (x1, (x2), (x7.1, x7.2.1, x7.2.2), (b9, 0), (x11.1, x11.2.1, x11.2.2), (x12), (x13), (decide (((x7.2.1 : Nat) : Int) < x2)), ()) w11)
    (jnC (F64.k6 Q C3) (x1, (x2), (x7.1, x7.2.1, x7.2.2), (b9, 0), (x11.1, x11.2.1, x11.2.2), (x12), (x13), false, ()) w11))
  (Q (Value.slice x7.1 x7.2.1 x7.2.2) w)
def F64.b3 (Q : Value → World → Prop) : (ByteArray × Int × (Option Addr × Nat × Nat) × (Option Addr × Nat × Nat) × Int × Int × Unit) → World → ((ByteArray × Int × (Option Addr × Nat × Nat) × (Option Addr × Nat × Nat) × Int × Int × Unit) → World → Prop) → Prop := fun s w C3 => ∀ _ : Nat → Value, F64.b3c Q C3 s.1 s.2.1 s.2.2.1 s.2.2.2.1 s.2.2.2.2.1 s.2.2.2.2.2.1 w
def F64.l3 (Q : Value → World → Prop) : (ByteArray × Int × (Option Addr × Nat × Nat) × (Option Addr × Nat × Nat) × Int × Int × Unit) → World → Prop := fun s w => ∃ n, loopC (F64.b3 Q) n s w
def F64.vc (x0 : Option Addr) (x1 : ByteArray) (x2 : Int) (w : World) (Q : Value → World → Prop) : Prop :=
  Calls Tryz.prog 98 #[Value.pointer x0] w fun e2 w1 =>
  ∃ (A3 : Option Addr) (n4 c5 : Nat), e2 = .returned (Value.slice A3 n4 c5) ∧ (
    jnC (F64.l3 Q) (x1, (x2), (none, 0, 0), (A3, n4, c5), (((n4 : Nat) : Int)), (0), ()) w1)
def F64.an : Ann := ⟨[(3, [(1, .kS), (2, .kI .i64), (7, .kSl), (11, .kSl), (12, .kI .i64), (13, .kI .i64)])], [(6, [(1, .kS), (2, .kI .i64), (7, .kSl), (9, .kL), (11, .kSl), (12, .kI .i64), (13, .kI .i64), (26, .kB)])]⟩
theorem F64.of (x0 : Option Addr) (x1 : ByteArray) (x2 : Int) (w : World) {Q : Value → World → Prop} (h : F64.vc x0 x1 x2 w Q) : Calls Tryz.prog 64 #[Value.pointer x0, Value.string x1, Value.int .i64 x2] w (fun e w' => ∃ v, e = .returned v ∧ Q v w') := vcFn_of (A := F64.an) noCount mixed h (by kernel_rfl)
end Go.Proofs.YthcclmlbkfadcaaGreat
/- PRINTED BY MY OWN gen.py out of the translation: each function as a proposition. -/
namespace Go.Proofs.YthcclmlbkfadcaaGreat
open Go.GV
set_option linter.unusedVariables false
set_option maxRecDepth 100000
/-! ### function 77: slices.Clone[[]stillage/api.Load,stillage/api.Load] -/
def F77.vc (x0A : Option Addr) (x0n x0c : Nat) (w : World) (Q : Value → World → Prop) : Prop :=
  vIf x0A.isNone
  (Q (Value.slice none 0 0) w)
  (nw w [] 98 fun b1 w2 =>
    app w2 3 24 [Value.int .i64 0, Value.int .i64 0, Value.int .i64 0] 98 (some ⟨b1, 0, none⟩) 0 0 (Value.slice x0A x0n x0c) fun A3 n4 c5 w6 =>
    Q (Value.slice A3 n4 c5) w6)
def F77.an : Ann := ⟨[], []⟩
theorem F77.of (x0A : Option Addr) (x0n x0c : Nat) (w : World) {Q : Value → World → Prop} (h : F77.vc x0A x0n x0c w Q) : Calls Tryz.prog 77 #[Value.slice x0A x0n x0c] w (fun e w' => ∃ v, e = .returned v ∧ Q v w') := vcFn_of (A := F77.an) noCount mixed h (by kernel_rfl)
/-! ### function 78: stillage/slots.New[stillage/api.Entry] -/
def F78.vc  (w : World) (Q : Value → World → Prop) : Prop :=
  nw w (zeros 8 Z157) 157 fun b1 w2 =>
  nw w2 ([Value.slice (some ⟨b1, 0, none⟩) 8 8] ++ ([Value.int .i64 0] ++ [])) 154 fun b3 w4 =>
  Q (Value.pointer (some ⟨b3, 0, none⟩)) w4
def F78.an : Ann := ⟨[], []⟩
theorem F78.of  (w : World) {Q : Value → World → Prop} (h : F78.vc  w Q) : Calls Tryz.prog 78 #[] w (fun e w' => ∃ v, e = .returned v ∧ Q v w') := vcFn_of (A := F78.an) noCount mixed h (by kernel_rfl)
/-! ### function 79: (*stillage/slots.Table[stillage/api.Entry]).Put -/
def F79.k8c (Q : Value → World → Prop) (x0 : Option Addr) (x4 : (Nat × Nat)) (x5 : (Nat × Nat)) (x6 : Int) (w : World) : Prop :=
  dr x0 fun b31 o32 =>
  ldSl w.drew b31 o32 fun A33 n34 c35 =>
  ldA 32 w.drew x4.1 x4.2 fun a36 =>
  ldA 38 w.drew x5.1 x5.2 fun a37 =>
  gd (a36.length == 32) <|
  gd (a37.length == 38) <|
  dr A33 fun b38 o39 =>
  gd (decide (0 ≤ x6)) <|
  gd (decide (x6 < ((n34 : Nat) : Int))) <|
  gd (([Value.bool true] ++ (a36 ++ (a37 ++ []))).length == 71) <|
  st w.drew b38 (o39 + (x6).toNat * 71) ([Value.bool true] ++ (a36 ++ (a37 ++ []))) fun w40 =>
  Q (Value.tuple #[]) w40
def F79.k8 (Q : Value → World → Prop) : (Option Addr × (Nat × Nat) × (Nat × Nat) × Int × Unit) → World → Prop := fun s w => ∀ _ : Nat → Value, F79.k8c Q s.1 s.2.1 s.2.2.1 s.2.2.2.1 w
def F79.k7c (Q : Value → World → Prop) (x0 : Option Addr) (x4 : (Nat × Nat)) (x5 : (Nat × Nat)) (x6 : Int) (w : World) : Prop :=
  dr x0 fun b25 o26 =>
  ldI .i64 w b25 (o26 + 1) fun i27 =>
  dr x0 fun b28 o29 =>
  st w b28 (o29 + 1) [Value.int .i64 (IntKind.wrap .i64 (i27 + 1))] fun w30 =>
  jnC (F79.k8 Q) (x0, (x4.1, x4.2), (x5.1, x5.2), (x6), ()) w30
def F79.k7 (Q : Value → World → Prop) : (Option Addr × (Nat × Nat) × (Nat × Nat) × Int × Unit) → World → Prop := fun s w => ∀ _ : Nat → Value, F79.k7c Q s.1 s.2.1 s.2.2.1 s.2.2.2.1 w
def F79.vc (x0 : Option Addr) (x1 : List Value) (x2 : List Value) (w : World) (Q : Value → World → Prop) : Prop :=
  nw w x1 33 fun b1 w2 =>
  nw w2 x2 48 fun b3 w4 =>
  vIf x0.isNone
  (Q (Value.tuple #[]) w4)
  (ldA 32 w4 b1 0 fun a5 =>
    Calls Tryz.prog 111 #[Value.pointer x0, ofL a5] w4 fun e7 w6 =>
    ∃ i8 : Int, ∃ t9 : Bool, e7 = .returned (Value.tuple #[Value.int .i64 i8, Value.bool t9]) ∧ (
      vIf (!t9)
      (dr x0 fun b10 o11 =>
        ldI .i64 w6.drew b10 (o11 + 1) fun i12 =>
        dr x0 fun b13 o14 =>
        ldSl w6.drew b13 o14 fun A15 n16 c17 =>
        vIf (decide ((IntKind.wrap .i64 (4 * (IntKind.wrap .i64 (i12 + 1)))) > (IntKind.wrap .i64 (3 * ((n16 : Nat) : Int)))))
        (Calls Tryz.prog 112 #[Value.pointer x0] w6.drew fun e19 w18 =>
          e19 = .returned (Value.tuple #[]) ∧ (
            ldA 32 w18 b1 0 fun a20 =>
            Calls Tryz.prog 111 #[Value.pointer x0, ofL a20] w18 fun e22 w21 =>
            ∃ i23 : Int, ∃ t24 : Bool, e22 = .returned (Value.tuple #[Value.int .i64 i23, Value.bool t24]) ∧ (
              jnC (F79.k7 Q) (x0, (b1, 0), (b3, 0), (i23), ()) w21)))
        (jnC (F79.k7 Q) (x0, (b1, 0), (b3, 0), (i8), ()) w6.drew))
      (jnC (F79.k8 Q) (x0, (b1, 0), (b3, 0), (i8), ()) w6)))
def F79.an : Ann := ⟨[], [(7, [(0, .kP), (4, .kL), (5, .kL), (6, .kI .i64)]), (8, [(0, .kP), (4, .kL), (5, .kL), (6, .kI .i64)])]⟩
theorem F79.of (x0 : Option Addr) (x1 : List Value) (x2 : List Value) (w : World) {Q : Value → World → Prop} (h : F79.vc x0 x1 x2 w Q) : Calls Tryz.prog 79 #[Value.pointer x0, ofL x1, ofL x2] w (fun e w' => ∃ v, e = .returned v ∧ Q v w') := vcFn_of (A := F79.an) noCount mixed h (by kernel_rfl)
/-! ### function 80: stillage/index.fresh -/
def F80.vc (x0 : List Value) (w : World) (Q : Value → World → Prop) : Prop :=
  nw w x0 48 fun b1 w2 =>
  nw w2 Z48 48 fun b3 w4 =>
  ldSl w4 b1 (0 + 37) fun A5 n6 c7 =>
  Calls Tryz.prog 113 #[Value.slice A5 n6 c7] w4 fun e9 w8 =>
  ∃ (A10 : Option Addr) (n11 c12 : Nat), e9 = .returned (Value.slice A10 n11 c12) ∧ (
    st w8 b1 (0 + 37) [Value.slice A10 n11 c12] fun w13 =>
    ldA 38 w13 b1 0 fun a14 =>
    gd (a14.length == 38) <|
    st w13 b3 0 a14 fun w15 =>
    ldA 38 w15 b3 0 fun a16 =>
    Q (ofL a16) w15)
def F80.an : Ann := ⟨[], []⟩
theorem F80.of (x0 : List Value) (w : World) {Q : Value → World → Prop} (h : F80.vc x0 w Q) : Calls Tryz.prog 80 #[ofL x0] w (fun e w' => ∃ v, e = .returned v ∧ Q v w') := vcFn_of (A := F80.an) noCount mixed h (by kernel_rfl)
/-! ### function 81: (*stillage/tags.Tags).put -/
def F81.vc (x0 : Option Addr) (x1 : List Value) (w : World) (Q : Value → World → Prop) : Prop :=
  nw w x1 53 fun b1 w2 =>
  ldS w2 b1 0 fun s3 =>
  Calls Tryz.prog 97 #[Value.pointer x0, Value.string s3] w2 fun e5 w4 =>
  ∃ i6 : Int, ∃ t7 : Bool, e5 = .returned (Value.tuple #[Value.int .i64 i6, Value.bool t7]) ∧ (
    vIf t7
    (dr x0 fun b8 o9 =>
      ldSl w4.drew b8 o9 fun A10 n11 c12 =>
      ldA 38 w4.drew b1 0 fun a13 =>
      dr A10 fun b14 o15 =>
      gd (decide (0 ≤ i6)) <|
      gd (decide (i6 < ((n11 : Nat) : Int))) <|
      gd (a13.length == 38) <|
      st w4.drew b14 (o15 + (i6).toNat * 38) a13 fun w16 =>
      Q (Value.tuple #[]) w16)
    (dr x0 fun b17 o18 =>
      ldSl w4 b17 o18 fun A19 n20 c21 =>
      gd (decide (0 ≤ i6)) <|
      gd (decide (i6 ≤ ((n20 : Nat) : Int))) <|
      Calls Tryz.prog 114 #[Value.slice (slA A19 c21 (i6).toNat 38) (n20 - (i6).toNat) (c21 - (i6).toNat)] w4 fun e23 w22 =>
      ∃ (A24 : Option Addr) (n25 c26 : Nat), e23 = .returned (Value.slice A24 n25 c26) ∧ (
        dr x0 fun b27 o28 =>
        ldSl w22.drew b27 o28 fun A29 n30 c31 =>
        gd (decide (0 ≤ i6)) <|
        gd (decide (i6 ≤ ((c31 : Nat) : Int))) <|
        gd (decide (0 ≤ i6)) <|
        gd (decide (i6 ≤ (((i6).toNat : Nat) : Int))) <|
        ldA 38 w22.drew b1 0 fun a32 =>
        gd (a32.length == 38) <|
        nw w22.drew (a32 ++ []) 53 fun b33 w34 =>
        kp w22.drew b27 o28 1 w34 <|
        app w34 38 104 Z53 53 (slA A29 (i6).toNat 0 38) ((i6).toNat) ((i6).toNat) (Value.slice (some ⟨b33, 0, none⟩) 1 1) fun A35 n36 c37 w38 =>
        app w38 38 104 Z53 53 A35 n36 c37 (Value.slice A24 n25 c26) fun A39 n40 c41 w42 =>
        dr x0 fun b43 o44 =>
        st w42 b43 o44 [Value.slice A39 n40 c41] fun w45 =>
        Q (Value.tuple #[]) w45)))
def F81.an : Ann := ⟨[], []⟩
theorem F81.of (x0 : Option Addr) (x1 : List Value) (w : World) {Q : Value → World → Prop} (h : F81.vc x0 x1 w Q) : Calls Tryz.prog 81 #[Value.pointer x0, ofL x1] w (fun e w' => ∃ v, e = .returned v ∧ Q v w') := vcFn_of (A := F81.an) noCount mixed h (by kernel_rfl)
/-! ### function 82: stillage/tags.fresh -/
def F82.vc (x0 : List Value) (w : World) (Q : Value → World → Prop) : Prop :=
  nw w x0 53 fun b1 w2 =>
  nw w2 Z53 53 fun b3 w4 =>
  ldSl w4 b1 (0 + 37) fun A5 n6 c7 =>
  Calls Tryz.prog 113 #[Value.slice A5 n6 c7] w4 fun e9 w8 =>
  ∃ (A10 : Option Addr) (n11 c12 : Nat), e9 = .returned (Value.slice A10 n11 c12) ∧ (
    st w8 b1 (0 + 37) [Value.slice A10 n11 c12] fun w13 =>
    ldA 38 w13 b1 0 fun a14 =>
    gd (a14.length == 38) <|
    st w13 b3 0 a14 fun w15 =>
    ldA 38 w15 b3 0 fun a16 =>
    Q (ofL a16) w15)
def F82.an : Ann := ⟨[], []⟩
theorem F82.of (x0 : List Value) (w : World) {Q : Value → World → Prop} (h : F82.vc x0 w Q) : Calls Tryz.prog 82 #[ofL x0] w (fun e w' => ∃ v, e = .returned v ∧ Q v w') := vcFn_of (A := F82.an) noCount mixed h (by kernel_rfl)
/-! ### function 83: slices.Insert[[]stillage/api.Load,stillage/api.Load] -/
def F83.vc (x0A : Option Addr) (x0n x0c : Nat) (x1 : Int) (x2A : Option Addr) (x2n x2c : Nat) (w : World) (Q : Value → World → Prop) : Prop :=
  gd (decide (0 ≤ x1)) <|
  gd (decide (x1 ≤ ((x0n : Nat) : Int))) <|
  vIf (((x2n : Nat) : Int) == 0)
  (Q (Value.slice x0A x0n x0c) w)
  (vIf (x1 == ((x0n : Nat) : Int))
    (app w 3 24 [Value.int .i64 0, Value.int .i64 0, Value.int .i64 0] 98 x0A x0n x0c (Value.slice x2A x2n x2c) fun A1 n2 c3 w4 =>
      Q (Value.slice A1 n2 c3) w4)
    (vIf (decide ((IntKind.wrap .i64 (((x0n : Nat) : Int) + ((x2n : Nat) : Int))) > ((x0c : Nat) : Int)))
      (gd (decide (0 ≤ x1)) <|
        gd (decide (x1 ≤ ((x0c : Nat) : Int))) <|
        appZ w 3 24 [Value.int .i64 0, Value.int .i64 0, Value.int .i64 0] 98 (slA x0A x0c 0 3) ((x1).toNat) x0c (IntKind.wrap .i64 ((IntKind.wrap .i64 (((x0n : Nat) : Int) + ((x2n : Nat) : Int))) - x1)) fun A5 n6 c7 w8 =>
        gd (decide (0 ≤ x1)) <|
        gd (decide (x1 ≤ ((n6 : Nat) : Int))) <|
        cpy w8 3 (slA A5 c7 (x1).toNat 3) (n6 - (x1).toNat) (Value.slice x2A x2n x2c) fun n9 w10 =>
        gd (decide (0 ≤ (IntKind.wrap .i64 (x1 + ((x2n : Nat) : Int))))) <|
        gd (decide ((IntKind.wrap .i64 (x1 + ((x2n : Nat) : Int))) ≤ ((n6 : Nat) : Int))) <|
        gd (decide (0 ≤ x1)) <|
        gd (decide (x1 ≤ ((x0n : Nat) : Int))) <|
        cpy w10.drew 3 (slA A5 c7 ((IntKind.wrap .i64 (x1 + ((x2n : Nat) : Int)))).toNat 3) (n6 - ((IntKind.wrap .i64 (x1 + ((x2n : Nat) : Int)))).toNat) (Value.slice (slA x0A x0c (x1).toNat 3) (x0n - (x1).toNat) (x0c - (x1).toNat)) fun n11 w12 =>
        Q (Value.slice A5 n6 c7) w12)
      (gd (decide (0 ≤ (IntKind.wrap .i64 (((x0n : Nat) : Int) + ((x2n : Nat) : Int))))) <|
        gd (decide ((IntKind.wrap .i64 (((x0n : Nat) : Int) + ((x2n : Nat) : Int))) ≤ ((x0c : Nat) : Int))) <|
        gd (decide (0 ≤ (IntKind.wrap .i64 (x1 + ((x2n : Nat) : Int))))) <|
        gd (decide ((IntKind.wrap .i64 (x1 + ((x2n : Nat) : Int))) ≤ ((((IntKind.wrap .i64 (((x0n : Nat) : Int) + ((x2n : Nat) : Int)))).toNat : Nat) : Int))) <|
        extC Tryz.prog 115 #[Value.slice x2A x2n x2c, Value.slice (slA (slA x0A x0c 0 3) x0c ((IntKind.wrap .i64 (x1 + ((x2n : Nat) : Int)))).toNat 3) (((IntKind.wrap .i64 (((x0n : Nat) : Int) + ((x2n : Nat) : Int)))).toNat - ((IntKind.wrap .i64 (x1 + ((x2n : Nat) : Int)))).toNat) (x0c - ((IntKind.wrap .i64 (x1 + ((x2n : Nat) : Int)))).toNat)] w fun v15 w13 =>
        ∃ t16 : Bool, v15 = Value.bool t16 ∧ (
          vIf (!t16)
          (gd (decide (0 ≤ (IntKind.wrap .i64 (x1 + ((x2n : Nat) : Int))))) <|
            gd (decide ((IntKind.wrap .i64 (x1 + ((x2n : Nat) : Int))) ≤ ((((IntKind.wrap .i64 (((x0n : Nat) : Int) + ((x2n : Nat) : Int)))).toNat : Nat) : Int))) <|
            gd (decide (0 ≤ x1)) <|
            gd (decide (x1 ≤ ((((IntKind.wrap .i64 (((x0n : Nat) : Int) + ((x2n : Nat) : Int)))).toNat : Nat) : Int))) <|
            cpy w13.drew 3 (slA (slA x0A x0c 0 3) x0c ((IntKind.wrap .i64 (x1 + ((x2n : Nat) : Int)))).toNat 3) (((IntKind.wrap .i64 (((x0n : Nat) : Int) + ((x2n : Nat) : Int)))).toNat - ((IntKind.wrap .i64 (x1 + ((x2n : Nat) : Int)))).toNat) (Value.slice (slA (slA x0A x0c 0 3) x0c (x1).toNat 3) (((IntKind.wrap .i64 (((x0n : Nat) : Int) + ((x2n : Nat) : Int)))).toNat - (x1).toNat) (x0c - (x1).toNat)) fun n17 w18 =>
            gd (decide (0 ≤ x1)) <|
            gd (decide (x1 ≤ ((((IntKind.wrap .i64 (((x0n : Nat) : Int) + ((x2n : Nat) : Int)))).toNat : Nat) : Int))) <|
            cpy w18 3 (slA (slA x0A x0c 0 3) x0c (x1).toNat 3) (((IntKind.wrap .i64 (((x0n : Nat) : Int) + ((x2n : Nat) : Int)))).toNat - (x1).toNat) (Value.slice x2A x2n x2c) fun n19 w20 =>
            Q (Value.slice (slA x0A x0c 0 3) ((IntKind.wrap .i64 (((x0n : Nat) : Int) + ((x2n : Nat) : Int)))).toNat x0c) w20)
          (gd (decide (0 ≤ ((x0n : Nat) : Int))) <|
            gd (decide (((x0n : Nat) : Int) ≤ ((((IntKind.wrap .i64 (((x0n : Nat) : Int) + ((x2n : Nat) : Int)))).toNat : Nat) : Int))) <|
            cpy w13 3 (slA (slA x0A x0c 0 3) x0c (((x0n : Nat) : Int)).toNat 3) (((IntKind.wrap .i64 (((x0n : Nat) : Int) + ((x2n : Nat) : Int)))).toNat - (((x0n : Nat) : Int)).toNat) (Value.slice x2A x2n x2c) fun n21 w22 =>
            gd (decide (0 ≤ x1)) <|
            gd (decide (x1 ≤ ((((IntKind.wrap .i64 (((x0n : Nat) : Int) + ((x2n : Nat) : Int)))).toNat : Nat) : Int))) <|
            Calls Tryz.prog 116 #[Value.slice (slA (slA x0A x0c 0 3) x0c (x1).toNat 3) (((IntKind.wrap .i64 (((x0n : Nat) : Int) + ((x2n : Nat) : Int)))).toNat - (x1).toNat) (x0c - (x1).toNat), Value.int .i64 ((x2n : Nat) : Int)] w22 fun e24 w23 =>
            e24 = .returned (Value.tuple #[]) ∧ (
              Q (Value.slice (slA x0A x0c 0 3) ((IntKind.wrap .i64 (((x0n : Nat) : Int) + ((x2n : Nat) : Int)))).toNat x0c) w23))))))
def F83.an : Ann := ⟨[], []⟩
theorem F83.of (x0A : Option Addr) (x0n x0c : Nat) (x1 : Int) (x2A : Option Addr) (x2n x2c : Nat) (w : World) {Q : Value → World → Prop} (h : F83.vc x0A x0n x0c x1 x2A x2n x2c w Q) : Calls Tryz.prog 83 #[Value.slice x0A x0n x0c, Value.int .i64 x1, Value.slice x2A x2n x2c] w (fun e w' => ∃ v, e = .returned v ∧ Q v w') := vcFn_of (A := F83.an) noCount mixed h (by kernel_rfl)
/-! ### function 84: (*stillage/slots.Table[stillage/api.Entry]).Get -/
def F84.vc (x0 : Option Addr) (x1 : List Value) (w : World) (Q : Value → World → Prop) : Prop :=
  nw w x1 33 fun b1 w2 =>
  nw w2 Z48 48 fun b3 w4 =>
  nw w4 Z48 48 fun b5 w6 =>
  vIf x0.isNone
  (ldA 38 w6 b5 0 fun a7 =>
    gd (a7.length == 38) <|
    st w6 b3 0 a7 fun w8 =>
    ldA 38 w8 b3 0 fun a9 =>
    Q (Value.tuple #[ofL a9, Value.bool false]) w8)
  (ldA 32 w6 b1 0 fun a10 =>
    Calls Tryz.prog 111 #[Value.pointer x0, ofL a10] w6 fun e12 w11 =>
    ∃ i13 : Int, ∃ t14 : Bool, e12 = .returned (Value.tuple #[Value.int .i64 i13, Value.bool t14]) ∧ (
      vIf (!t14)
      (ldA 38 w11 b5 0 fun a15 =>
        gd (a15.length == 38) <|
        st w11 b3 0 a15 fun w16 =>
        ldA 38 w16 b3 0 fun a17 =>
        Q (Value.tuple #[ofL a17, Value.bool false]) w16)
      (dr x0 fun b18 o19 =>
        ldSl w11 b18 o19 fun A20 n21 c22 =>
        dr A20 fun b23 o24 =>
        gd (decide (0 ≤ i13)) <|
        gd (decide (i13 < ((n21 : Nat) : Int))) <|
        ldA 38 w11 b23 ((o24 + (i13).toNat * 71) + 33) fun a25 =>
        gd (a25.length == 38) <|
        st w11 b3 0 a25 fun w26 =>
        ldA 38 w26 b3 0 fun a27 =>
        Q (Value.tuple #[ofL a27, Value.bool true]) w26)))
def F84.an : Ann := ⟨[], []⟩
theorem F84.of (x0 : Option Addr) (x1 : List Value) (w : World) {Q : Value → World → Prop} (h : F84.vc x0 x1 w Q) : Calls Tryz.prog 84 #[Value.pointer x0, ofL x1] w (fun e w' => ∃ v, e = .returned v ∧ Q v w') := vcFn_of (A := F84.an) noCount mixed h (by kernel_rfl)
/-! ### function 85: stillage/entry.Put -/
def F85.vc (x0 : List Value) (x1 : List Value) (w : World) (Q : Value → World → Prop) : Prop :=
  nw w x0 48 fun b1 w2 =>
  nw w2 x1 37 fun b3 w4 =>
  nw w4 Z48 48 fun b5 w6 =>
  ldA 32 w6.drew b3 (0 + 2) fun a7 =>
  ldI .i64 w6.drew b3 0 fun i8 =>
  ldI .i64 w6.drew b3 (0 + 35) fun i9 =>
  ldA 3 w6.drew b3 (0 + 36) fun a10 =>
  ldSl w6.drew b1 (0 + 37) fun A11 n12 c13 =>
  ldI .i64 w6.drew b3 (0 + 36) fun i14 =>
  nw w6.drew ([Value.int .i64 i14] ++ []) 3 fun b15 w16 =>
  kp w6.drew b1 (0 + 37) 1 w16 <|
  kp w6.drew b3 (0 + 36) 3 w16 <|
  kp w6.drew b3 (0 + 35) 1 w16 <|
  kp w6.drew b3 0 1 w16 <|
  kp w6.drew b3 (0 + 2) 32 w16 <|
  nw w16 ([Value.slice A11 n12 c13] ++ ([Value.slice (some ⟨b15, 0, none⟩) 1 1] ++ [])) 46 fun b17 w18 =>
  kp w6.drew b3 (0 + 36) 3 w18 <|
  kp w6.drew b3 (0 + 35) 1 w18 <|
  kp w6.drew b3 0 1 w18 <|
  kp w6.drew b3 (0 + 2) 32 w18 <|
  Calls Tryz.prog 117 #[Value.slice (some ⟨b17, 0, none⟩) 2 2] w18 fun e20 w19 =>
  ∃ (A21 : Option Addr) (n22 c23 : Nat), e20 = .returned (Value.slice A21 n22 c23) ∧ (
    kp w6.drew b3 (0 + 36) 3 w19 <|
    kp w6.drew b3 (0 + 35) 1 w19 <|
    kp w6.drew b3 0 1 w19 <|
    kp w6.drew b3 (0 + 2) 32 w19 <|
    gd (a7.length == 32) <|
    gd (a10.length == 3) <|
    gd ((a7 ++ ([Value.int .i64 i8] ++ ([Value.int .i64 i9] ++ (a10 ++ ([Value.slice A21 n22 c23] ++ []))))).length == 38) <|
    st w19 b5 0 (a7 ++ ([Value.int .i64 i8] ++ ([Value.int .i64 i9] ++ (a10 ++ ([Value.slice A21 n22 c23] ++ []))))) fun w24 =>
    ldA 38 w24 b5 0 fun a25 =>
    Q (ofL a25) w24)
def F85.an : Ann := ⟨[], []⟩
theorem F85.of (x0 : List Value) (x1 : List Value) (w : World) {Q : Value → World → Prop} (h : F85.vc x0 x1 w Q) : Calls Tryz.prog 85 #[ofL x0, ofL x1] w (fun e w' => ∃ v, e = .returned v ∧ Q v w') := vcFn_of (A := F85.an) noCount mixed h (by kernel_rfl)
/-! ### function 86: stillage/entry.Delete -/
def F86.vc (x0 : List Value) (x1 : List Value) (w : World) (Q : Value → World → Prop) : Prop :=
  nw w x0 48 fun b1 w2 =>
  nw w2 x1 37 fun b3 w4 =>
  nw w4 Z48 48 fun b5 w6 =>
  ldA 32 w6.drew b1 0 fun a7 =>
  ldA 3 w6.drew b3 (0 + 36) fun a8 =>
  ldSl w6.drew b1 (0 + 37) fun A9 n10 c11 =>
  nw w6.drew ([Value.slice A9 n10 c11] ++ []) 46 fun b12 w13 =>
  kp w6.drew b3 (0 + 36) 3 w13 <|
  kp w6.drew b1 0 32 w13 <|
  Calls Tryz.prog 117 #[Value.slice (some ⟨b12, 0, none⟩) 1 1] w13 fun e15 w14 =>
  ∃ (A16 : Option Addr) (n17 c18 : Nat), e15 = .returned (Value.slice A16 n17 c18) ∧ (
    kp w6.drew b3 (0 + 36) 3 w14 <|
    kp w6.drew b1 0 32 w14 <|
    gd (a7.length == 32) <|
    gd (a8.length == 3) <|
    gd ((a7 ++ ([Value.int .i64 5] ++ ([Value.int .i64 0] ++ (a8 ++ ([Value.slice A16 n17 c18] ++ []))))).length == 38) <|
    st w14 b5 0 (a7 ++ ([Value.int .i64 5] ++ ([Value.int .i64 0] ++ (a8 ++ ([Value.slice A16 n17 c18] ++ []))))) fun w19 =>
    ldA 38 w19 b5 0 fun a20 =>
    Q (ofL a20) w19)
def F86.an : Ann := ⟨[], []⟩
theorem F86.of (x0 : List Value) (x1 : List Value) (w : World) {Q : Value → World → Prop} (h : F86.vc x0 x1 w Q) : Calls Tryz.prog 86 #[ofL x0, ofL x1] w (fun e w' => ∃ v, e = .returned v ∧ Q v w') := vcFn_of (A := F86.an) noCount mixed h (by kernel_rfl)
/-! ### function 87: stillage/entry.Tag -/
def F87.vc (x0 : List Value) (x1 : List Value) (w : World) (Q : Value → World → Prop) : Prop :=
  nw w x0 53 fun b1 w2 =>
  nw w2 x1 37 fun b3 w4 =>
  nw w4 Z53 53 fun b5 w6 =>
  ldS w6.drew b3 (0 + 34) fun s7 =>
  ldA 32 w6.drew b3 (0 + 2) fun a8 =>
  ldA 3 w6.drew b3 (0 + 36) fun a9 =>
  ldSl w6.drew b1 (0 + 37) fun A10 n11 c12 =>
  ldI .i64 w6.drew b3 (0 + 36) fun i13 =>
  nw w6.drew ([Value.int .i64 i13] ++ []) 3 fun b14 w15 =>
  kp w6.drew b1 (0 + 37) 1 w15 <|
  kp w6.drew b3 (0 + 36) 3 w15 <|
  kp w6.drew b3 (0 + 2) 32 w15 <|
  kp w6.drew b3 (0 + 34) 1 w15 <|
  nw w15 ([Value.slice A10 n11 c12] ++ ([Value.slice (some ⟨b14, 0, none⟩) 1 1] ++ [])) 46 fun b16 w17 =>
  kp w6.drew b3 (0 + 36) 3 w17 <|
  kp w6.drew b3 (0 + 2) 32 w17 <|
  kp w6.drew b3 (0 + 34) 1 w17 <|
  Calls Tryz.prog 117 #[Value.slice (some ⟨b16, 0, none⟩) 2 2] w17 fun e19 w18 =>
  ∃ (A20 : Option Addr) (n21 c22 : Nat), e19 = .returned (Value.slice A20 n21 c22) ∧ (
    kp w6.drew b3 (0 + 36) 3 w18 <|
    kp w6.drew b3 (0 + 2) 32 w18 <|
    kp w6.drew b3 (0 + 34) 1 w18 <|
    gd (a8.length == 32) <|
    gd (a9.length == 3) <|
    gd (([Value.string s7] ++ (a8 ++ ([Value.bool false] ++ (a9 ++ ([Value.slice A20 n21 c22] ++ []))))).length == 38) <|
    st w18 b5 0 ([Value.string s7] ++ (a8 ++ ([Value.bool false] ++ (a9 ++ ([Value.slice A20 n21 c22] ++ []))))) fun w23 =>
    ldA 38 w23 b5 0 fun a24 =>
    Q (ofL a24) w23)
def F87.an : Ann := ⟨[], []⟩
theorem F87.of (x0 : List Value) (x1 : List Value) (w : World) {Q : Value → World → Prop} (h : F87.vc x0 x1 w Q) : Calls Tryz.prog 87 #[ofL x0, ofL x1] w (fun e w' => ∃ v, e = .returned v ∧ Q v w') := vcFn_of (A := F87.an) noCount mixed h (by kernel_rfl)
/-! ### function 88: stillage/entry.Untag -/
def F88.vc (x0 : List Value) (x1 : List Value) (w : World) (Q : Value → World → Prop) : Prop :=
  nw w x0 53 fun b1 w2 =>
  nw w2 x1 37 fun b3 w4 =>
  nw w4 Z53 53 fun b5 w6 =>
  ldS w6.drew b1 0 fun s7 =>
  ldA 3 w6.drew b3 (0 + 36) fun a8 =>
  ldSl w6.drew b1 (0 + 37) fun A9 n10 c11 =>
  nw w6.drew ([Value.slice A9 n10 c11] ++ []) 46 fun b12 w13 =>
  kp w6.drew b3 (0 + 36) 3 w13 <|
  kp w6.drew b1 0 1 w13 <|
  Calls Tryz.prog 117 #[Value.slice (some ⟨b12, 0, none⟩) 1 1] w13 fun e15 w14 =>
  ∃ (A16 : Option Addr) (n17 c18 : Nat), e15 = .returned (Value.slice A16 n17 c18) ∧ (
    kp w6.drew b3 (0 + 36) 3 w14 <|
    kp w6.drew b1 0 1 w14 <|
    gd (a8.length == 3) <|
    gd (([Value.string s7] ++ ([Value.int .u8 0, Value.int .u8 0, Value.int .u8 0, Value.int .u8 0, Value.int .u8 0, Value.int .u8 0, Value.int .u8 0, Value.int .u8 0, Value.int .u8 0, Value.int .u8 0, Value.int .u8 0, Value.int .u8 0, Value.int .u8 0, Value.int .u8 0, Value.int .u8 0, Value.int .u8 0, Value.int .u8 0, Value.int .u8 0, Value.int .u8 0, Value.int .u8 0, Value.int .u8 0, Value.int .u8 0, Value.int .u8 0, Value.int .u8 0, Value.int .u8 0, Value.int .u8 0, Value.int .u8 0, Value.int .u8 0, Value.int .u8 0, Value.int .u8 0, Value.int .u8 0, Value.int .u8 0] ++ ([Value.bool true] ++ (a8 ++ ([Value.slice A16 n17 c18] ++ []))))).length == 38) <|
    st w14 b5 0 ([Value.string s7] ++ ([Value.int .u8 0, Value.int .u8 0, Value.int .u8 0, Value.int .u8 0, Value.int .u8 0, Value.int .u8 0, Value.int .u8 0, Value.int .u8 0, Value.int .u8 0, Value.int .u8 0, Value.int .u8 0, Value.int .u8 0, Value.int .u8 0, Value.int .u8 0, Value.int .u8 0, Value.int .u8 0, Value.int .u8 0, Value.int .u8 0, Value.int .u8 0, Value.int .u8 0, Value.int .u8 0, Value.int .u8 0, Value.int .u8 0, Value.int .u8 0, Value.int .u8 0, Value.int .u8 0, Value.int .u8 0, Value.int .u8 0, Value.int .u8 0, Value.int .u8 0, Value.int .u8 0, Value.int .u8 0] ++ ([Value.bool true] ++ (a8 ++ ([Value.slice A16 n17 c18] ++ []))))) fun w19 =>
    ldA 38 w19 b5 0 fun a20 =>
    Q (ofL a20) w19)
def F88.an : Ann := ⟨[], []⟩
theorem F88.of (x0 : List Value) (x1 : List Value) (w : World) {Q : Value → World → Prop} (h : F88.vc x0 x1 w Q) : Calls Tryz.prog 88 #[ofL x0, ofL x1] w (fun e w' => ∃ v, e = .returned v ∧ Q v w') := vcFn_of (A := F88.an) noCount mixed h (by kernel_rfl)
/-! ### function 89: slices.BinarySearchFunc[[]stillage/api.Load,stillage/api.Load,int] -/
def F89s.b3c (Q : Value → World → Prop) (C3 : ((Option Addr × Nat × Nat) × Int × Unit × Int × Int × Int × Unit) → World → Prop) (x0 : (Option Addr × Nat × Nat)) (x1 : Int) (x2 : Unit) (x8 : Int) (x9 : Int) (x10 : Int) (w : World) : Prop :=
  vIf (decide (x9 < x10))
  (dr x0.1 fun b1 o2 =>
    gd (decide (0 ≤ (IntKind.wrap .i64 (Int.fdiv (IntKind.wrap .u64 (IntKind.wrap .i64 (x9 + x10))) (2 ^ 1))))) <|
    gd (decide ((IntKind.wrap .i64 (Int.fdiv (IntKind.wrap .u64 (IntKind.wrap .i64 (x9 + x10))) (2 ^ 1))) < ((x0.2.1 : Nat) : Int))) <|
    ldA 3 w b1 (o2 + ((IntKind.wrap .i64 (Int.fdiv (IntKind.wrap .u64 (IntKind.wrap .i64 (x9 + x10))) (2 ^ 1)))).toNat * 3) fun a3 =>
    Calls Tryz.prog 90 #[ofL a3, Value.int .i64 x1] w fun e5 w4 =>
    ∃ i6 : Int, e5 = .returned (Value.int .i64 i6) ∧ (
      vIf (decide (i6 < 0))
      (jnC C3 ((x0.1, x0.2.1, x0.2.2), (x1), (), (x8), ((IntKind.wrap .i64 ((IntKind.wrap .i64 (Int.fdiv (IntKind.wrap .u64 (IntKind.wrap .i64 (x9 + x10))) (2 ^ 1))) + 1))), (x10), ()) w4)
      (jnC C3 ((x0.1, x0.2.1, x0.2.2), (x1), (), (x8), (x9), ((IntKind.wrap .i64 (Int.fdiv (IntKind.wrap .u64 (IntKind.wrap .i64 (x9 + x10))) (2 ^ 1)))), ()) w4)))
  (vIf (decide (x9 < x8))
    (dr x0.1 fun b7 o8 =>
      gd (decide (0 ≤ x9)) <|
      gd (decide (x9 < ((x0.2.1 : Nat) : Int))) <|
      ldA 3 w b7 (o8 + (x9).toNat * 3) fun a9 =>
      Calls Tryz.prog 90 #[ofL a9, Value.int .i64 x1] w fun e11 w10 =>
      ∃ i12 : Int, e11 = .returned (Value.int .i64 i12) ∧ (
        Q (Value.tuple #[Value.int .i64 x9, Value.bool (i12 == 0)]) w10))
    (Q (Value.tuple #[Value.int .i64 x9, Value.bool false]) w))
def F89s.b3 (Q : Value → World → Prop) : ((Option Addr × Nat × Nat) × Int × Unit × Int × Int × Int × Unit) → World → (((Option Addr × Nat × Nat) × Int × Unit × Int × Int × Int × Unit) → World → Prop) → Prop := fun s w C3 => ∀ _ : Nat → Value, F89s.b3c Q C3 s.1 s.2.1 s.2.2.1 s.2.2.2.1 s.2.2.2.2.1 s.2.2.2.2.2.1 w
def F89s.l3 (Q : Value → World → Prop) : ((Option Addr × Nat × Nat) × Int × Unit × Int × Int × Int × Unit) → World → Prop := fun s w => ∃ n, loopC (F89s.b3 Q) n s w
def F89s.vc (x0A : Option Addr) (x0n x0c : Nat) (x1 : Int) (w : World) (Q : Value → World → Prop) : Prop :=
  jnC (F89s.l3 Q) ((x0A, x0n, x0c), (x1), (), (((x0n : Nat) : Int)), (0), (((x0n : Nat) : Int)), ()) w
def F89s.an : Ann := ⟨[(3, [(0, .kSl), (1, .kI .i64), (2, .kF 90), (8, .kI .i64), (9, .kI .i64), (10, .kI .i64)])], []⟩
theorem F89s.of (x0A : Option Addr) (x0n x0c : Nat) (x1 : Int) (w : World) {Q : Value → World → Prop} (h : F89s.vc x0A x0n x0c x1 w Q) : Calls Tryz.prog 89 #[Value.slice x0A x0n x0c, Value.int .i64 x1, Value.func (.func 90) #[] #[]] w (fun e w' => ∃ v, e = .returned v ∧ Q v w') := vcFn_of (A := F89s.an) noCount mixed h (by kernel_rfl)
/-! ### function 90: (*stillage/state.State).place$1 -/
def F90.vc (x0 : List Value) (x1 : Int) (w : World) (Q : Value → World → Prop) : Prop :=
  nw w x0 98 fun b1 w2 =>
  ldI .i64 w2 b1 0 fun i3 =>
  Calls Tryz.prog 53 #[Value.int .i64 i3, Value.int .i64 x1] w2 fun e5 w4 =>
  ∃ i6 : Int, e5 = .returned (Value.int .i64 i6) ∧ (
    Q (Value.int .i64 i6) w4)
def F90.an : Ann := ⟨[], []⟩
theorem F90.of (x0 : List Value) (x1 : Int) (w : World) {Q : Value → World → Prop} (h : F90.vc x0 x1 w Q) : Calls Tryz.prog 90 #[ofL x0, Value.int .i64 x1] w (fun e w' => ∃ v, e = .returned v ∧ Q v w') := vcFn_of (A := F90.an) noCount mixed h (by kernel_rfl)
/-! ### function 91: (*stillage/slots.Table[stillage/api.Entry]).Row -/
def F91.b5c (Q : Value → World → Prop) (C5 : ((Option Addr × Nat × Nat) × (Option Addr × Nat × Nat) × Int × Int × Unit) → World → Prop) (x3 : (Option Addr × Nat × Nat)) (x11 : (Option Addr × Nat × Nat)) (x12 : Int) (x13 : Int) (w : World) : Prop :=
  vIf (decide (x13 < x12))
  (dr x11.1 fun b6 o7 =>
    gd (decide (0 ≤ x13)) <|
    gd (decide (x13 < ((x11.2.1 : Nat) : Int))) <|
    ldA 71 w b6 (o7 + (x13).toNat * 71) fun a8 =>
    nw w Z157 157 fun b9 w10 =>
    gd (a8.length == 71) <|
    st w10 b9 0 a8 fun w11 =>
    ldB w11 b9 0 fun t12 =>
    vIf t12
    (ldA 32 w11 b9 (0 + 1) fun a13 =>
      gd (a13.length == 32) <|
      nw w11 (a13 ++ []) 33 fun b14 w15 =>
      app w15 32 32 Z33 33 x3.1 x3.2.1 x3.2.2 (Value.slice (some ⟨b14, 0, none⟩) 1 1) fun A16 n17 c18 w19 =>
      jnC C5 ((A16, n17, c18), (x11.1, x11.2.1, x11.2.2), (x12), ((IntKind.wrap .i64 (x13 + 1))), ()) w19)
    (jnC C5 ((x3.1, x3.2.1, x3.2.2), (x11.1, x11.2.1, x11.2.2), (x12), ((IntKind.wrap .i64 (x13 + 1))), ()) w11))
  (Calls Tryz.prog 118 #[Value.slice x3.1 x3.2.1 x3.2.2] w fun e21 w20 =>
    ∃ (A22 : Option Addr) (n23 c24 : Nat), e21 = .returned (Value.slice A22 n23 c24) ∧ (
      Q (Value.slice A22 n23 c24) w20))
def F91.b5 (Q : Value → World → Prop) : ((Option Addr × Nat × Nat) × (Option Addr × Nat × Nat) × Int × Int × Unit) → World → (((Option Addr × Nat × Nat) × (Option Addr × Nat × Nat) × Int × Int × Unit) → World → Prop) → Prop := fun s w C5 => ∀ _ : Nat → Value, F91.b5c Q C5 s.1 s.2.1 s.2.2.1 s.2.2.2.1 w
def F91.l5 (Q : Value → World → Prop) : ((Option Addr × Nat × Nat) × (Option Addr × Nat × Nat) × Int × Int × Unit) → World → Prop := fun s w => ∃ n, loopC (F91.b5 Q) n s w
def F91.vc (x0 : Option Addr) (w : World) (Q : Value → World → Prop) : Prop :=
  vIf x0.isNone
  (Q (Value.slice none 0 0) w)
  (dr x0 fun b1 o2 =>
    ldSl w b1 o2 fun A3 n4 c5 =>
    jnC (F91.l5 Q) ((none, 0, 0), (A3, n4, c5), (((n4 : Nat) : Int)), (0), ()) w)
def F91.an : Ann := ⟨[(5, [(3, .kSl), (11, .kSl), (12, .kI .i64), (13, .kI .i64)])], []⟩
theorem F91.of (x0 : Option Addr) (w : World) {Q : Value → World → Prop} (h : F91.vc x0 w Q) : Calls Tryz.prog 91 #[Value.pointer x0] w (fun e w' => ∃ v, e = .returned v ∧ Q v w') := vcFn_of (A := F91.an) noCount mixed h (by kernel_rfl)
/-! ### function 92: stillage/entry.other -/
def F92.vc (x0A : Option Addr) (x0n x0c : Nat) (x1 : Int) (w : World) (Q : Value → World → Prop) : Prop :=
  nw w [Value.int .i64 x1] 3 fun b1 w2 =>
  Calls Tryz.prog 119 #[Value.slice x0A x0n x0c, Value.func (.func 120) #[] #[Value.pointer (some ⟨b1, 0, none⟩)]] w2 fun e4 w3 =>
  ∃ t5 : Bool, e4 = .returned (Value.bool t5) ∧ (
    Q (Value.bool t5) w3)
def F92.an : Ann := ⟨[], []⟩
theorem F92.of (x0A : Option Addr) (x0n x0c : Nat) (x1 : Int) (w : World) {Q : Value → World → Prop} (h : F92.vc x0A x0n x0c x1 w Q) : Calls Tryz.prog 92 #[Value.slice x0A x0n x0c, Value.int .i64 x1] w (fun e w' => ∃ v, e = .returned v ∧ Q v w') := vcFn_of (A := F92.an) noCount mixed h (by kernel_rfl)
/-! ### function 93: slices.stableCmpFunc[stillage/api.Word] -/
def F93s.b9c (Q : Value → World → Prop) (C7 : ((Option Addr × Nat × Nat) × Int × Unit × Int × Unit) → World → Prop) (C9 : ((Option Addr × Nat × Nat) × Int × Unit × Int × Int × Int × Unit) → World → Prop) (x0 : (Option Addr × Nat × Nat)) (x1 : Int) (x2 : Unit) (x6 : Int) (x7 : Int) (x8 : Int) (w : World) : Prop :=
  vIf (decide (x8 ≤ x1))
  (Calls Tryz.prog 122 #[Value.slice x0.1 x0.2.1 x0.2.2, Value.int .i64 x7, Value.int .i64 (IntKind.wrap .i64 (x7 + x6)), Value.int .i64 x8, Value.func (.func 52) #[] #[]] w fun e6 w5 =>
    e6 = .returned (Value.tuple #[]) ∧ (
      jnC C9 ((x0.1, x0.2.1, x0.2.2), (x1), (), (x6), (x8), ((IntKind.wrap .i64 (x8 + (IntKind.wrap .i64 (2 * x6))))), ()) w5))
  (vIf (decide ((IntKind.wrap .i64 (x7 + x6)) < x1))
    (Calls Tryz.prog 122 #[Value.slice x0.1 x0.2.1 x0.2.2, Value.int .i64 x7, Value.int .i64 (IntKind.wrap .i64 (x7 + x6)), Value.int .i64 x1, Value.func (.func 52) #[] #[]] w fun e8 w7 =>
      e8 = .returned (Value.tuple #[]) ∧ (
        jnC C7 ((x0.1, x0.2.1, x0.2.2), (x1), (), ((IntKind.wrap .i64 (x6 * 2))), ()) w7))
    (jnC C7 ((x0.1, x0.2.1, x0.2.2), (x1), (), ((IntKind.wrap .i64 (x6 * 2))), ()) w))
def F93s.b9 (Q : Value → World → Prop) (C7 : ((Option Addr × Nat × Nat) × Int × Unit × Int × Unit) → World → Prop) : ((Option Addr × Nat × Nat) × Int × Unit × Int × Int × Int × Unit) → World → (((Option Addr × Nat × Nat) × Int × Unit × Int × Int × Int × Unit) → World → Prop) → Prop := fun s w C9 => ∀ _ : Nat → Value, F93s.b9c Q C7 C9 s.1 s.2.1 s.2.2.1 s.2.2.2.1 s.2.2.2.2.1 s.2.2.2.2.2.1 w
def F93s.l9 (Q : Value → World → Prop) (C7 : ((Option Addr × Nat × Nat) × Int × Unit × Int × Unit) → World → Prop) : ((Option Addr × Nat × Nat) × Int × Unit × Int × Int × Int × Unit) → World → Prop := fun s w => ∃ n, loopC (F93s.b9 Q C7) n s w
def F93s.b7c (Q : Value → World → Prop) (C7 : ((Option Addr × Nat × Nat) × Int × Unit × Int × Unit) → World → Prop) (x0 : (Option Addr × Nat × Nat)) (x1 : Int) (x2 : Unit) (x6 : Int) (w : World) : Prop :=
  vIf (decide (x6 < x1))
  (jnC (F93s.l9 Q C7) ((x0.1, x0.2.1, x0.2.2), (x1), (), (x6), (0), ((IntKind.wrap .i64 (2 * x6))), ()) w)
  (Q (Value.tuple #[]) w)
def F93s.b7 (Q : Value → World → Prop) : ((Option Addr × Nat × Nat) × Int × Unit × Int × Unit) → World → (((Option Addr × Nat × Nat) × Int × Unit × Int × Unit) → World → Prop) → Prop := fun s w C7 => ∀ _ : Nat → Value, F93s.b7c Q C7 s.1 s.2.1 s.2.2.1 s.2.2.2.1 w
def F93s.l7 (Q : Value → World → Prop) : ((Option Addr × Nat × Nat) × Int × Unit × Int × Unit) → World → Prop := fun s w => ∃ n, loopC (F93s.b7 Q) n s w
def F93s.b2c (Q : Value → World → Prop) (C2 : ((Option Addr × Nat × Nat) × Int × Unit × Int × Int × Int × Unit) → World → Prop) (x0 : (Option Addr × Nat × Nat)) (x1 : Int) (x2 : Unit) (x6 : Int) (x7 : Int) (x8 : Int) (w : World) : Prop :=
  vIf (decide (x8 ≤ x1))
  (Calls Tryz.prog 121 #[Value.slice x0.1 x0.2.1 x0.2.2, Value.int .i64 x7, Value.int .i64 x8, Value.func (.func 52) #[] #[]] w fun e2 w1 =>
    e2 = .returned (Value.tuple #[]) ∧ (
      jnC C2 ((x0.1, x0.2.1, x0.2.2), (x1), (), (x6), (x8), ((IntKind.wrap .i64 (x8 + x6))), ()) w1))
  (Calls Tryz.prog 121 #[Value.slice x0.1 x0.2.1 x0.2.2, Value.int .i64 x7, Value.int .i64 x1, Value.func (.func 52) #[] #[]] w fun e4 w3 =>
    e4 = .returned (Value.tuple #[]) ∧ (
      jnC (F93s.l7 Q) ((x0.1, x0.2.1, x0.2.2), (x1), (), (x6), ()) w3))
def F93s.b2 (Q : Value → World → Prop) : ((Option Addr × Nat × Nat) × Int × Unit × Int × Int × Int × Unit) → World → (((Option Addr × Nat × Nat) × Int × Unit × Int × Int × Int × Unit) → World → Prop) → Prop := fun s w C2 => ∀ _ : Nat → Value, F93s.b2c Q C2 s.1 s.2.1 s.2.2.1 s.2.2.2.1 s.2.2.2.2.1 s.2.2.2.2.2.1 w
def F93s.l2 (Q : Value → World → Prop) : ((Option Addr × Nat × Nat) × Int × Unit × Int × Int × Int × Unit) → World → Prop := fun s w => ∃ n, loopC (F93s.b2 Q) n s w
def F93s.vc (x0A : Option Addr) (x0n x0c : Nat) (x1 : Int) (w : World) (Q : Value → World → Prop) : Prop :=
  jnC (F93s.l2 Q) ((x0A, x0n, x0c), (x1), (), (20), (0), (20), ()) w
def F93s.an : Ann := ⟨[(2, [(0, .kSl), (1, .kI .i64), (2, .kF 52), (6, .kI .i64), (7, .kI .i64), (8, .kI .i64)]), (7, [(0, .kSl), (1, .kI .i64), (2, .kF 52), (6, .kI .i64)]), (9, [(0, .kSl), (1, .kI .i64), (2, .kF 52), (6, .kI .i64), (7, .kI .i64), (8, .kI .i64)])], []⟩
theorem F93s.of (x0A : Option Addr) (x0n x0c : Nat) (x1 : Int) (w : World) {Q : Value → World → Prop} (h : F93s.vc x0A x0n x0c x1 w Q) : Calls Tryz.prog 93 #[Value.slice x0A x0n x0c, Value.int .i64 x1, Value.func (.func 52) #[] #[]] w (fun e w' => ∃ v, e = .returned v ∧ Q v w') := vcFn_of (A := F93s.an) noCount mixed h (by kernel_rfl)
/-! ### function 94: cmp.isNaN[int] -/
def F94.vc (x0 : Int) (w : World) (Q : Value → World → Prop) : Prop :=
  Q (Value.bool (x0 != x0)) w
def F94.an : Ann := ⟨[], []⟩
theorem F94.of (x0 : Int) (w : World) {Q : Value → World → Prop} (h : F94.vc x0 w Q) : Calls Tryz.prog 94 #[Value.int .i64 x0] w (fun e w' => ∃ v, e = .returned v ∧ Q v w') := vcFn_of (A := F94.an) noCount mixed h (by kernel_rfl)
/-! ### function 95: stillage/stillageref20.Set -/
def F95.k9c (Q : Value → World → Prop) (C4 : ((Option Addr × Nat × Nat) × (Nat × Nat) × (Option Addr × Nat × Nat) × Bool × Int × Unit) → World → Prop) (x0 : (Option Addr × Nat × Nat)) (x3 : (Nat × Nat)) (x5 : (Option Addr × Nat × Nat)) (x6 : Bool) (x7 : Int) (w : World) : Prop :=
  dr x0.1 fun b17 o18 =>
  gd (decide (0 ≤ x7)) <|
  gd (decide (x7 < ((x0.2.1 : Nat) : Int))) <|
  ldA 32 w.drew b17 (o18 + (x7).toNat * 38) fun a19 =>
  ldA 32 w.drew x3.1 x3.2 fun a20 =>
  eqAB 32 a19 a20 fun t21 =>
  vIf (!t21)
  (dr x0.1 fun b22 o23 =>
    gd (decide (0 ≤ x7)) <|
    gd (decide (x7 < ((x0.2.1 : Nat) : Int))) <|
    ldA 38 w.drew b22 (o23 + (x7).toNat * 38) fun a24 =>
    gd (a24.length == 38) <|
    nw w.drew (a24 ++ []) 48 fun b25 w26 =>
    app w26 38 96 Z48 48 x5.1 x5.2.1 x5.2.2 (Value.slice (some ⟨b25, 0, none⟩) 1 1) fun A27 n28 c29 w30 =>
    jnC C4 ((x0.1, x0.2.1, x0.2.2), (x3.1, x3.2), (A27, n28, c29), x6, ((IntKind.wrap .i64 (x7 + 1))), ()) w30)
  (jnC C4 ((x0.1, x0.2.1, x0.2.2), (x3.1, x3.2), (x5.1, x5.2.1, x5.2.2), x6, ((IntKind.wrap .i64 (x7 + 1))), ()) w.drew)
def F95.k9 (Q : Value → World → Prop) (C4 : ((Option Addr × Nat × Nat) × (Nat × Nat) × (Option Addr × Nat × Nat) × Bool × Int × Unit) → World → Prop) : ((Option Addr × Nat × Nat) × (Nat × Nat) × (Option Addr × Nat × Nat) × Bool × Int × Unit) → World → Prop := fun s w => ∀ _ : Nat → Value, F95.k9c Q C4 s.1 s.2.1 s.2.2.1 s.2.2.2.1 s.2.2.2.2.1 w
def F95.k7c (Q : Value → World → Prop) (C4 : ((Option Addr × Nat × Nat) × (Nat × Nat) × (Option Addr × Nat × Nat) × Bool × Int × Unit) → World → Prop) (x0 : (Option Addr × Nat × Nat)) (x3 : (Nat × Nat)) (x5 : (Option Addr × Nat × Nat)) (x6 : Bool) (x7 : Int) (x26 : Bool) (w : World) : Prop :=
  vIf x26
  (ldA 38 w x3.1 x3.2 fun a10 =>
    gd (a10.length == 38) <|
    nw w (a10 ++ []) 48 fun b11 w12 =>
    app w12 38 96 Z48 48 x5.1 x5.2.1 x5.2.2 (Value.slice (some ⟨b11, 0, none⟩) 1 1) fun A13 n14 c15 w16 =>
    jnC (F95.k9 Q C4) ((x0.1, x0.2.1, x0.2.2), (x3.1, x3.2), (A13, n14, c15), true, (x7), ()) w16)
  (jnC (F95.k9 Q C4) ((x0.1, x0.2.1, x0.2.2), (x3.1, x3.2), (x5.1, x5.2.1, x5.2.2), x6, (x7), ()) w)
def F95.k7 (Q : Value → World → Prop) (C4 : ((Option Addr × Nat × Nat) × (Nat × Nat) × (Option Addr × Nat × Nat) × Bool × Int × Unit) → World → Prop) : ((Option Addr × Nat × Nat) × (Nat × Nat) × (Option Addr × Nat × Nat) × Bool × Int × Bool × Unit) → World → Prop := fun s w => ∀ _ : Nat → Value, F95.k7c Q C4 s.1 s.2.1 s.2.2.1 s.2.2.2.1 s.2.2.2.2.1 s.2.2.2.2.2.1 w
def F95.b4c (Q : Value → World → Prop) (C4 : ((Option Addr × Nat × Nat) × (Nat × Nat) × (Option Addr × Nat × Nat) × Bool × Int × Unit) → World → Prop) (x0 : (Option Addr × Nat × Nat)) (x3 : (Nat × Nat)) (x5 : (Option Addr × Nat × Nat)) (x6 : Bool) (x7 : Int) (w : World) : Prop :=
  vIf (decide (x7 < ((x0.2.1 : Nat) : Int)))
  (vIf (!x6)
    (dr x0.1 fun b3 o4 =>
      gd (decide (0 ≤ x7)) <|
      gd (decide (x7 < ((x0.2.1 : Nat) : Int))) <|
      ldA 32 w.drew b3 (o4 + (x7).toNat * 38) fun a5 =>
      ldA 32 w.drew x3.1 x3.2 fun a6 =>
      Calls Tryz.prog 123 #[ofL a5, ofL a6] w.drew fun e8 w7 =>
      ∃ t9 : Bool, e8 = .returned (Value.bool t9) ∧ (
        jnC (F95.k7 Q C4) ((x0.1, x0.2.1, x0.2.2), (x3.1, x3.2), (x5.1, x5.2.1, x5.2.2), x6, (x7), (!t9), ()) w7))
    (jnC (F95.k7 Q C4) ((x0.1, x0.2.1, x0.2.2), (x3.1, x3.2), (x5.1, x5.2.1, x5.2.2), x6, (x7), false, ()) w.drew))
  (vIf (!x6)
    (ldA 38 w x3.1 x3.2 fun a31 =>
      gd (a31.length == 38) <|
      nw w (a31 ++ []) 48 fun b32 w33 =>
      app w33 38 96 Z48 48 x5.1 x5.2.1 x5.2.2 (Value.slice (some ⟨b32, 0, none⟩) 1 1) fun A34 n35 c36 w37 =>
      Q (Value.slice A34 n35 c36) w37)
    (Q (Value.slice x5.1 x5.2.1 x5.2.2) w))
def F95.b4 (Q : Value → World → Prop) : ((Option Addr × Nat × Nat) × (Nat × Nat) × (Option Addr × Nat × Nat) × Bool × Int × Unit) → World → (((Option Addr × Nat × Nat) × (Nat × Nat) × (Option Addr × Nat × Nat) × Bool × Int × Unit) → World → Prop) → Prop := fun s w C4 => ∀ _ : Nat → Value, F95.b4c Q C4 s.1 s.2.1 s.2.2.1 s.2.2.2.1 s.2.2.2.2.1 w
def F95.l4 (Q : Value → World → Prop) : ((Option Addr × Nat × Nat) × (Nat × Nat) × (Option Addr × Nat × Nat) × Bool × Int × Unit) → World → Prop := fun s w => ∃ n, loopC (F95.b4 Q) n s w
def F95.vc (x0A : Option Addr) (x0n x0c : Nat) (x1 : List Value) (w : World) (Q : Value → World → Prop) : Prop :=
  nw w x1 48 fun b1 w2 =>
  jnC (F95.l4 Q) ((x0A, x0n, x0c), (b1, 0), (none, 0, 0), false, (0), ()) w2
def F95.an : Ann := ⟨[(4, [(0, .kSl), (3, .kL), (5, .kSl), (6, .kB), (7, .kI .i64)])], [(7, [(0, .kSl), (3, .kL), (5, .kSl), (6, .kB), (7, .kI .i64), (26, .kB)]), (9, [(0, .kSl), (3, .kL), (5, .kSl), (6, .kB), (7, .kI .i64)])]⟩
theorem F95.of (x0A : Option Addr) (x0n x0c : Nat) (x1 : List Value) (w : World) {Q : Value → World → Prop} (h : F95.vc x0A x0n x0c x1 w Q) : Calls Tryz.prog 95 #[Value.slice x0A x0n x0c, ofL x1] w (fun e w' => ∃ v, e = .returned v ∧ Q v w') := vcFn_of (A := F95.an) noCount mixed h (by kernel_rfl)
/-! ### function 96: stillage/stillageref21.Set -/
def F96.k9c (Q : Value → World → Prop) (C4 : ((Option Addr × Nat × Nat) × (Nat × Nat) × (Option Addr × Nat × Nat) × Bool × Int × Unit) → World → Prop) (x0 : (Option Addr × Nat × Nat)) (x3 : (Nat × Nat)) (x5 : (Option Addr × Nat × Nat)) (x6 : Bool) (x7 : Int) (w : World) : Prop :=
  dr x0.1 fun b14 o15 =>
  gd (decide (0 ≤ x7)) <|
  gd (decide (x7 < ((x0.2.1 : Nat) : Int))) <|
  ldS w.drew b14 (o15 + (x7).toNat * 38) fun s16 =>
  ldS w.drew x3.1 x3.2 fun s17 =>
  vIf (!(s16.toList == s17.toList))
  (dr x0.1 fun b18 o19 =>
    gd (decide (0 ≤ x7)) <|
    gd (decide (x7 < ((x0.2.1 : Nat) : Int))) <|
    ldA 38 w.drew b18 (o19 + (x7).toNat * 38) fun a20 =>
    gd (a20.length == 38) <|
    nw w.drew (a20 ++ []) 53 fun b21 w22 =>
    app w22 38 104 Z53 53 x5.1 x5.2.1 x5.2.2 (Value.slice (some ⟨b21, 0, none⟩) 1 1) fun A23 n24 c25 w26 =>
    jnC C4 ((x0.1, x0.2.1, x0.2.2), (x3.1, x3.2), (A23, n24, c25), x6, ((IntKind.wrap .i64 (x7 + 1))), ()) w26)
  (jnC C4 ((x0.1, x0.2.1, x0.2.2), (x3.1, x3.2), (x5.1, x5.2.1, x5.2.2), x6, ((IntKind.wrap .i64 (x7 + 1))), ()) w.drew)
def F96.k9 (Q : Value → World → Prop) (C4 : ((Option Addr × Nat × Nat) × (Nat × Nat) × (Option Addr × Nat × Nat) × Bool × Int × Unit) → World → Prop) : ((Option Addr × Nat × Nat) × (Nat × Nat) × (Option Addr × Nat × Nat) × Bool × Int × Unit) → World → Prop := fun s w => ∀ _ : Nat → Value, F96.k9c Q C4 s.1 s.2.1 s.2.2.1 s.2.2.2.1 s.2.2.2.2.1 w
def F96.k7c (Q : Value → World → Prop) (C4 : ((Option Addr × Nat × Nat) × (Nat × Nat) × (Option Addr × Nat × Nat) × Bool × Int × Unit) → World → Prop) (x0 : (Option Addr × Nat × Nat)) (x3 : (Nat × Nat)) (x5 : (Option Addr × Nat × Nat)) (x6 : Bool) (x7 : Int) (x25 : Bool) (w : World) : Prop :=
  vIf x25
  (ldA 38 w x3.1 x3.2 fun a7 =>
    gd (a7.length == 38) <|
    nw w (a7 ++ []) 53 fun b8 w9 =>
    app w9 38 104 Z53 53 x5.1 x5.2.1 x5.2.2 (Value.slice (some ⟨b8, 0, none⟩) 1 1) fun A10 n11 c12 w13 =>
    jnC (F96.k9 Q C4) ((x0.1, x0.2.1, x0.2.2), (x3.1, x3.2), (A10, n11, c12), true, (x7), ()) w13)
  (jnC (F96.k9 Q C4) ((x0.1, x0.2.1, x0.2.2), (x3.1, x3.2), (x5.1, x5.2.1, x5.2.2), x6, (x7), ()) w)
def F96.k7 (Q : Value → World → Prop) (C4 : ((Option Addr × Nat × Nat) × (Nat × Nat) × (Option Addr × Nat × Nat) × Bool × Int × Unit) → World → Prop) : ((Option Addr × Nat × Nat) × (Nat × Nat) × (Option Addr × Nat × Nat) × Bool × Int × Bool × Unit) → World → Prop := fun s w => ∀ _ : Nat → Value, F96.k7c Q C4 s.1 s.2.1 s.2.2.1 s.2.2.2.1 s.2.2.2.2.1 s.2.2.2.2.2.1 w
def F96.b4c (Q : Value → World → Prop) (C4 : ((Option Addr × Nat × Nat) × (Nat × Nat) × (Option Addr × Nat × Nat) × Bool × Int × Unit) → World → Prop) (x0 : (Option Addr × Nat × Nat)) (x3 : (Nat × Nat)) (x5 : (Option Addr × Nat × Nat)) (x6 : Bool) (x7 : Int) (w : World) : Prop :=
  vIf (decide (x7 < ((x0.2.1 : Nat) : Int)))
  (vIf (!x6)
    (dr x0.1 fun b3 o4 =>
      gd (decide (0 ≤ x7)) <|
      gd (decide (x7 < ((x0.2.1 : Nat) : Int))) <|
      ldS w.drew b3 (o4 + (x7).toNat * 38) fun s5 =>
      ldS w.drew x3.1 x3.2 fun s6 =>
      jnC (F96.k7 Q C4) ((x0.1, x0.2.1, x0.2.2), (x3.1, x3.2), (x5.1, x5.2.1, x5.2.2), x6, (x7), (!(Op.bytesLess s5.toList s6.toList)), ()) w.drew)
    (jnC (F96.k7 Q C4) ((x0.1, x0.2.1, x0.2.2), (x3.1, x3.2), (x5.1, x5.2.1, x5.2.2), x6, (x7), false, ()) w.drew))
  (vIf (!x6)
    (ldA 38 w x3.1 x3.2 fun a27 =>
      gd (a27.length == 38) <|
      nw w (a27 ++ []) 53 fun b28 w29 =>
      app w29 38 104 Z53 53 x5.1 x5.2.1 x5.2.2 (Value.slice (some ⟨b28, 0, none⟩) 1 1) fun A30 n31 c32 w33 =>
      Q (Value.slice A30 n31 c32) w33)
    (Q (Value.slice x5.1 x5.2.1 x5.2.2) w))
def F96.b4 (Q : Value → World → Prop) : ((Option Addr × Nat × Nat) × (Nat × Nat) × (Option Addr × Nat × Nat) × Bool × Int × Unit) → World → (((Option Addr × Nat × Nat) × (Nat × Nat) × (Option Addr × Nat × Nat) × Bool × Int × Unit) → World → Prop) → Prop := fun s w C4 => ∀ _ : Nat → Value, F96.b4c Q C4 s.1 s.2.1 s.2.2.1 s.2.2.2.1 s.2.2.2.2.1 w
def F96.l4 (Q : Value → World → Prop) : ((Option Addr × Nat × Nat) × (Nat × Nat) × (Option Addr × Nat × Nat) × Bool × Int × Unit) → World → Prop := fun s w => ∃ n, loopC (F96.b4 Q) n s w
def F96.vc (x0A : Option Addr) (x0n x0c : Nat) (x1 : List Value) (w : World) (Q : Value → World → Prop) : Prop :=
  nw w x1 53 fun b1 w2 =>
  jnC (F96.l4 Q) ((x0A, x0n, x0c), (b1, 0), (none, 0, 0), false, (0), ()) w2
def F96.an : Ann := ⟨[(4, [(0, .kSl), (3, .kL), (5, .kSl), (6, .kB), (7, .kI .i64)])], [(7, [(0, .kSl), (3, .kL), (5, .kSl), (6, .kB), (7, .kI .i64), (25, .kB)]), (9, [(0, .kSl), (3, .kL), (5, .kSl), (6, .kB), (7, .kI .i64)])]⟩
theorem F96.of (x0A : Option Addr) (x0n x0c : Nat) (x1 : List Value) (w : World) {Q : Value → World → Prop} (h : F96.vc x0A x0n x0c x1 w Q) : Calls Tryz.prog 96 #[Value.slice x0A x0n x0c, ofL x1] w (fun e w' => ∃ v, e = .returned v ∧ Q v w') := vcFn_of (A := F96.an) noCount mixed h (by kernel_rfl)
/-! ### function 97: (*stillage/tags.Tags).place -/
def F97.vc (x0 : Option Addr) (x1 : ByteArray) (w : World) (Q : Value → World → Prop) : Prop :=
  dr x0 fun b1 o2 =>
  ldSl w b1 o2 fun A3 n4 c5 =>
  Calls Tryz.prog 124 #[Value.slice A3 n4 c5, Value.string x1, Value.func (.func 125) #[] #[]] w fun e7 w6 =>
  ∃ i8 : Int, ∃ t9 : Bool, e7 = .returned (Value.tuple #[Value.int .i64 i8, Value.bool t9]) ∧ (
    Q (Value.tuple #[Value.int .i64 i8, Value.bool t9]) w6)
def F97.an : Ann := ⟨[], []⟩
theorem F97.of (x0 : Option Addr) (x1 : ByteArray) (w : World) {Q : Value → World → Prop} (h : F97.vc x0 x1 w Q) : Calls Tryz.prog 97 #[Value.pointer x0, Value.string x1] w (fun e w' => ∃ v, e = .returned v ∧ Q v w') := vcFn_of (A := F97.an) noCount mixed h (by kernel_rfl)
/-! ### function 98: (*stillage/tags.Tags).there -/
def F98.vc (x0 : Option Addr) (w : World) (Q : Value → World → Prop) : Prop :=
  Calls Tryz.prog 47 #[Value.pointer x0] w fun e2 w1 =>
  ∃ (A3 : Option Addr) (n4 c5 : Nat), e2 = .returned (Value.slice A3 n4 c5) ∧ (
    Calls Tryz.prog 127 #[Value.slice A3 n4 c5, Value.func (.func 128) #[] #[]] w1 fun e7 w6 =>
    ∃ (A8 : Option Addr) (n9 c10 : Nat), e7 = .returned (Value.slice A8 n9 c10) ∧ (
      Q (Value.slice A8 n9 c10) w6))
def F98.an : Ann := ⟨[], []⟩
theorem F98.of (x0 : Option Addr) (w : World) {Q : Value → World → Prop} (h : F98.vc x0 w Q) : Calls Tryz.prog 98 #[Value.pointer x0] w (fun e w' => ∃ v, e = .returned v ∧ Q v w') := vcFn_of (A := F98.an) noCount mixed h (by kernel_rfl)
end Go.Proofs.YthcclmlbkfadcaaGreat
/- PRINTED BY MY OWN gen.py out of the translation: each function as a proposition. -/
namespace Go.Proofs.YthcclmlbkfadcaaGreat
open Go.GV
set_option linter.unusedVariables false
set_option maxRecDepth 100000
/-! ### function 111: (*stillage/slots.Table[stillage/api.Entry]).find -/
def F111.b2c (Q : Value → World → Prop) (C2 : (Option Addr × (Nat × Nat) × Int × Unit) → World → Prop) (x0 : Option Addr) (x3 : (Nat × Nat)) (x6 : Int) (w : World) : Prop :=
  dr x0 fun b7 o8 =>
  ldSl w b7 o8 fun A9 n10 c11 =>
  dr A9 fun b12 o13 =>
  gd (decide (0 ≤ x6)) <|
  gd (decide (x6 < ((n10 : Nat) : Int))) <|
  ldB w b12 (o13 + (x6).toNat * 71) fun t14 =>
  vIf (!t14)
  (Q (Value.tuple #[Value.int .i64 x6, Value.bool false]) w)
  (ldA 32 w.drew b12 ((o13 + (x6).toNat * 71) + 1) fun a15 =>
    ldA 32 w.drew x3.1 x3.2 fun a16 =>
    eqAB 32 a15 a16 fun t17 =>
    vIf t17
    (Q (Value.tuple #[Value.int .i64 x6, Value.bool true]) w.drew)
    (dr x0 fun b18 o19 =>
      ldSl w.drew b18 o19 fun A20 n21 c22 =>
      gd (decide (((n21 : Nat) : Int) ≠ 0)) <|
      jnC C2 (x0, (x3.1, x3.2), ((Int.tmod (IntKind.wrap .i64 (x6 + 1)) ((n21 : Nat) : Int))), ()) w.drew))
def F111.b2 (Q : Value → World → Prop) : (Option Addr × (Nat × Nat) × Int × Unit) → World → ((Option Addr × (Nat × Nat) × Int × Unit) → World → Prop) → Prop := fun s w C2 => ∀ _ : Nat → Value, F111.b2c Q C2 s.1 s.2.1 s.2.2.1 w
def F111.l2 (Q : Value → World → Prop) : (Option Addr × (Nat × Nat) × Int × Unit) → World → Prop := fun s w => ∃ n, loopC (F111.b2 Q) n s w
def F111.vc (x0 : Option Addr) (x1 : List Value) (w : World) (Q : Value → World → Prop) : Prop :=
  nw w x1 33 fun b1 w2 =>
  ldA 32 w2 b1 0 fun a3 =>
  Calls Tryz.prog 135 #[Value.pointer x0, ofL a3] w2 fun e5 w4 =>
  ∃ i6 : Int, e5 = .returned (Value.int .i64 i6) ∧ (
    jnC (F111.l2 Q) (x0, (b1, 0), (i6), ()) w4)
def F111.an : Ann := ⟨[(2, [(0, .kP), (3, .kL), (6, .kI .i64)])], []⟩
theorem F111.of (x0 : Option Addr) (x1 : List Value) (w : World) {Q : Value → World → Prop} (h : F111.vc x0 x1 w Q) : Calls Tryz.prog 111 #[Value.pointer x0, ofL x1] w (fun e w' => ∃ v, e = .returned v ∧ Q v w') := vcFn_of (A := F111.an) noCount mixed h (by kernel_rfl)
/-! ### function 112: (*stillage/slots.Table[stillage/api.Entry]).grow -/
def F112.b3c (Q : Value → World → Prop) (C3 : (Option Addr × (Option Addr × Nat × Nat) × Int × Int × Unit) → World → Prop) (x0 : Option Addr) (x18 : (Option Addr × Nat × Nat)) (x19 : Int) (x20 : Int) (w : World) : Prop :=
  vIf (decide (x20 < x19))
  (dr x18.1 fun b11 o12 =>
    gd (decide (0 ≤ x20)) <|
    gd (decide (x20 < ((x18.2.1 : Nat) : Int))) <|
    ldA 71 w b11 (o12 + (x20).toNat * 71) fun a13 =>
    nw w Z157 157 fun b14 w15 =>
    gd (a13.length == 71) <|
    st w15 b14 0 a13 fun w16 =>
    ldB w16 b14 0 fun t17 =>
    vIf t17
    (ldA 32 w16 b14 (0 + 1) fun a18 =>
      Calls Tryz.prog 111 #[Value.pointer x0, ofL a18] w16 fun e20 w19 =>
      ∃ i21 : Int, ∃ t22 : Bool, e20 = .returned (Value.tuple #[Value.int .i64 i21, Value.bool t22]) ∧ (
        dr x0 fun b23 o24 =>
        ldSl w19.drew b23 o24 fun A25 n26 c27 =>
        ldA 71 w19.drew b14 0 fun a28 =>
        dr A25 fun b29 o30 =>
        gd (decide (0 ≤ i21)) <|
        gd (decide (i21 < ((n26 : Nat) : Int))) <|
        gd (a28.length == 71) <|
        st w19.drew b29 (o30 + (i21).toNat * 71) a28 fun w31 =>
        jnC C3 (x0, (x18.1, x18.2.1, x18.2.2), (x19), ((IntKind.wrap .i64 (x20 + 1))), ()) w31))
    (jnC C3 (x0, (x18.1, x18.2.1, x18.2.2), (x19), ((IntKind.wrap .i64 (x20 + 1))), ()) w16))
  (Q (Value.tuple #[]) w)
def F112.b3 (Q : Value → World → Prop) : (Option Addr × (Option Addr × Nat × Nat) × Int × Int × Unit) → World → ((Option Addr × (Option Addr × Nat × Nat) × Int × Int × Unit) → World → Prop) → Prop := fun s w C3 => ∀ _ : Nat → Value, F112.b3c Q C3 s.1 s.2.1 s.2.2.1 s.2.2.2.1 w
def F112.l3 (Q : Value → World → Prop) : (Option Addr × (Option Addr × Nat × Nat) × Int × Int × Unit) → World → Prop := fun s w => ∃ n, loopC (F112.b3 Q) n s w
def F112.vc (x0 : Option Addr) (w : World) (Q : Value → World → Prop) : Prop :=
  dr x0 fun b1 o2 =>
  ldSl w b1 o2 fun A3 n4 c5 =>
  gd (decide (0 ≤ (IntKind.wrap .i64 (2 * ((n4 : Nat) : Int))))) <|
  gd (decide ((IntKind.wrap .i64 (2 * ((n4 : Nat) : Int))) ≤ (IntKind.wrap .i64 (2 * ((n4 : Nat) : Int))))) <|
  gd (decide ((IntKind.wrap .i64 (2 * ((n4 : Nat) : Int))) * 136 ≤ 281474976710656 ∧ (IntKind.wrap .i64 (2 * ((n4 : Nat) : Int))) ≤ 9223372036854775807)) <|
  nw w (zeros ((IntKind.wrap .i64 (2 * ((n4 : Nat) : Int)))).toNat Z157) 157 fun b6 w7 =>
  dr x0 fun b8 o9 =>
  st w7 b8 o9 [Value.slice (some ⟨b6, 0, none⟩) ((IntKind.wrap .i64 (2 * ((n4 : Nat) : Int)))).toNat ((IntKind.wrap .i64 (2 * ((n4 : Nat) : Int)))).toNat] fun w10 =>
  jnC (F112.l3 Q) (x0, (A3, n4, c5), (((n4 : Nat) : Int)), (0), ()) w10
def F112.an : Ann := ⟨[(3, [(0, .kP), (18, .kSl), (19, .kI .i64), (20, .kI .i64)])], []⟩
theorem F112.of (x0 : Option Addr) (w : World) {Q : Value → World → Prop} (h : F112.vc x0 w Q) : Calls Tryz.prog 112 #[Value.pointer x0] w (fun e w' => ∃ v, e = .returned v ∧ Q v w') := vcFn_of (A := F112.an) noCount mixed h (by kernel_rfl)
/-! ### function 113: slices.Clone[[]int,int] -/
def F113.vc (x0A : Option Addr) (x0n x0c : Nat) (w : World) (Q : Value → World → Prop) : Prop :=
  vIf x0A.isNone
  (Q (Value.slice none 0 0) w)
  (nw w [] 3 fun b1 w2 =>
    app w2 1 8 [Value.int .i64 0] 3 (some ⟨b1, 0, none⟩) 0 0 (Value.slice x0A x0n x0c) fun A3 n4 c5 w6 =>
    Q (Value.slice A3 n4 c5) w6)
def F113.an : Ann := ⟨[], []⟩
theorem F113.of (x0A : Option Addr) (x0n x0c : Nat) (w : World) {Q : Value → World → Prop} (h : F113.vc x0A x0n x0c w Q) : Calls Tryz.prog 113 #[Value.slice x0A x0n x0c] w (fun e w' => ∃ v, e = .returned v ∧ Q v w') := vcFn_of (A := F113.an) noCount mixed h (by kernel_rfl)
/-! ### function 114: slices.Clone[[]stillage/api.TagEntry,stillage/api.TagEntry] -/
def F114.vc (x0A : Option Addr) (x0n x0c : Nat) (w : World) (Q : Value → World → Prop) : Prop :=
  vIf x0A.isNone
  (Q (Value.slice none 0 0) w)
  (nw w [] 53 fun b1 w2 =>
    app w2 38 104 Z53 53 (some ⟨b1, 0, none⟩) 0 0 (Value.slice x0A x0n x0c) fun A3 n4 c5 w6 =>
    Q (Value.slice A3 n4 c5) w6)
def F114.an : Ann := ⟨[], []⟩
theorem F114.of (x0A : Option Addr) (x0n x0c : Nat) (w : World) {Q : Value → World → Prop} (h : F114.vc x0A x0n x0c w Q) : Calls Tryz.prog 114 #[Value.slice x0A x0n x0c] w (fun e w' => ∃ v, e = .returned v ∧ Q v w') := vcFn_of (A := F114.an) noCount mixed h (by kernel_rfl)
/-! ### function 117: stillage/entry.row -/
def F117.vc (x0A : Option Addr) (x0n x0c : Nat) (w : World) (Q : Value → World → Prop) : Prop :=
  Calls Tryz.prog 137 #[Value.slice x0A x0n x0c] w fun e2 w1 =>
  ∃ (A3 : Option Addr) (n4 c5 : Nat), e2 = .returned (Value.slice A3 n4 c5) ∧ (
    Calls Tryz.prog 138 #[Value.slice A3 n4 c5] w1 fun e7 w6 =>
    e7 = .returned (Value.tuple #[]) ∧ (
      Calls Tryz.prog 139 #[Value.slice A3 n4 c5] w6 fun e9 w8 =>
      ∃ (A10 : Option Addr) (n11 c12 : Nat), e9 = .returned (Value.slice A10 n11 c12) ∧ (
        Q (Value.slice A10 n11 c12) w8)))
def F117.an : Ann := ⟨[], []⟩
theorem F117.of (x0A : Option Addr) (x0n x0c : Nat) (w : World) {Q : Value → World → Prop} (h : F117.vc x0A x0n x0c w Q) : Calls Tryz.prog 117 #[Value.slice x0A x0n x0c] w (fun e w' => ∃ v, e = .returned v ∧ Q v w') := vcFn_of (A := F117.an) noCount mixed h (by kernel_rfl)
/-! ### function 118: stillage/digest.Row -/
def F118.vc (x0A : Option Addr) (x0n x0c : Nat) (w : World) (Q : Value → World → Prop) : Prop :=
  Calls Tryz.prog 140 #[Value.slice x0A x0n x0c] w fun e2 w1 =>
  ∃ (A3 : Option Addr) (n4 c5 : Nat), e2 = .returned (Value.slice A3 n4 c5) ∧ (
    Calls Tryz.prog 141 #[Value.slice A3 n4 c5, Value.func (.func 142) #[] #[]] w1 fun e7 w6 =>
    e7 = .returned (Value.tuple #[]) ∧ (
      Calls Tryz.prog 143 #[Value.slice A3 n4 c5] w6 fun e9 w8 =>
      ∃ (A10 : Option Addr) (n11 c12 : Nat), e9 = .returned (Value.slice A10 n11 c12) ∧ (
        Q (Value.slice A10 n11 c12) w8)))
def F118.an : Ann := ⟨[], []⟩
theorem F118.of (x0A : Option Addr) (x0n x0c : Nat) (w : World) {Q : Value → World → Prop} (h : F118.vc x0A x0n x0c w Q) : Calls Tryz.prog 118 #[Value.slice x0A x0n x0c] w (fun e w' => ∃ v, e = .returned v ∧ Q v w') := vcFn_of (A := F118.an) noCount mixed h (by kernel_rfl)
/-! ### function 119: slices.ContainsFunc[[]int,int] -/
def F119s.vc (x0A : Option Addr) (x0n x0c : Nat) (x1 : Nat × Nat) (w : World) (Q : Value → World → Prop) : Prop :=
  Calls Tryz.prog 144 #[Value.slice x0A x0n x0c, Value.func (.func 120) #[] #[Value.pointer (some ⟨x1.1, x1.2, none⟩)]] w fun e2 w1 =>
  ∃ i3 : Int, e2 = .returned (Value.int .i64 i3) ∧ (
    Q (Value.bool (decide (i3 ≥ 0))) w1)
def F119s.an : Ann := ⟨[], []⟩
theorem F119s.of (x0A : Option Addr) (x0n x0c : Nat) (x1 : Nat × Nat) (w : World) {Q : Value → World → Prop} (h : F119s.vc x0A x0n x0c x1 w Q) : Calls Tryz.prog 119 #[Value.slice x0A x0n x0c, Value.func (.func 120) #[] #[Value.pointer (some ⟨x1.1, x1.2, none⟩)]] w (fun e w' => ∃ v, e = .returned v ∧ Q v w') := vcFn_of (A := F119s.an) noCount mixed h (by kernel_rfl)
/-! ### function 120: stillage/entry.other$1 -/
def F120.vc (x0 : Int) (x1 : Nat × Nat) (w : World) (Q : Value → World → Prop) : Prop :=
  ldI .i64 w x1.1 x1.2 fun i1 =>
  Q (Value.bool (x0 != i1)) w
def F120.an : Ann := ⟨[], []⟩
theorem F120.of (x0 : Int) (x1 : Nat × Nat) (w : World) {Q : Value → World → Prop} (h : F120.vc x0 x1 w Q) : Calls Tryz.prog 120 #[Value.int .i64 x0, Value.pointer (some ⟨x1.1, x1.2, none⟩)] w (fun e w' => ∃ v, e = .returned v ∧ Q v w') := vcFn_of (A := F120.an) noCount mixed h (by kernel_rfl)
/-! ### function 121: slices.insertionSortCmpFunc[stillage/api.Word] -/
def F121s.k6c (Q : Value → World → Prop) (C1 : ((Option Addr × Nat × Nat) × Int × Int × Unit × Int × Unit) → World → Prop) (C4 : ((Option Addr × Nat × Nat) × Int × Int × Unit × Int × Int × Unit) → World → Prop) (x0 : (Option Addr × Nat × Nat)) (x1 : Int) (x2 : Int) (x3 : Unit) (x8 : Int) (x9 : Int) (w : World) : Prop :=
  dr x0.1 fun b10 o11 =>
  gd (decide (0 ≤ (IntKind.wrap .i64 (x9 - 1)))) <|
  gd (decide ((IntKind.wrap .i64 (x9 - 1)) < ((x0.2.1 : Nat) : Int))) <|
  ldA 39 w.drew b10 (o11 + ((IntKind.wrap .i64 (x9 - 1))).toNat * 39) fun a12 =>
  dr x0.1 fun b13 o14 =>
  gd (decide (0 ≤ x9)) <|
  gd (decide (x9 < ((x0.2.1 : Nat) : Int))) <|
  ldA 39 w.drew b13 (o14 + (x9).toNat * 39) fun a15 =>
  dr x0.1 fun b16 o17 =>
  gd (decide (0 ≤ x9)) <|
  gd (decide (x9 < ((x0.2.1 : Nat) : Int))) <|
  gd (a12.length == 39) <|
  st w.drew b16 (o17 + (x9).toNat * 39) a12 fun w18 =>
  dr x0.1 fun b19 o20 =>
  gd (decide (0 ≤ (IntKind.wrap .i64 (x9 - 1)))) <|
  gd (decide ((IntKind.wrap .i64 (x9 - 1)) < ((x0.2.1 : Nat) : Int))) <|
  gd (a15.length == 39) <|
  st w18 b19 (o20 + ((IntKind.wrap .i64 (x9 - 1))).toNat * 39) a15 fun w21 =>
  jnC C4 ((x0.1, x0.2.1, x0.2.2), (x1), (x2), (), (x8), ((IntKind.wrap .i64 (x9 - 1))), ()) w21
def F121s.k6 (Q : Value → World → Prop) (C1 : ((Option Addr × Nat × Nat) × Int × Int × Unit × Int × Unit) → World → Prop) (C4 : ((Option Addr × Nat × Nat) × Int × Int × Unit × Int × Int × Unit) → World → Prop) : ((Option Addr × Nat × Nat) × Int × Int × Unit × Int × Int × Unit) → World → Prop := fun s w => ∀ _ : Nat → Value, F121s.k6c Q C1 C4 s.1 s.2.1 s.2.2.1 s.2.2.2.1 s.2.2.2.2.1 s.2.2.2.2.2.1 w
def F121s.b4c (Q : Value → World → Prop) (C1 : ((Option Addr × Nat × Nat) × Int × Int × Unit × Int × Unit) → World → Prop) (C4 : ((Option Addr × Nat × Nat) × Int × Int × Unit × Int × Int × Unit) → World → Prop) (x0 : (Option Addr × Nat × Nat)) (x1 : Int) (x2 : Int) (x3 : Unit) (x8 : Int) (x9 : Int) (w : World) : Prop :=
  vIf (decide (x9 > x1))
  (dr x0.1 fun b1 o2 =>
    gd (decide (0 ≤ x9)) <|
    gd (decide (x9 < ((x0.2.1 : Nat) : Int))) <|
    ldA 39 w.drew b1 (o2 + (x9).toNat * 39) fun a3 =>
    dr x0.1 fun b4 o5 =>
    gd (decide (0 ≤ (IntKind.wrap .i64 (x9 - 1)))) <|
    gd (decide ((IntKind.wrap .i64 (x9 - 1)) < ((x0.2.1 : Nat) : Int))) <|
    ldA 39 w.drew b4 (o5 + ((IntKind.wrap .i64 (x9 - 1))).toNat * 39) fun a6 =>
    Calls Tryz.prog 52 #[ofL a3, ofL a6] w.drew fun e8 w7 =>
    ∃ i9 : Int, e8 = .returned (Value.int .i64 i9) ∧ (
      vIf (decide (i9 < 0))
      (jnC (F121s.k6 Q C1 C4) ((x0.1, x0.2.1, x0.2.2), (x1), (x2), (), (x8), (x9), ()) w7)
      (jnC C1 ((x0.1, x0.2.1, x0.2.2), (x1), (x2), (), ((IntKind.wrap .i64 (x8 + 1))), ()) w7)))
  (jnC C1 ((x0.1, x0.2.1, x0.2.2), (x1), (x2), (), ((IntKind.wrap .i64 (x8 + 1))), ()) w.drew)
def F121s.b4 (Q : Value → World → Prop) (C1 : ((Option Addr × Nat × Nat) × Int × Int × Unit × Int × Unit) → World → Prop) : ((Option Addr × Nat × Nat) × Int × Int × Unit × Int × Int × Unit) → World → (((Option Addr × Nat × Nat) × Int × Int × Unit × Int × Int × Unit) → World → Prop) → Prop := fun s w C4 => ∀ _ : Nat → Value, F121s.b4c Q C1 C4 s.1 s.2.1 s.2.2.1 s.2.2.2.1 s.2.2.2.2.1 s.2.2.2.2.2.1 w
def F121s.l4 (Q : Value → World → Prop) (C1 : ((Option Addr × Nat × Nat) × Int × Int × Unit × Int × Unit) → World → Prop) : ((Option Addr × Nat × Nat) × Int × Int × Unit × Int × Int × Unit) → World → Prop := fun s w => ∃ n, loopC (F121s.b4 Q C1) n s w
def F121s.b1c (Q : Value → World → Prop) (C1 : ((Option Addr × Nat × Nat) × Int × Int × Unit × Int × Unit) → World → Prop) (x0 : (Option Addr × Nat × Nat)) (x1 : Int) (x2 : Int) (x3 : Unit) (x8 : Int) (w : World) : Prop :=
  vIf (decide (x8 < x2))
  (jnC (F121s.l4 Q C1) ((x0.1, x0.2.1, x0.2.2), (x1), (x2), (), (x8), (x8), ()) w)
  (Q (Value.tuple #[]) w)
def F121s.b1 (Q : Value → World → Prop) : ((Option Addr × Nat × Nat) × Int × Int × Unit × Int × Unit) → World → (((Option Addr × Nat × Nat) × Int × Int × Unit × Int × Unit) → World → Prop) → Prop := fun s w C1 => ∀ _ : Nat → Value, F121s.b1c Q C1 s.1 s.2.1 s.2.2.1 s.2.2.2.1 s.2.2.2.2.1 w
def F121s.l1 (Q : Value → World → Prop) : ((Option Addr × Nat × Nat) × Int × Int × Unit × Int × Unit) → World → Prop := fun s w => ∃ n, loopC (F121s.b1 Q) n s w
def F121s.vc (x0A : Option Addr) (x0n x0c : Nat) (x1 : Int) (x2 : Int) (w : World) (Q : Value → World → Prop) : Prop :=
  jnC (F121s.l1 Q) ((x0A, x0n, x0c), (x1), (x2), (), ((IntKind.wrap .i64 (x1 + 1))), ()) w
def F121s.an : Ann := ⟨[(1, [(0, .kSl), (1, .kI .i64), (2, .kI .i64), (3, .kF 52), (8, .kI .i64)]), (4, [(0, .kSl), (1, .kI .i64), (2, .kI .i64), (3, .kF 52), (8, .kI .i64), (9, .kI .i64)])], [(6, [(0, .kSl), (1, .kI .i64), (2, .kI .i64), (3, .kF 52), (8, .kI .i64), (9, .kI .i64)])]⟩
theorem F121s.of (x0A : Option Addr) (x0n x0c : Nat) (x1 : Int) (x2 : Int) (w : World) {Q : Value → World → Prop} (h : F121s.vc x0A x0n x0c x1 x2 w Q) : Calls Tryz.prog 121 #[Value.slice x0A x0n x0c, Value.int .i64 x1, Value.int .i64 x2, Value.func (.func 52) #[] #[]] w (fun e w' => ∃ v, e = .returned v ∧ Q v w') := vcFn_of (A := F121s.an) noCount mixed h (by kernel_rfl)
/-! ### function 122: slices.symMergeCmpFunc[stillage/api.Word] -/
def F122s.b9c (Q : Value → World → Prop) (C9 : ((Option Addr × Nat × Nat) × Int × Int × Unit) → World → Prop) (x0 : (Option Addr × Nat × Nat)) (x10 : Int) (x13 : Int) (w : World) : Prop :=
  vIf (decide (x13 < (IntKind.wrap .i64 (x10 - 1))))
  (dr x0.1 fun b10 o11 =>
    gd (decide (0 ≤ (IntKind.wrap .i64 (x13 + 1)))) <|
    gd (decide ((IntKind.wrap .i64 (x13 + 1)) < ((x0.2.1 : Nat) : Int))) <|
    ldA 39 w.drew b10 (o11 + ((IntKind.wrap .i64 (x13 + 1))).toNat * 39) fun a12 =>
    dr x0.1 fun b13 o14 =>
    gd (decide (0 ≤ x13)) <|
    gd (decide (x13 < ((x0.2.1 : Nat) : Int))) <|
    ldA 39 w.drew b13 (o14 + (x13).toNat * 39) fun a15 =>
    dr x0.1 fun b16 o17 =>
    gd (decide (0 ≤ x13)) <|
    gd (decide (x13 < ((x0.2.1 : Nat) : Int))) <|
    gd (a12.length == 39) <|
    st w.drew b16 (o17 + (x13).toNat * 39) a12 fun w18 =>
    dr x0.1 fun b19 o20 =>
    gd (decide (0 ≤ (IntKind.wrap .i64 (x13 + 1)))) <|
    gd (decide ((IntKind.wrap .i64 (x13 + 1)) < ((x0.2.1 : Nat) : Int))) <|
    gd (a15.length == 39) <|
    st w18 b19 (o20 + ((IntKind.wrap .i64 (x13 + 1))).toNat * 39) a15 fun w21 =>
    jnC C9 ((x0.1, x0.2.1, x0.2.2), (x10), ((IntKind.wrap .i64 (x13 + 1))), ()) w21)
  (Q (Value.tuple #[]) w)
def F122s.b9 (Q : Value → World → Prop) : ((Option Addr × Nat × Nat) × Int × Int × Unit) → World → (((Option Addr × Nat × Nat) × Int × Int × Unit) → World → Prop) → Prop := fun s w C9 => ∀ _ : Nat → Value, F122s.b9c Q C9 s.1 s.2.1 s.2.2.1 w
def F122s.l9 (Q : Value → World → Prop) : ((Option Addr × Nat × Nat) × Int × Int × Unit) → World → Prop := fun s w => ∃ n, loopC (F122s.b9 Q) n s w
def F122s.b3c (Q : Value → World → Prop) (C3 : ((Option Addr × Nat × Nat) × Int × Unit × Int × Int × Unit) → World → Prop) (x0 : (Option Addr × Nat × Nat)) (x1 : Int) (x4 : Unit) (x10 : Int) (x11 : Int) (w : World) : Prop :=
  vIf (decide (x10 < x11))
  (dr x0.1 fun b1 o2 =>
    gd (decide (0 ≤ (IntKind.wrap .i64 (Int.fdiv (IntKind.wrap .u64 (IntKind.wrap .i64 (x10 + x11))) (2 ^ 1))))) <|
    gd (decide ((IntKind.wrap .i64 (Int.fdiv (IntKind.wrap .u64 (IntKind.wrap .i64 (x10 + x11))) (2 ^ 1))) < ((x0.2.1 : Nat) : Int))) <|
    ldA 39 w.drew b1 (o2 + ((IntKind.wrap .i64 (Int.fdiv (IntKind.wrap .u64 (IntKind.wrap .i64 (x10 + x11))) (2 ^ 1)))).toNat * 39) fun a3 =>
    dr x0.1 fun b4 o5 =>
    gd (decide (0 ≤ x1)) <|
    gd (decide (x1 < ((x0.2.1 : Nat) : Int))) <|
    ldA 39 w.drew b4 (o5 + (x1).toNat * 39) fun a6 =>
    Calls Tryz.prog 52 #[ofL a3, ofL a6] w.drew fun e8 w7 =>
    ∃ i9 : Int, e8 = .returned (Value.int .i64 i9) ∧ (
      vIf (decide (i9 < 0))
      (jnC C3 ((x0.1, x0.2.1, x0.2.2), (x1), (), ((IntKind.wrap .i64 ((IntKind.wrap .i64 (Int.fdiv (IntKind.wrap .u64 (IntKind.wrap .i64 (x10 + x11))) (2 ^ 1))) + 1))), (x11), ()) w7)
      (jnC C3 ((x0.1, x0.2.1, x0.2.2), (x1), (), (x10), ((IntKind.wrap .i64 (Int.fdiv (IntKind.wrap .u64 (IntKind.wrap .i64 (x10 + x11))) (2 ^ 1)))), ()) w7)))
  (jnC (F122s.l9 Q) ((x0.1, x0.2.1, x0.2.2), (x10), (x1), ()) w)
def F122s.b3 (Q : Value → World → Prop) : ((Option Addr × Nat × Nat) × Int × Unit × Int × Int × Unit) → World → (((Option Addr × Nat × Nat) × Int × Unit × Int × Int × Unit) → World → Prop) → Prop := fun s w C3 => ∀ _ : Nat → Value, F122s.b3c Q C3 s.1 s.2.1 s.2.2.1 s.2.2.2.1 s.2.2.2.2.1 w
def F122s.l3 (Q : Value → World → Prop) : ((Option Addr × Nat × Nat) × Int × Unit × Int × Int × Unit) → World → Prop := fun s w => ∃ n, loopC (F122s.b3 Q) n s w
def F122s.b21c (Q : Value → World → Prop) (C21 : ((Option Addr × Nat × Nat) × Int × Int × Unit) → World → Prop) (x0 : (Option Addr × Nat × Nat)) (x14 : Int) (x17 : Int) (w : World) : Prop :=
  vIf (decide (x17 > x14))
  (dr x0.1 fun b31 o32 =>
    gd (decide (0 ≤ (IntKind.wrap .i64 (x17 - 1)))) <|
    gd (decide ((IntKind.wrap .i64 (x17 - 1)) < ((x0.2.1 : Nat) : Int))) <|
    ldA 39 w.drew b31 (o32 + ((IntKind.wrap .i64 (x17 - 1))).toNat * 39) fun a33 =>
    dr x0.1 fun b34 o35 =>
    gd (decide (0 ≤ x17)) <|
    gd (decide (x17 < ((x0.2.1 : Nat) : Int))) <|
    ldA 39 w.drew b34 (o35 + (x17).toNat * 39) fun a36 =>
    dr x0.1 fun b37 o38 =>
    gd (decide (0 ≤ x17)) <|
    gd (decide (x17 < ((x0.2.1 : Nat) : Int))) <|
    gd (a33.length == 39) <|
    st w.drew b37 (o38 + (x17).toNat * 39) a33 fun w39 =>
    dr x0.1 fun b40 o41 =>
    gd (decide (0 ≤ (IntKind.wrap .i64 (x17 - 1)))) <|
    gd (decide ((IntKind.wrap .i64 (x17 - 1)) < ((x0.2.1 : Nat) : Int))) <|
    gd (a36.length == 39) <|
    st w39 b40 (o41 + ((IntKind.wrap .i64 (x17 - 1))).toNat * 39) a36 fun w42 =>
    jnC C21 ((x0.1, x0.2.1, x0.2.2), (x14), ((IntKind.wrap .i64 (x17 - 1))), ()) w42)
  (Q (Value.tuple #[]) w)
def F122s.b21 (Q : Value → World → Prop) : ((Option Addr × Nat × Nat) × Int × Int × Unit) → World → (((Option Addr × Nat × Nat) × Int × Int × Unit) → World → Prop) → Prop := fun s w C21 => ∀ _ : Nat → Value, F122s.b21c Q C21 s.1 s.2.1 s.2.2.1 w
def F122s.l21 (Q : Value → World → Prop) : ((Option Addr × Nat × Nat) × Int × Int × Unit) → World → Prop := fun s w => ∃ n, loopC (F122s.b21 Q) n s w
def F122s.b15c (Q : Value → World → Prop) (C15 : ((Option Addr × Nat × Nat) × Int × Unit × Int × Int × Unit) → World → Prop) (x0 : (Option Addr × Nat × Nat)) (x2 : Int) (x4 : Unit) (x14 : Int) (x15 : Int) (w : World) : Prop :=
  vIf (decide (x14 < x15))
  (dr x0.1 fun b22 o23 =>
    gd (decide (0 ≤ x2)) <|
    gd (decide (x2 < ((x0.2.1 : Nat) : Int))) <|
    ldA 39 w.drew b22 (o23 + (x2).toNat * 39) fun a24 =>
    dr x0.1 fun b25 o26 =>
    gd (decide (0 ≤ (IntKind.wrap .i64 (Int.fdiv (IntKind.wrap .u64 (IntKind.wrap .i64 (x14 + x15))) (2 ^ 1))))) <|
    gd (decide ((IntKind.wrap .i64 (Int.fdiv (IntKind.wrap .u64 (IntKind.wrap .i64 (x14 + x15))) (2 ^ 1))) < ((x0.2.1 : Nat) : Int))) <|
    ldA 39 w.drew b25 (o26 + ((IntKind.wrap .i64 (Int.fdiv (IntKind.wrap .u64 (IntKind.wrap .i64 (x14 + x15))) (2 ^ 1)))).toNat * 39) fun a27 =>
    Calls Tryz.prog 52 #[ofL a24, ofL a27] w.drew fun e29 w28 =>
    ∃ i30 : Int, e29 = .returned (Value.int .i64 i30) ∧ (
      vIf (!(decide (i30 < 0)))
      (jnC C15 ((x0.1, x0.2.1, x0.2.2), (x2), (), ((IntKind.wrap .i64 ((IntKind.wrap .i64 (Int.fdiv (IntKind.wrap .u64 (IntKind.wrap .i64 (x14 + x15))) (2 ^ 1))) + 1))), (x15), ()) w28)
      (jnC C15 ((x0.1, x0.2.1, x0.2.2), (x2), (), (x14), ((IntKind.wrap .i64 (Int.fdiv (IntKind.wrap .u64 (IntKind.wrap .i64 (x14 + x15))) (2 ^ 1)))), ()) w28)))
  (jnC (F122s.l21 Q) ((x0.1, x0.2.1, x0.2.2), (x14), (x2), ()) w)
def F122s.b15 (Q : Value → World → Prop) : ((Option Addr × Nat × Nat) × Int × Unit × Int × Int × Unit) → World → (((Option Addr × Nat × Nat) × Int × Unit × Int × Int × Unit) → World → Prop) → Prop := fun s w C15 => ∀ _ : Nat → Value, F122s.b15c Q C15 s.1 s.2.1 s.2.2.1 s.2.2.2.1 s.2.2.2.2.1 w
def F122s.l15 (Q : Value → World → Prop) : ((Option Addr × Nat × Nat) × Int × Unit × Int × Int × Unit) → World → Prop := fun s w => ∃ n, loopC (F122s.b15 Q) n s w
def F122s.k44c (Q : Value → World → Prop) (x0 : (Option Addr × Nat × Nat)) (x3 : Int) (x4 : Unit) (x18 : Int) (x24 : Int) (x213 : Bool) (w : World) : Prop :=
  vIf x213
  (Calls Tryz.prog 122 #[Value.slice x0.1 x0.2.1 x0.2.2, Value.int .i64 x18, Value.int .i64 x24, Value.int .i64 x3, Value.func (.func 52) #[] #[]] w fun e57 w56 =>
    e57 = .returned (Value.tuple #[]) ∧ (
      Q (Value.tuple #[]) w56))
  (Q (Value.tuple #[]) w)
def F122s.k44 (Q : Value → World → Prop) : ((Option Addr × Nat × Nat) × Int × Unit × Int × Int × Bool × Unit) → World → Prop := fun s w => ∀ _ : Nat → Value, F122s.k44c Q s.1 s.2.1 s.2.2.1 s.2.2.2.1 s.2.2.2.2.1 s.2.2.2.2.2.1 w
def F122s.k43c (Q : Value → World → Prop) (x0 : (Option Addr × Nat × Nat)) (x3 : Int) (x4 : Unit) (x18 : Int) (x24 : Int) (w : World) : Prop :=
  vIf (decide (x18 < x24))
  (jnC (F122s.k44 Q) ((x0.1, x0.2.1, x0.2.2), (x3), (), (x18), (x24), (decide (x24 < x3)), ()) w)
  (jnC (F122s.k44 Q) ((x0.1, x0.2.1, x0.2.2), (x3), (), (x18), (x24), false, ()) w)
def F122s.k43 (Q : Value → World → Prop) : ((Option Addr × Nat × Nat) × Int × Unit × Int × Int × Unit) → World → Prop := fun s w => ∀ _ : Nat → Value, F122s.k43c Q s.1 s.2.1 s.2.2.1 s.2.2.2.1 s.2.2.2.2.1 w
def F122s.k42c (Q : Value → World → Prop) (x0 : (Option Addr × Nat × Nat)) (x1 : Int) (x3 : Int) (x4 : Unit) (x18 : Int) (x20 : Int) (x24 : Int) (x199 : Bool) (w : World) : Prop :=
  vIf x199
  (Calls Tryz.prog 122 #[Value.slice x0.1 x0.2.1 x0.2.2, Value.int .i64 x1, Value.int .i64 x20, Value.int .i64 x18, Value.func (.func 52) #[] #[]] w fun e55 w54 =>
    e55 = .returned (Value.tuple #[]) ∧ (
      jnC (F122s.k43 Q) ((x0.1, x0.2.1, x0.2.2), (x3), (), (x18), (x24), ()) w54))
  (jnC (F122s.k43 Q) ((x0.1, x0.2.1, x0.2.2), (x3), (), (x18), (x24), ()) w)
def F122s.k42 (Q : Value → World → Prop) : ((Option Addr × Nat × Nat) × Int × Int × Unit × Int × Int × Int × Bool × Unit) → World → Prop := fun s w => ∀ _ : Nat → Value, F122s.k42c Q s.1 s.2.1 s.2.2.1 s.2.2.2.1 s.2.2.2.2.1 s.2.2.2.2.2.1 s.2.2.2.2.2.2.1 s.2.2.2.2.2.2.2.1 w
def F122s.k41c (Q : Value → World → Prop) (x0 : (Option Addr × Nat × Nat)) (x1 : Int) (x3 : Int) (x4 : Unit) (x18 : Int) (x20 : Int) (x24 : Int) (w : World) : Prop :=
  vIf (decide (x1 < x20))
  (jnC (F122s.k42 Q) ((x0.1, x0.2.1, x0.2.2), (x1), (x3), (), (x18), (x20), (x24), (decide (x20 < x18)), ()) w)
  (jnC (F122s.k42 Q) ((x0.1, x0.2.1, x0.2.2), (x1), (x3), (), (x18), (x20), (x24), false, ()) w)
def F122s.k41 (Q : Value → World → Prop) : ((Option Addr × Nat × Nat) × Int × Int × Unit × Int × Int × Int × Unit) → World → Prop := fun s w => ∀ _ : Nat → Value, F122s.k41c Q s.1 s.2.1 s.2.2.1 s.2.2.2.1 s.2.2.2.2.1 s.2.2.2.2.2.1 s.2.2.2.2.2.2.1 w
def F122s.k40c (Q : Value → World → Prop) (x0 : (Option Addr × Nat × Nat)) (x1 : Int) (x2 : Int) (x3 : Int) (x4 : Unit) (x18 : Int) (x20 : Int) (x24 : Int) (x185 : Bool) (w : World) : Prop :=
  vIf x185
  (Calls Tryz.prog 145 #[Value.slice x0.1 x0.2.1 x0.2.2, Value.int .i64 x20, Value.int .i64 x2, Value.int .i64 x24, Value.func (.func 52) #[] #[]] w fun e53 w52 =>
    e53 = .returned (Value.tuple #[]) ∧ (
      jnC (F122s.k41 Q) ((x0.1, x0.2.1, x0.2.2), (x1), (x3), (), (x18), (x20), (x24), ()) w52))
  (jnC (F122s.k41 Q) ((x0.1, x0.2.1, x0.2.2), (x1), (x3), (), (x18), (x20), (x24), ()) w)
def F122s.k40 (Q : Value → World → Prop) : ((Option Addr × Nat × Nat) × Int × Int × Int × Unit × Int × Int × Int × Bool × Unit) → World → Prop := fun s w => ∀ _ : Nat → Value, F122s.k40c Q s.1 s.2.1 s.2.2.1 s.2.2.2.1 s.2.2.2.2.1 s.2.2.2.2.2.1 s.2.2.2.2.2.2.1 s.2.2.2.2.2.2.2.1 s.2.2.2.2.2.2.2.2.1 w
def F122s.b33c (Q : Value → World → Prop) (C33 : ((Option Addr × Nat × Nat) × Int × Int × Int × Unit × Int × Int × Int × Int × Int × Unit) → World → Prop) (x0 : (Option Addr × Nat × Nat)) (x1 : Int) (x2 : Int) (x3 : Int) (x4 : Unit) (x18 : Int) (x19 : Int) (x20 : Int) (x21 : Int) (x22 : Int) (w : World) : Prop :=
  vIf (decide (x20 < x21))
  (dr x0.1 fun b43 o44 =>
    gd (decide (0 ≤ (IntKind.wrap .i64 (x22 - (IntKind.wrap .i64 (Int.fdiv (IntKind.wrap .u64 (IntKind.wrap .i64 (x20 + x21))) (2 ^ 1))))))) <|
    gd (decide ((IntKind.wrap .i64 (x22 - (IntKind.wrap .i64 (Int.fdiv (IntKind.wrap .u64 (IntKind.wrap .i64 (x20 + x21))) (2 ^ 1))))) < ((x0.2.1 : Nat) : Int))) <|
    ldA 39 w.drew b43 (o44 + ((IntKind.wrap .i64 (x22 - (IntKind.wrap .i64 (Int.fdiv (IntKind.wrap .u64 (IntKind.wrap .i64 (x20 + x21))) (2 ^ 1)))))).toNat * 39) fun a45 =>
    dr x0.1 fun b46 o47 =>
    gd (decide (0 ≤ (IntKind.wrap .i64 (Int.fdiv (IntKind.wrap .u64 (IntKind.wrap .i64 (x20 + x21))) (2 ^ 1))))) <|
    gd (decide ((IntKind.wrap .i64 (Int.fdiv (IntKind.wrap .u64 (IntKind.wrap .i64 (x20 + x21))) (2 ^ 1))) < ((x0.2.1 : Nat) : Int))) <|
    ldA 39 w.drew b46 (o47 + ((IntKind.wrap .i64 (Int.fdiv (IntKind.wrap .u64 (IntKind.wrap .i64 (x20 + x21))) (2 ^ 1)))).toNat * 39) fun a48 =>
    Calls Tryz.prog 52 #[ofL a45, ofL a48] w.drew fun e50 w49 =>
    ∃ i51 : Int, e50 = .returned (Value.int .i64 i51) ∧ (
      vIf (!(decide (i51 < 0)))
      (jnC C33 ((x0.1, x0.2.1, x0.2.2), (x1), (x2), (x3), (), (x18), (x19), ((IntKind.wrap .i64 ((IntKind.wrap .i64 (Int.fdiv (IntKind.wrap .u64 (IntKind.wrap .i64 (x20 + x21))) (2 ^ 1))) + 1))), (x21), (x22), ()) w49)
      (jnC C33 ((x0.1, x0.2.1, x0.2.2), (x1), (x2), (x3), (), (x18), (x19), (x20), ((IntKind.wrap .i64 (Int.fdiv (IntKind.wrap .u64 (IntKind.wrap .i64 (x20 + x21))) (2 ^ 1)))), (x22), ()) w49)))
  (vIf (decide (x20 < x2))
    (jnC (F122s.k40 Q) ((x0.1, x0.2.1, x0.2.2), (x1), (x2), (x3), (), (x18), (x20), ((IntKind.wrap .i64 (x19 - x20))), (decide (x2 < (IntKind.wrap .i64 (x19 - x20)))), ()) w)
    (jnC (F122s.k40 Q) ((x0.1, x0.2.1, x0.2.2), (x1), (x2), (x3), (), (x18), (x20), ((IntKind.wrap .i64 (x19 - x20))), false, ()) w))
def F122s.b33 (Q : Value → World → Prop) : ((Option Addr × Nat × Nat) × Int × Int × Int × Unit × Int × Int × Int × Int × Int × Unit) → World → (((Option Addr × Nat × Nat) × Int × Int × Int × Unit × Int × Int × Int × Int × Int × Unit) → World → Prop) → Prop := fun s w C33 => ∀ _ : Nat → Value, F122s.b33c Q C33 s.1 s.2.1 s.2.2.1 s.2.2.2.1 s.2.2.2.2.1 s.2.2.2.2.2.1 s.2.2.2.2.2.2.1 s.2.2.2.2.2.2.2.1 s.2.2.2.2.2.2.2.2.1 s.2.2.2.2.2.2.2.2.2.1 w
def F122s.l33 (Q : Value → World → Prop) : ((Option Addr × Nat × Nat) × Int × Int × Int × Unit × Int × Int × Int × Int × Int × Unit) → World → Prop := fun s w => ∃ n, loopC (F122s.b33 Q) n s w
def F122s.k32c (Q : Value → World → Prop) (x0 : (Option Addr × Nat × Nat)) (x1 : Int) (x2 : Int) (x3 : Int) (x4 : Unit) (x18 : Int) (x19 : Int) (x20 : Int) (x21 : Int) (w : World) : Prop :=
  jnC (F122s.l33 Q) ((x0.1, x0.2.1, x0.2.2), (x1), (x2), (x3), (), (x18), (x19), (x20), (x21), ((IntKind.wrap .i64 (x19 - 1))), ()) w
def F122s.k32 (Q : Value → World → Prop) : ((Option Addr × Nat × Nat) × Int × Int × Int × Unit × Int × Int × Int × Int × Unit) → World → Prop := fun s w => ∀ _ : Nat → Value, F122s.k32c Q s.1 s.2.1 s.2.2.1 s.2.2.2.1 s.2.2.2.2.1 s.2.2.2.2.2.1 s.2.2.2.2.2.2.1 s.2.2.2.2.2.2.2.1 s.2.2.2.2.2.2.2.2.1 w
def F122s.vc (x0A : Option Addr) (x0n x0c : Nat) (x1 : Int) (x2 : Int) (x3 : Int) (w : World) (Q : Value → World → Prop) : Prop :=
  vIf ((IntKind.wrap .i64 (x2 - x1)) == 1)
  (jnC (F122s.l3 Q) ((x0A, x0n, x0c), (x1), (), (x2), (x3), ()) w)
  (vIf ((IntKind.wrap .i64 (x3 - x2)) == 1)
    (jnC (F122s.l15 Q) ((x0A, x0n, x0c), (x2), (), (x1), (x2), ()) w)
    (vIf (decide (x2 > (IntKind.wrap .i64 (Int.fdiv (IntKind.wrap .u64 (IntKind.wrap .i64 (x1 + x3))) (2 ^ 1)))))
      (jnC (F122s.k32 Q) ((x0A, x0n, x0c), (x1), (x2), (x3), (), ((IntKind.wrap .i64 (Int.fdiv (IntKind.wrap .u64 (IntKind.wrap .i64 (x1 + x3))) (2 ^ 1)))), ((IntKind.wrap .i64 ((IntKind.wrap .i64 (Int.fdiv (IntKind.wrap .u64 (IntKind.wrap .i64 (x1 + x3))) (2 ^ 1))) + x2))), ((IntKind.wrap .i64 ((IntKind.wrap .i64 ((IntKind.wrap .i64 (Int.fdiv (IntKind.wrap .u64 (IntKind.wrap .i64 (x1 + x3))) (2 ^ 1))) + x2)) - x3))), ((IntKind.wrap .i64 (Int.fdiv (IntKind.wrap .u64 (IntKind.wrap .i64 (x1 + x3))) (2 ^ 1)))), ()) w)
      (jnC (F122s.k32 Q) ((x0A, x0n, x0c), (x1), (x2), (x3), (), ((IntKind.wrap .i64 (Int.fdiv (IntKind.wrap .u64 (IntKind.wrap .i64 (x1 + x3))) (2 ^ 1)))), ((IntKind.wrap .i64 ((IntKind.wrap .i64 (Int.fdiv (IntKind.wrap .u64 (IntKind.wrap .i64 (x1 + x3))) (2 ^ 1))) + x2))), (x1), (x2), ()) w)))
def F122s.an : Ann := ⟨[(3, [(0, .kSl), (1, .kI .i64), (4, .kF 52), (10, .kI .i64), (11, .kI .i64)]), (9, [(0, .kSl), (10, .kI .i64), (13, .kI .i64)]), (15, [(0, .kSl), (2, .kI .i64), (4, .kF 52), (14, .kI .i64), (15, .kI .i64)]), (21, [(0, .kSl), (14, .kI .i64), (17, .kI .i64)]), (33, [(0, .kSl), (1, .kI .i64), (2, .kI .i64), (3, .kI .i64), (4, .kF 52), (18, .kI .i64), (19, .kI .i64), (20, .kI .i64), (21, .kI .i64), (22, .kI .i64)])], [(32, [(0, .kSl), (1, .kI .i64), (2, .kI .i64), (3, .kI .i64), (4, .kF 52), (18, .kI .i64), (19, .kI .i64), (20, .kI .i64), (21, .kI .i64)]), (40, [(0, .kSl), (1, .kI .i64), (2, .kI .i64), (3, .kI .i64), (4, .kF 52), (18, .kI .i64), (20, .kI .i64), (24, .kI .i64), (185, .kB)]), (41, [(0, .kSl), (1, .kI .i64), (3, .kI .i64), (4, .kF 52), (18, .kI .i64), (20, .kI .i64), (24, .kI .i64)]), (42, [(0, .kSl), (1, .kI .i64), (3, .kI .i64), (4, .kF 52), (18, .kI .i64), (20, .kI .i64), (24, .kI .i64), (199, .kB)]), (43, [(0, .kSl), (3, .kI .i64), (4, .kF 52), (18, .kI .i64), (24, .kI .i64)]), (44, [(0, .kSl), (3, .kI .i64), (4, .kF 52), (18, .kI .i64), (24, .kI .i64), (213, .kB)])]⟩
theorem F122s.of (x0A : Option Addr) (x0n x0c : Nat) (x1 : Int) (x2 : Int) (x3 : Int) (w : World) {Q : Value → World → Prop} (h : F122s.vc x0A x0n x0c x1 x2 x3 w Q) : Calls Tryz.prog 122 #[Value.slice x0A x0n x0c, Value.int .i64 x1, Value.int .i64 x2, Value.int .i64 x3, Value.func (.func 52) #[] #[]] w (fun e w' => ∃ v, e = .returned v ∧ Q v w') := vcFn_of (A := F122s.an) noCount mixed h (by kernel_rfl)
end Go.Proofs.YthcclmlbkfadcaaGreat
/- PRINTED BY MY OWN gen.py out of the translation: each function as a proposition. -/
namespace Go.Proofs.YthcclmlbkfadcaaGreat
open Go.GV
set_option linter.unusedVariables false
set_option maxRecDepth 100000
/-! ### function 123: stillage/stillageref06.Less -/
def F123.b2c (Q : Value → World → Prop) (C2 : ((Nat × Nat) × (Nat × Nat) × Int × Unit) → World → Prop) (x2 : (Nat × Nat)) (x3 : (Nat × Nat)) (x5 : Int) (w : World) : Prop :=
  vIf (decide (x5 < 32))
  (gd (decide (0 ≤ x5)) <|
    gd (decide (x5 < 32)) <|
    ldI .u8 w.drew x2.1 (x2.2 + (x5).toNat * 1) fun i5 =>
    gd (decide (0 ≤ x5)) <|
    gd (decide (x5 < 32)) <|
    ldI .u8 w.drew x3.1 (x3.2 + (x5).toNat * 1) fun i6 =>
    vIf (i5 != i6)
    (gd (decide (0 ≤ x5)) <|
      gd (decide (x5 < 32)) <|
      ldI .u8 w.drew.drew x2.1 (x2.2 + (x5).toNat * 1) fun i7 =>
      gd (decide (0 ≤ x5)) <|
      gd (decide (x5 < 32)) <|
      ldI .u8 w.drew.drew x3.1 (x3.2 + (x5).toNat * 1) fun i8 =>
      Q (Value.bool (decide (i7 < i8))) w.drew.drew)
    (jnC C2 ((x2.1, x2.2), (x3.1, x3.2), ((IntKind.wrap .i64 (x5 + 1))), ()) w.drew))
  (Q (Value.bool false) w)
def F123.b2 (Q : Value → World → Prop) : ((Nat × Nat) × (Nat × Nat) × Int × Unit) → World → (((Nat × Nat) × (Nat × Nat) × Int × Unit) → World → Prop) → Prop := fun s w C2 => ∀ _ : Nat → Value, F123.b2c Q C2 s.1 s.2.1 s.2.2.1 w
def F123.l2 (Q : Value → World → Prop) : ((Nat × Nat) × (Nat × Nat) × Int × Unit) → World → Prop := fun s w => ∃ n, loopC (F123.b2 Q) n s w
def F123.vc (x0 : List Value) (x1 : List Value) (w : World) (Q : Value → World → Prop) : Prop :=
  nw w x0 33 fun b1 w2 =>
  nw w2 x1 33 fun b3 w4 =>
  jnC (F123.l2 Q) ((b1, 0), (b3, 0), (0), ()) w4
def F123.an : Ann := ⟨[(2, [(2, .kL), (3, .kL), (5, .kI .i64)])], []⟩
theorem F123.of (x0 : List Value) (x1 : List Value) (w : World) {Q : Value → World → Prop} (h : F123.vc x0 x1 w Q) : Calls Tryz.prog 123 #[ofL x0, ofL x1] w (fun e w' => ∃ v, e = .returned v ∧ Q v w') := vcFn_of (A := F123.an) noCount mixed h (by kernel_rfl)
/-! ### function 124: slices.BinarySearchFunc[[]stillage/api.TagEntry,stillage/api.TagEntry,string] -/
def F124s.b3c (Q : Value → World → Prop) (C3 : ((Option Addr × Nat × Nat) × ByteArray × Unit × Int × Int × Int × Unit) → World → Prop) (x0 : (Option Addr × Nat × Nat)) (x1 : ByteArray) (x2 : Unit) (x8 : Int) (x9 : Int) (x10 : Int) (w : World) : Prop :=
  vIf (decide (x9 < x10))
  (dr x0.1 fun b1 o2 =>
    gd (decide (0 ≤ (IntKind.wrap .i64 (Int.fdiv (IntKind.wrap .u64 (IntKind.wrap .i64 (x9 + x10))) (2 ^ 1))))) <|
    gd (decide ((IntKind.wrap .i64 (Int.fdiv (IntKind.wrap .u64 (IntKind.wrap .i64 (x9 + x10))) (2 ^ 1))) < ((x0.2.1 : Nat) : Int))) <|
    ldA 38 w b1 (o2 + ((IntKind.wrap .i64 (Int.fdiv (IntKind.wrap .u64 (IntKind.wrap .i64 (x9 + x10))) (2 ^ 1)))).toNat * 38) fun a3 =>
    Calls Tryz.prog 125 #[ofL a3, Value.string x1] w fun e5 w4 =>
    ∃ i6 : Int, e5 = .returned (Value.int .i64 i6) ∧ (
      vIf (decide (i6 < 0))
      (jnC C3 ((x0.1, x0.2.1, x0.2.2), x1, (), (x8), ((IntKind.wrap .i64 ((IntKind.wrap .i64 (Int.fdiv (IntKind.wrap .u64 (IntKind.wrap .i64 (x9 + x10))) (2 ^ 1))) + 1))), (x10), ()) w4)
      (jnC C3 ((x0.1, x0.2.1, x0.2.2), x1, (), (x8), (x9), ((IntKind.wrap .i64 (Int.fdiv (IntKind.wrap .u64 (IntKind.wrap .i64 (x9 + x10))) (2 ^ 1)))), ()) w4)))
  (vIf (decide (x9 < x8))
    (dr x0.1 fun b7 o8 =>
      gd (decide (0 ≤ x9)) <|
      gd (decide (x9 < ((x0.2.1 : Nat) : Int))) <|
      ldA 38 w b7 (o8 + (x9).toNat * 38) fun a9 =>
      Calls Tryz.prog 125 #[ofL a9, Value.string x1] w fun e11 w10 =>
      ∃ i12 : Int, e11 = .returned (Value.int .i64 i12) ∧ (
        Q (Value.tuple #[Value.int .i64 x9, Value.bool (i12 == 0)]) w10))
    (Q (Value.tuple #[Value.int .i64 x9, Value.bool false]) w))
def F124s.b3 (Q : Value → World → Prop) : ((Option Addr × Nat × Nat) × ByteArray × Unit × Int × Int × Int × Unit) → World → (((Option Addr × Nat × Nat) × ByteArray × Unit × Int × Int × Int × Unit) → World → Prop) → Prop := fun s w C3 => ∀ _ : Nat → Value, F124s.b3c Q C3 s.1 s.2.1 s.2.2.1 s.2.2.2.1 s.2.2.2.2.1 s.2.2.2.2.2.1 w
def F124s.l3 (Q : Value → World → Prop) : ((Option Addr × Nat × Nat) × ByteArray × Unit × Int × Int × Int × Unit) → World → Prop := fun s w => ∃ n, loopC (F124s.b3 Q) n s w
def F124s.vc (x0A : Option Addr) (x0n x0c : Nat) (x1 : ByteArray) (w : World) (Q : Value → World → Prop) : Prop :=
  jnC (F124s.l3 Q) ((x0A, x0n, x0c), x1, (), (((x0n : Nat) : Int)), (0), (((x0n : Nat) : Int)), ()) w
def F124s.an : Ann := ⟨[(3, [(0, .kSl), (1, .kS), (2, .kF 125), (8, .kI .i64), (9, .kI .i64), (10, .kI .i64)])], []⟩
theorem F124s.of (x0A : Option Addr) (x0n x0c : Nat) (x1 : ByteArray) (w : World) {Q : Value → World → Prop} (h : F124s.vc x0A x0n x0c x1 w Q) : Calls Tryz.prog 124 #[Value.slice x0A x0n x0c, Value.string x1, Value.func (.func 125) #[] #[]] w (fun e w' => ∃ v, e = .returned v ∧ Q v w') := vcFn_of (A := F124s.an) noCount mixed h (by kernel_rfl)
/-! ### function 125: (*stillage/tags.Tags).place$1 -/
def F125.vc (x0 : List Value) (x1 : ByteArray) (w : World) (Q : Value → World → Prop) : Prop :=
  nw w x0 53 fun b1 w2 =>
  ldS w2 b1 0 fun s3 =>
  Calls Tryz.prog 126 #[Value.string s3, Value.string x1] w2 fun e5 w4 =>
  ∃ i6 : Int, e5 = .returned (Value.int .i64 i6) ∧ (
    Q (Value.int .i64 i6) w4)
def F125.an : Ann := ⟨[], []⟩
theorem F125.of (x0 : List Value) (x1 : ByteArray) (w : World) {Q : Value → World → Prop} (h : F125.vc x0 x1 w Q) : Calls Tryz.prog 125 #[ofL x0, Value.string x1] w (fun e w' => ∃ v, e = .returned v ∧ Q v w') := vcFn_of (A := F125.an) noCount mixed h (by kernel_rfl)
/-! ### function 126: strings.Compare -/
def F126.vc (x0 : ByteArray) (x1 : ByteArray) (w : World) (Q : Value → World → Prop) : Prop :=
  Calls Tryz.prog 146 #[Value.string x0, Value.string x1] w fun e2 w1 =>
  ∃ i3 : Int, e2 = .returned (Value.int .i64 i3) ∧ (
    Q (Value.int .i64 i3) w1)
def F126.an : Ann := ⟨[], []⟩
theorem F126.of (x0 : ByteArray) (x1 : ByteArray) (w : World) {Q : Value → World → Prop} (h : F126.vc x0 x1 w Q) : Calls Tryz.prog 126 #[Value.string x0, Value.string x1] w (fun e w' => ∃ v, e = .returned v ∧ Q v w') := vcFn_of (A := F126.an) noCount mixed h (by kernel_rfl)
/-! ### function 127: slices.DeleteFunc[[]stillage/api.TagEntry,stillage/api.TagEntry] -/
def F127s.k12c (Q : Value → World → Prop) (x0 : (Option Addr × Nat × Nat)) (x5 : Int) (w : World) : Prop :=
  gd (decide (0 ≤ x5)) <|
  gd (decide (x5 ≤ ((x0.2.2 : Nat) : Int))) <|
  Q (Value.slice (slA x0.1 x0.2.2 0 38) (x5).toNat x0.2.2) w
def F127s.k12 (Q : Value → World → Prop) : ((Option Addr × Nat × Nat) × Int × Unit) → World → Prop := fun s w => ∀ _ : Nat → Value, F127s.k12c Q s.1 s.2.1 w
def F127s.b5c (Q : Value → World → Prop) (C5 : ((Option Addr × Nat × Nat) × Unit × Int × Int × Unit) → World → Prop) (x0 : (Option Addr × Nat × Nat)) (x1 : Unit) (x5 : Int) (x6 : Int) (w : World) : Prop :=
  vIf (decide (x6 < ((x0.2.1 : Nat) : Int)))
  (dr x0.1 fun b4 o5 =>
    gd (decide (0 ≤ x6)) <|
    gd (decide (x6 < ((x0.2.1 : Nat) : Int))) <|
    ldA 38 w b4 (o5 + (x6).toNat * 38) fun a6 =>
    nw w Z53 53 fun b7 w8 =>
    gd (a6.length == 38) <|
    st w8 b7 0 a6 fun w9 =>
    ldA 38 w9 b7 0 fun a10 =>
    Calls Tryz.prog 128 #[ofL a10] w9 fun e12 w11 =>
    ∃ t13 : Bool, e12 = .returned (Value.bool t13) ∧ (
      vIf (!t13)
      (ldA 38 w11 b7 0 fun a14 =>
        dr x0.1 fun b15 o16 =>
        gd (decide (0 ≤ x5)) <|
        gd (decide (x5 < ((x0.2.1 : Nat) : Int))) <|
        gd (a14.length == 38) <|
        st w11 b15 (o16 + (x5).toNat * 38) a14 fun w17 =>
        jnC C5 ((x0.1, x0.2.1, x0.2.2), (), ((IntKind.wrap .i64 (x5 + 1))), ((IntKind.wrap .i64 (x6 + 1))), ()) w17)
      (jnC C5 ((x0.1, x0.2.1, x0.2.2), (), (x5), ((IntKind.wrap .i64 (x6 + 1))), ()) w11)))
  (gd (decide (0 ≤ x5)) <|
    gd (decide (x5 ≤ ((x0.2.1 : Nat) : Int))) <|
    vIf ((x0.2.1 - (x5).toNat) == 0)
    (jnC (F127s.k12 Q) ((x0.1, x0.2.1, x0.2.2), (x5), ()) w)
    (dr (slA x0.1 x0.2.2 (x5).toNat 38) fun b19 o20 =>
      st w b19 o20 (zeros (x0.2.1 - (x5).toNat) Z53) fun w18 =>
      jnC (F127s.k12 Q) ((x0.1, x0.2.1, x0.2.2), (x5), ()) w18))
def F127s.b5 (Q : Value → World → Prop) : ((Option Addr × Nat × Nat) × Unit × Int × Int × Unit) → World → (((Option Addr × Nat × Nat) × Unit × Int × Int × Unit) → World → Prop) → Prop := fun s w C5 => ∀ _ : Nat → Value, F127s.b5c Q C5 s.1 s.2.1 s.2.2.1 s.2.2.2.1 w
def F127s.l5 (Q : Value → World → Prop) : ((Option Addr × Nat × Nat) × Unit × Int × Int × Unit) → World → Prop := fun s w => ∃ n, loopC (F127s.b5 Q) n s w
def F127s.vc (x0A : Option Addr) (x0n x0c : Nat) (w : World) (Q : Value → World → Prop) : Prop :=
  Calls Tryz.prog 147 #[Value.slice x0A x0n x0c, Value.func (.func 128) #[] #[]] w fun e2 w1 =>
  ∃ i3 : Int, e2 = .returned (Value.int .i64 i3) ∧ (
    vIf (i3 == (-1))
    (Q (Value.slice x0A x0n x0c) w1)
    (jnC (F127s.l5 Q) ((x0A, x0n, x0c), (), (i3), ((IntKind.wrap .i64 (i3 + 1))), ()) w1))
def F127s.an : Ann := ⟨[(5, [(0, .kSl), (1, .kF 128), (5, .kI .i64), (6, .kI .i64)])], [(12, [(0, .kSl), (5, .kI .i64)])]⟩
theorem F127s.of (x0A : Option Addr) (x0n x0c : Nat) (w : World) {Q : Value → World → Prop} (h : F127s.vc x0A x0n x0c w Q) : Calls Tryz.prog 127 #[Value.slice x0A x0n x0c, Value.func (.func 128) #[] #[]] w (fun e w' => ∃ v, e = .returned v ∧ Q v w') := vcFn_of (A := F127s.an) noCount mixed h (by kernel_rfl)
/-! ### function 128: (*stillage/tags.Tags).there$1 -/
def F128.vc (x0 : List Value) (w : World) (Q : Value → World → Prop) : Prop :=
  nw w x0 53 fun b1 w2 =>
  ldB w2 b1 (0 + 33) fun t3 =>
  Q (Value.bool t3) w2
def F128.an : Ann := ⟨[], []⟩
theorem F128.of (x0 : List Value) (w : World) {Q : Value → World → Prop} (h : F128.vc x0 w Q) : Calls Tryz.prog 128 #[ofL x0] w (fun e w' => ∃ v, e = .returned v ∧ Q v w') := vcFn_of (A := F128.an) noCount mixed h (by kernel_rfl)
/-! ### function 135: (*stillage/slots.Table[stillage/api.Entry]).home -/
def F135.vc (x0 : Option Addr) (x1 : List Value) (w : World) (Q : Value → World → Prop) : Prop :=
  nw w x1 33 fun b1 w2 =>
  ldI .u8 w2.drew b1 0 fun i3 =>
  ldI .u8 w2.drew b1 (0 + 1) fun i4 =>
  dr x0 fun b5 o6 =>
  ldSl w2.drew b5 o6 fun A7 n8 c9 =>
  gd (decide (((n8 : Nat) : Int) ≠ 0)) <|
  Q (Value.int .i64 (Int.tmod (iOr .i64 (IntKind.wrap .i64 i3) (IntKind.wrap .i64 ((IntKind.wrap .i64 i4) * 2 ^ 8))) ((n8 : Nat) : Int))) w2.drew
def F135.an : Ann := ⟨[], []⟩
theorem F135.of (x0 : Option Addr) (x1 : List Value) (w : World) {Q : Value → World → Prop} (h : F135.vc x0 x1 w Q) : Calls Tryz.prog 135 #[Value.pointer x0, ofL x1] w (fun e w' => ∃ v, e = .returned v ∧ Q v w') := vcFn_of (A := F135.an) noCount mixed h (by kernel_rfl)
/-! ### function 137: slices.Concat[[]int,int] -/
def F137.b11c (Q : Value → World → Prop) (C11 : ((Option Addr × Nat × Nat) × (Option Addr × Nat × Nat) × Int × Int × Unit) → World → Prop) (x6 : (Option Addr × Nat × Nat)) (x25 : (Option Addr × Nat × Nat)) (x26 : Int) (x27 : Int) (w : World) : Prop :=
  vIf (decide (x27 < x26))
  (dr x25.1 fun b11 o12 =>
    gd (decide (0 ≤ x27)) <|
    gd (decide (x27 < ((x25.2.1 : Nat) : Int))) <|
    ldSl w b11 (o12 + (x27).toNat * 1) fun A13 n14 c15 =>
    app w 1 8 [Value.int .i64 0] 3 x6.1 x6.2.1 x6.2.2 (Value.slice A13 n14 c15) fun A16 n17 c18 w19 =>
    jnC C11 ((A16, n17, c18), (x25.1, x25.2.1, x25.2.2), (x26), ((IntKind.wrap .i64 (x27 + 1))), ()) w19)
  (Q (Value.slice x6.1 x6.2.1 x6.2.2) w)
def F137.b11 (Q : Value → World → Prop) : ((Option Addr × Nat × Nat) × (Option Addr × Nat × Nat) × Int × Int × Unit) → World → (((Option Addr × Nat × Nat) × (Option Addr × Nat × Nat) × Int × Int × Unit) → World → Prop) → Prop := fun s w C11 => ∀ _ : Nat → Value, F137.b11c Q C11 s.1 s.2.1 s.2.2.1 s.2.2.2.1 w
def F137.l11 (Q : Value → World → Prop) : ((Option Addr × Nat × Nat) × (Option Addr × Nat × Nat) × Int × Int × Unit) → World → Prop := fun s w => ∃ n, loopC (F137.b11 Q) n s w
def F137.b3c (Q : Value → World → Prop) (C3 : ((Option Addr × Nat × Nat) × Int × (Option Addr × Nat × Nat) × Int × Int × Unit) → World → Prop) (x0 : (Option Addr × Nat × Nat)) (x3 : Int) (x9 : (Option Addr × Nat × Nat)) (x10 : Int) (x11 : Int) (w : World) : Prop :=
  vIf (decide (x11 < x10))
  (dr x9.1 fun b1 o2 =>
    gd (decide (0 ≤ x11)) <|
    gd (decide (x11 < ((x9.2.1 : Nat) : Int))) <|
    ldSl w b1 (o2 + (x11).toNat * 1) fun A3 n4 c5 =>
    vIf (decide ((IntKind.wrap .i64 (x3 + ((n4 : Nat) : Int))) < 0))
    (False)
    (jnC C3 ((x0.1, x0.2.1, x0.2.2), ((IntKind.wrap .i64 (x3 + ((n4 : Nat) : Int)))), (x9.1, x9.2.1, x9.2.2), (x10), ((IntKind.wrap .i64 (x11 + 1))), ()) w))
  (Calls Tryz.prog 151 #[Value.slice none 0 0, Value.int .i64 x3] w fun e7 w6 =>
    ∃ (A8 : Option Addr) (n9 c10 : Nat), e7 = .returned (Value.slice A8 n9 c10) ∧ (
      jnC (F137.l11 Q) ((A8, n9, c10), (x0.1, x0.2.1, x0.2.2), (((x0.2.1 : Nat) : Int)), (0), ()) w6))
def F137.b3 (Q : Value → World → Prop) : ((Option Addr × Nat × Nat) × Int × (Option Addr × Nat × Nat) × Int × Int × Unit) → World → (((Option Addr × Nat × Nat) × Int × (Option Addr × Nat × Nat) × Int × Int × Unit) → World → Prop) → Prop := fun s w C3 => ∀ _ : Nat → Value, F137.b3c Q C3 s.1 s.2.1 s.2.2.1 s.2.2.2.1 s.2.2.2.2.1 w
def F137.l3 (Q : Value → World → Prop) : ((Option Addr × Nat × Nat) × Int × (Option Addr × Nat × Nat) × Int × Int × Unit) → World → Prop := fun s w => ∃ n, loopC (F137.b3 Q) n s w
def F137.vc (x0A : Option Addr) (x0n x0c : Nat) (w : World) (Q : Value → World → Prop) : Prop :=
  jnC (F137.l3 Q) ((x0A, x0n, x0c), (0), (x0A, x0n, x0c), (((x0n : Nat) : Int)), (0), ()) w
def F137.an : Ann := ⟨[(3, [(0, .kSl), (3, .kI .i64), (9, .kSl), (10, .kI .i64), (11, .kI .i64)]), (11, [(6, .kSl), (25, .kSl), (26, .kI .i64), (27, .kI .i64)])], []⟩
theorem F137.of (x0A : Option Addr) (x0n x0c : Nat) (w : World) {Q : Value → World → Prop} (h : F137.vc x0A x0n x0c w Q) : Calls Tryz.prog 137 #[Value.slice x0A x0n x0c] w (fun e w' => ∃ v, e = .returned v ∧ Q v w') := vcFn_of (A := F137.an) noCount mixed h (by kernel_rfl)
/-! ### function 139: slices.Compact[[]int,int] -/
def F139.k15c (Q : Value → World → Prop) (C4 : ((Option Addr × Nat × Nat) × Int × Unit) → World → Prop) (x0 : (Option Addr × Nat × Nat)) (x3 : Int) (w : World) : Prop :=
  gd (decide (0 ≤ x3)) <|
  gd (decide (x3 ≤ ((x0.2.2 : Nat) : Int))) <|
  Q (Value.slice (slA x0.1 x0.2.2 0 1) (x3).toNat x0.2.2) w
def F139.k15 (Q : Value → World → Prop) (C4 : ((Option Addr × Nat × Nat) × Int × Unit) → World → Prop) : ((Option Addr × Nat × Nat) × Int × Unit) → World → Prop := fun s w => ∀ _ : Nat → Value, F139.k15c Q C4 s.1 s.2.1 w
def F139.b9c (Q : Value → World → Prop) (C4 : ((Option Addr × Nat × Nat) × Int × Unit) → World → Prop) (C9 : ((Option Addr × Nat × Nat) × Int × (Option Addr × Nat × Nat) × Int × Unit) → World → Prop) (x0 : (Option Addr × Nat × Nat)) (x3 : Int) (x4 : (Option Addr × Nat × Nat)) (x5 : Int) (w : World) : Prop :=
  vIf (decide (x5 < ((x4.2.1 : Nat) : Int)))
  (dr x4.1 fun b7 o8 =>
    gd (decide (0 ≤ x5)) <|
    gd (decide (x5 < ((x4.2.1 : Nat) : Int))) <|
    ldI .i64 w.drew b7 (o8 + (x5).toNat * 1) fun i9 =>
    dr x4.1 fun b10 o11 =>
    gd (decide (0 ≤ (IntKind.wrap .i64 (x5 - 1)))) <|
    gd (decide ((IntKind.wrap .i64 (x5 - 1)) < ((x4.2.1 : Nat) : Int))) <|
    ldI .i64 w.drew b10 (o11 + ((IntKind.wrap .i64 (x5 - 1))).toNat * 1) fun i12 =>
    vIf (i9 != i12)
    (dr x4.1 fun b13 o14 =>
      gd (decide (0 ≤ x5)) <|
      gd (decide (x5 < ((x4.2.1 : Nat) : Int))) <|
      ldI .i64 w.drew b13 (o14 + (x5).toNat * 1) fun i15 =>
      dr x0.1 fun b16 o17 =>
      gd (decide (0 ≤ x3)) <|
      gd (decide (x3 < ((x0.2.1 : Nat) : Int))) <|
      st w.drew b16 (o17 + (x3).toNat * 1) [Value.int .i64 i15] fun w18 =>
      jnC C9 ((x0.1, x0.2.1, x0.2.2), ((IntKind.wrap .i64 (x3 + 1))), (x4.1, x4.2.1, x4.2.2), ((IntKind.wrap .i64 (x5 + 1))), ()) w18)
    (jnC C9 ((x0.1, x0.2.1, x0.2.2), (x3), (x4.1, x4.2.1, x4.2.2), ((IntKind.wrap .i64 (x5 + 1))), ()) w.drew))
  (gd (decide (0 ≤ x3)) <|
    gd (decide (x3 ≤ ((x0.2.1 : Nat) : Int))) <|
    vIf ((x0.2.1 - (x3).toNat) == 0)
    (jnC (F139.k15 Q C4) ((x0.1, x0.2.1, x0.2.2), (x3), ()) w)
    (dr (slA x0.1 x0.2.2 (x3).toNat 1) fun b20 o21 =>
      st w b20 o21 (zeros (x0.2.1 - (x3).toNat) [Value.int .i64 0]) fun w19 =>
      jnC (F139.k15 Q C4) ((x0.1, x0.2.1, x0.2.2), (x3), ()) w19))
def F139.b9 (Q : Value → World → Prop) (C4 : ((Option Addr × Nat × Nat) × Int × Unit) → World → Prop) : ((Option Addr × Nat × Nat) × Int × (Option Addr × Nat × Nat) × Int × Unit) → World → (((Option Addr × Nat × Nat) × Int × (Option Addr × Nat × Nat) × Int × Unit) → World → Prop) → Prop := fun s w C9 => ∀ _ : Nat → Value, F139.b9c Q C4 C9 s.1 s.2.1 s.2.2.1 s.2.2.2.1 w
def F139.l9 (Q : Value → World → Prop) (C4 : ((Option Addr × Nat × Nat) × Int × Unit) → World → Prop) : ((Option Addr × Nat × Nat) × Int × (Option Addr × Nat × Nat) × Int × Unit) → World → Prop := fun s w => ∃ n, loopC (F139.b9 Q C4) n s w
def F139.b4c (Q : Value → World → Prop) (C4 : ((Option Addr × Nat × Nat) × Int × Unit) → World → Prop) (x0 : (Option Addr × Nat × Nat)) (x3 : Int) (w : World) : Prop :=
  vIf (decide (x3 < ((x0.2.1 : Nat) : Int)))
  (dr x0.1 fun b1 o2 =>
    gd (decide (0 ≤ x3)) <|
    gd (decide (x3 < ((x0.2.1 : Nat) : Int))) <|
    ldI .i64 w.drew b1 (o2 + (x3).toNat * 1) fun i3 =>
    dr x0.1 fun b4 o5 =>
    gd (decide (0 ≤ (IntKind.wrap .i64 (x3 - 1)))) <|
    gd (decide ((IntKind.wrap .i64 (x3 - 1)) < ((x0.2.1 : Nat) : Int))) <|
    ldI .i64 w.drew b4 (o5 + ((IntKind.wrap .i64 (x3 - 1))).toNat * 1) fun i6 =>
    vIf (i3 == i6)
    (gd (decide (0 ≤ x3)) <|
      gd (decide (x3 ≤ ((x0.2.1 : Nat) : Int))) <|
      jnC (F139.l9 Q C4) ((x0.1, x0.2.1, x0.2.2), (x3), ((slA x0.1 x0.2.2 (x3).toNat 1), (x0.2.1 - (x3).toNat), (x0.2.2 - (x3).toNat)), (1), ()) w.drew)
    (jnC C4 ((x0.1, x0.2.1, x0.2.2), ((IntKind.wrap .i64 (x3 + 1))), ()) w.drew))
  (Q (Value.slice x0.1 x0.2.1 x0.2.2) w)
def F139.b4 (Q : Value → World → Prop) : ((Option Addr × Nat × Nat) × Int × Unit) → World → (((Option Addr × Nat × Nat) × Int × Unit) → World → Prop) → Prop := fun s w C4 => ∀ _ : Nat → Value, F139.b4c Q C4 s.1 s.2.1 w
def F139.l4 (Q : Value → World → Prop) : ((Option Addr × Nat × Nat) × Int × Unit) → World → Prop := fun s w => ∃ n, loopC (F139.b4 Q) n s w
def F139.vc (x0A : Option Addr) (x0n x0c : Nat) (w : World) (Q : Value → World → Prop) : Prop :=
  vIf (decide (((x0n : Nat) : Int) < 2))
  (Q (Value.slice x0A x0n x0c) w)
  (jnC (F139.l4 Q) ((x0A, x0n, x0c), (1), ()) w)
def F139.an : Ann := ⟨[(4, [(0, .kSl), (3, .kI .i64)]), (9, [(0, .kSl), (3, .kI .i64), (4, .kSl), (5, .kI .i64)])], [(15, [(0, .kSl), (3, .kI .i64)])]⟩
theorem F139.of (x0A : Option Addr) (x0n x0c : Nat) (w : World) {Q : Value → World → Prop} (h : F139.vc x0A x0n x0c w Q) : Calls Tryz.prog 139 #[Value.slice x0A x0n x0c] w (fun e w' => ∃ v, e = .returned v ∧ Q v w') := vcFn_of (A := F139.an) noCount mixed h (by kernel_rfl)
/-! ### function 140: slices.Clone[[]stillage/api.Digest,stillage/api.Digest] -/
def F140.vc (x0A : Option Addr) (x0n x0c : Nat) (w : World) (Q : Value → World → Prop) : Prop :=
  vIf x0A.isNone
  (Q (Value.slice none 0 0) w)
  (nw w [] 33 fun b1 w2 =>
    app w2 32 32 Z33 33 (some ⟨b1, 0, none⟩) 0 0 (Value.slice x0A x0n x0c) fun A3 n4 c5 w6 =>
    Q (Value.slice A3 n4 c5) w6)
def F140.an : Ann := ⟨[], []⟩
theorem F140.of (x0A : Option Addr) (x0n x0c : Nat) (w : World) {Q : Value → World → Prop} (h : F140.vc x0A x0n x0c w Q) : Calls Tryz.prog 140 #[Value.slice x0A x0n x0c] w (fun e w' => ∃ v, e = .returned v ∧ Q v w') := vcFn_of (A := F140.an) noCount mixed h (by kernel_rfl)
/-! ### function 142: stillage/digest.Cmp -/
def F142.vc (x0 : List Value) (x1 : List Value) (w : World) (Q : Value → World → Prop) : Prop :=
  nw w x0 33 fun b1 w2 =>
  nw w2 x1 33 fun b3 w4 =>
  ldA 32 w4 b1 0 fun a5 =>
  ldA 32 w4 b3 0 fun a6 =>
  eqAB 32 a5 a6 fun t7 =>
  vIf t7
  (Q (Value.int .i64 0) w4)
  (Calls Tryz.prog 155 #[Value.slice (some ⟨b1, 0, none⟩) 32 32, Value.slice (some ⟨b3, 0, none⟩) 32 32] w4.drew fun e9 w8 =>
    ∃ i10 : Int, e9 = .returned (Value.int .i64 i10) ∧ (
      Q (Value.int .i64 i10) w8))
def F142.an : Ann := ⟨[], []⟩
theorem F142.of (x0 : List Value) (x1 : List Value) (w : World) {Q : Value → World → Prop} (h : F142.vc x0 x1 w Q) : Calls Tryz.prog 142 #[ofL x0, ofL x1] w (fun e w' => ∃ v, e = .returned v ∧ Q v w') := vcFn_of (A := F142.an) noCount mixed h (by kernel_rfl)
/-! ### function 143: slices.Compact[[]stillage/api.Digest,stillage/api.Digest] -/
def F143.k15c (Q : Value → World → Prop) (C4 : ((Option Addr × Nat × Nat) × Int × Unit) → World → Prop) (x0 : (Option Addr × Nat × Nat)) (x3 : Int) (w : World) : Prop :=
  gd (decide (0 ≤ x3)) <|
  gd (decide (x3 ≤ ((x0.2.2 : Nat) : Int))) <|
  Q (Value.slice (slA x0.1 x0.2.2 0 32) (x3).toNat x0.2.2) w
def F143.k15 (Q : Value → World → Prop) (C4 : ((Option Addr × Nat × Nat) × Int × Unit) → World → Prop) : ((Option Addr × Nat × Nat) × Int × Unit) → World → Prop := fun s w => ∀ _ : Nat → Value, F143.k15c Q C4 s.1 s.2.1 w
def F143.b9c (Q : Value → World → Prop) (C4 : ((Option Addr × Nat × Nat) × Int × Unit) → World → Prop) (C9 : ((Option Addr × Nat × Nat) × Int × (Option Addr × Nat × Nat) × Int × Unit) → World → Prop) (x0 : (Option Addr × Nat × Nat)) (x3 : Int) (x4 : (Option Addr × Nat × Nat)) (x5 : Int) (w : World) : Prop :=
  vIf (decide (x5 < ((x4.2.1 : Nat) : Int)))
  (dr x4.1 fun b8 o9 =>
    gd (decide (0 ≤ x5)) <|
    gd (decide (x5 < ((x4.2.1 : Nat) : Int))) <|
    ldA 32 w.drew b8 (o9 + (x5).toNat * 32) fun a10 =>
    dr x4.1 fun b11 o12 =>
    gd (decide (0 ≤ (IntKind.wrap .i64 (x5 - 1)))) <|
    gd (decide ((IntKind.wrap .i64 (x5 - 1)) < ((x4.2.1 : Nat) : Int))) <|
    ldA 32 w.drew b11 (o12 + ((IntKind.wrap .i64 (x5 - 1))).toNat * 32) fun a13 =>
    eqAB 32 a10 a13 fun t14 =>
    vIf (!t14)
    (dr x4.1 fun b15 o16 =>
      gd (decide (0 ≤ x5)) <|
      gd (decide (x5 < ((x4.2.1 : Nat) : Int))) <|
      ldA 32 w.drew b15 (o16 + (x5).toNat * 32) fun a17 =>
      dr x0.1 fun b18 o19 =>
      gd (decide (0 ≤ x3)) <|
      gd (decide (x3 < ((x0.2.1 : Nat) : Int))) <|
      gd (a17.length == 32) <|
      st w.drew b18 (o19 + (x3).toNat * 32) a17 fun w20 =>
      jnC C9 ((x0.1, x0.2.1, x0.2.2), ((IntKind.wrap .i64 (x3 + 1))), (x4.1, x4.2.1, x4.2.2), ((IntKind.wrap .i64 (x5 + 1))), ()) w20)
    (jnC C9 ((x0.1, x0.2.1, x0.2.2), (x3), (x4.1, x4.2.1, x4.2.2), ((IntKind.wrap .i64 (x5 + 1))), ()) w.drew))
  (gd (decide (0 ≤ x3)) <|
    gd (decide (x3 ≤ ((x0.2.1 : Nat) : Int))) <|
    vIf ((x0.2.1 - (x3).toNat) == 0)
    (jnC (F143.k15 Q C4) ((x0.1, x0.2.1, x0.2.2), (x3), ()) w)
    (dr (slA x0.1 x0.2.2 (x3).toNat 32) fun b22 o23 =>
      st w b22 o23 (zeros (x0.2.1 - (x3).toNat) Z33) fun w21 =>
      jnC (F143.k15 Q C4) ((x0.1, x0.2.1, x0.2.2), (x3), ()) w21))
def F143.b9 (Q : Value → World → Prop) (C4 : ((Option Addr × Nat × Nat) × Int × Unit) → World → Prop) : ((Option Addr × Nat × Nat) × Int × (Option Addr × Nat × Nat) × Int × Unit) → World → (((Option Addr × Nat × Nat) × Int × (Option Addr × Nat × Nat) × Int × Unit) → World → Prop) → Prop := fun s w C9 => ∀ _ : Nat → Value, F143.b9c Q C4 C9 s.1 s.2.1 s.2.2.1 s.2.2.2.1 w
def F143.l9 (Q : Value → World → Prop) (C4 : ((Option Addr × Nat × Nat) × Int × Unit) → World → Prop) : ((Option Addr × Nat × Nat) × Int × (Option Addr × Nat × Nat) × Int × Unit) → World → Prop := fun s w => ∃ n, loopC (F143.b9 Q C4) n s w
def F143.b4c (Q : Value → World → Prop) (C4 : ((Option Addr × Nat × Nat) × Int × Unit) → World → Prop) (x0 : (Option Addr × Nat × Nat)) (x3 : Int) (w : World) : Prop :=
  vIf (decide (x3 < ((x0.2.1 : Nat) : Int)))
  (dr x0.1 fun b1 o2 =>
    gd (decide (0 ≤ x3)) <|
    gd (decide (x3 < ((x0.2.1 : Nat) : Int))) <|
    ldA 32 w.drew b1 (o2 + (x3).toNat * 32) fun a3 =>
    dr x0.1 fun b4 o5 =>
    gd (decide (0 ≤ (IntKind.wrap .i64 (x3 - 1)))) <|
    gd (decide ((IntKind.wrap .i64 (x3 - 1)) < ((x0.2.1 : Nat) : Int))) <|
    ldA 32 w.drew b4 (o5 + ((IntKind.wrap .i64 (x3 - 1))).toNat * 32) fun a6 =>
    eqAB 32 a3 a6 fun t7 =>
    vIf t7
    (gd (decide (0 ≤ x3)) <|
      gd (decide (x3 ≤ ((x0.2.1 : Nat) : Int))) <|
      jnC (F143.l9 Q C4) ((x0.1, x0.2.1, x0.2.2), (x3), ((slA x0.1 x0.2.2 (x3).toNat 32), (x0.2.1 - (x3).toNat), (x0.2.2 - (x3).toNat)), (1), ()) w.drew)
    (jnC C4 ((x0.1, x0.2.1, x0.2.2), ((IntKind.wrap .i64 (x3 + 1))), ()) w.drew))
  (Q (Value.slice x0.1 x0.2.1 x0.2.2) w)
def F143.b4 (Q : Value → World → Prop) : ((Option Addr × Nat × Nat) × Int × Unit) → World → (((Option Addr × Nat × Nat) × Int × Unit) → World → Prop) → Prop := fun s w C4 => ∀ _ : Nat → Value, F143.b4c Q C4 s.1 s.2.1 w
def F143.l4 (Q : Value → World → Prop) : ((Option Addr × Nat × Nat) × Int × Unit) → World → Prop := fun s w => ∃ n, loopC (F143.b4 Q) n s w
def F143.vc (x0A : Option Addr) (x0n x0c : Nat) (w : World) (Q : Value → World → Prop) : Prop :=
  vIf (decide (((x0n : Nat) : Int) < 2))
  (Q (Value.slice x0A x0n x0c) w)
  (jnC (F143.l4 Q) ((x0A, x0n, x0c), (1), ()) w)
def F143.an : Ann := ⟨[(4, [(0, .kSl), (3, .kI .i64)]), (9, [(0, .kSl), (3, .kI .i64), (4, .kSl), (5, .kI .i64)])], [(15, [(0, .kSl), (3, .kI .i64)])]⟩
theorem F143.of (x0A : Option Addr) (x0n x0c : Nat) (w : World) {Q : Value → World → Prop} (h : F143.vc x0A x0n x0c w Q) : Calls Tryz.prog 143 #[Value.slice x0A x0n x0c] w (fun e w' => ∃ v, e = .returned v ∧ Q v w') := vcFn_of (A := F143.an) noCount mixed h (by kernel_rfl)
/-! ### function 144: slices.IndexFunc[[]int,int] -/
def F144s.b2c (Q : Value → World → Prop) (C2 : ((Option Addr × Nat × Nat) × (Nat × Nat) × Int × Int × Unit) → World → Prop) (x0 : (Option Addr × Nat × Nat)) (x1 : (Nat × Nat)) (x7 : Int) (x8 : Int) (w : World) : Prop :=
  vIf (decide (x8 < x7))
  (dr x0.1 fun b1 o2 =>
    gd (decide (0 ≤ x8)) <|
    gd (decide (x8 < ((x0.2.1 : Nat) : Int))) <|
    ldI .i64 w b1 (o2 + (x8).toNat * 1) fun i3 =>
    Calls Tryz.prog 120 #[Value.int .i64 i3, Value.pointer (some ⟨x1.1, x1.2, none⟩)] w fun e5 w4 =>
    ∃ t6 : Bool, e5 = .returned (Value.bool t6) ∧ (
      vIf t6
      (Q (Value.int .i64 x8) w4)
      (jnC C2 ((x0.1, x0.2.1, x0.2.2), (x1.1, x1.2), (x7), ((IntKind.wrap .i64 (x8 + 1))), ()) w4)))
  (Q (Value.int .i64 (-1)) w)
def F144s.b2 (Q : Value → World → Prop) : ((Option Addr × Nat × Nat) × (Nat × Nat) × Int × Int × Unit) → World → (((Option Addr × Nat × Nat) × (Nat × Nat) × Int × Int × Unit) → World → Prop) → Prop := fun s w C2 => ∀ _ : Nat → Value, F144s.b2c Q C2 s.1 s.2.1 s.2.2.1 s.2.2.2.1 w
def F144s.l2 (Q : Value → World → Prop) : ((Option Addr × Nat × Nat) × (Nat × Nat) × Int × Int × Unit) → World → Prop := fun s w => ∃ n, loopC (F144s.b2 Q) n s w
def F144s.vc (x0A : Option Addr) (x0n x0c : Nat) (x1 : Nat × Nat) (w : World) (Q : Value → World → Prop) : Prop :=
  jnC (F144s.l2 Q) ((x0A, x0n, x0c), (x1.1, x1.2), (((x0n : Nat) : Int)), (0), ()) w
def F144s.an : Ann := ⟨[(2, [(0, .kSl), (1, .kG 120), (7, .kI .i64), (8, .kI .i64)])], []⟩
theorem F144s.of (x0A : Option Addr) (x0n x0c : Nat) (x1 : Nat × Nat) (w : World) {Q : Value → World → Prop} (h : F144s.vc x0A x0n x0c x1 w Q) : Calls Tryz.prog 144 #[Value.slice x0A x0n x0c, Value.func (.func 120) #[] #[Value.pointer (some ⟨x1.1, x1.2, none⟩)]] w (fun e w' => ∃ v, e = .returned v ∧ Q v w') := vcFn_of (A := F144s.an) noCount mixed h (by kernel_rfl)
/-! ### function 145: slices.rotateCmpFunc[stillage/api.Word] -/
def F145s.b2c (Q : Value → World → Prop) (C2 : ((Option Addr × Nat × Nat) × Int × Unit × Int × Int × Unit) → World → Prop) (x0 : (Option Addr × Nat × Nat)) (x2 : Int) (x4 : Unit) (x10 : Int) (x11 : Int) (w : World) : Prop :=
  vIf (x10 != x11)
  (vIf (decide (x10 > x11))
    (Calls Tryz.prog 156 #[Value.slice x0.1 x0.2.1 x0.2.2, Value.int .i64 (IntKind.wrap .i64 (x2 - x10)), Value.int .i64 x2, Value.int .i64 x11, Value.func (.func 52) #[] #[]] w fun e2 w1 =>
      e2 = .returned (Value.tuple #[]) ∧ (
        jnC C2 ((x0.1, x0.2.1, x0.2.2), (x2), (), ((IntKind.wrap .i64 (x10 - x11))), (x11), ()) w1))
    (Calls Tryz.prog 156 #[Value.slice x0.1 x0.2.1 x0.2.2, Value.int .i64 (IntKind.wrap .i64 (x2 - x10)), Value.int .i64 (IntKind.wrap .i64 ((IntKind.wrap .i64 (x2 + x11)) - x10)), Value.int .i64 x10, Value.func (.func 52) #[] #[]] w fun e4 w3 =>
      e4 = .returned (Value.tuple #[]) ∧ (
        jnC C2 ((x0.1, x0.2.1, x0.2.2), (x2), (), (x10), ((IntKind.wrap .i64 (x11 - x10))), ()) w3)))
  (Calls Tryz.prog 156 #[Value.slice x0.1 x0.2.1 x0.2.2, Value.int .i64 (IntKind.wrap .i64 (x2 - x10)), Value.int .i64 x2, Value.int .i64 x10, Value.func (.func 52) #[] #[]] w fun e6 w5 =>
    e6 = .returned (Value.tuple #[]) ∧ (
      Q (Value.tuple #[]) w5))
def F145s.b2 (Q : Value → World → Prop) : ((Option Addr × Nat × Nat) × Int × Unit × Int × Int × Unit) → World → (((Option Addr × Nat × Nat) × Int × Unit × Int × Int × Unit) → World → Prop) → Prop := fun s w C2 => ∀ _ : Nat → Value, F145s.b2c Q C2 s.1 s.2.1 s.2.2.1 s.2.2.2.1 s.2.2.2.2.1 w
def F145s.l2 (Q : Value → World → Prop) : ((Option Addr × Nat × Nat) × Int × Unit × Int × Int × Unit) → World → Prop := fun s w => ∃ n, loopC (F145s.b2 Q) n s w
def F145s.vc (x0A : Option Addr) (x0n x0c : Nat) (x1 : Int) (x2 : Int) (x3 : Int) (w : World) (Q : Value → World → Prop) : Prop :=
  jnC (F145s.l2 Q) ((x0A, x0n, x0c), (x2), (), ((IntKind.wrap .i64 (x2 - x1))), ((IntKind.wrap .i64 (x3 - x2))), ()) w
def F145s.an : Ann := ⟨[(2, [(0, .kSl), (2, .kI .i64), (4, .kF 52), (10, .kI .i64), (11, .kI .i64)])], []⟩
theorem F145s.of (x0A : Option Addr) (x0n x0c : Nat) (x1 : Int) (x2 : Int) (x3 : Int) (w : World) {Q : Value → World → Prop} (h : F145s.vc x0A x0n x0c x1 x2 x3 w Q) : Calls Tryz.prog 145 #[Value.slice x0A x0n x0c, Value.int .i64 x1, Value.int .i64 x2, Value.int .i64 x3, Value.func (.func 52) #[] #[]] w (fun e w' => ∃ v, e = .returned v ∧ Q v w') := vcFn_of (A := F145s.an) noCount mixed h (by kernel_rfl)
/-! ### function 146: internal/bytealg.CompareString -/
def F146.vc (x0 : ByteArray) (x1 : ByteArray) (w : World) (Q : Value → World → Prop) : Prop :=
  extC Tryz.prog 157 #[Value.string x0, Value.string x1] w fun v3 w1 =>
  ∃ i4 : Int, v3 = Value.int .i64 i4 ∧ (
    Q (Value.int .i64 i4) w1)
def F146.an : Ann := ⟨[], []⟩
theorem F146.of (x0 : ByteArray) (x1 : ByteArray) (w : World) {Q : Value → World → Prop} (h : F146.vc x0 x1 w Q) : Calls Tryz.prog 146 #[Value.string x0, Value.string x1] w (fun e w' => ∃ v, e = .returned v ∧ Q v w') := vcFn_of (A := F146.an) noCount mixed h (by kernel_rfl)
/-! ### function 147: slices.IndexFunc[[]stillage/api.TagEntry,stillage/api.TagEntry] -/
def F147s.b2c (Q : Value → World → Prop) (C2 : ((Option Addr × Nat × Nat) × Unit × Int × Int × Unit) → World → Prop) (x0 : (Option Addr × Nat × Nat)) (x1 : Unit) (x7 : Int) (x8 : Int) (w : World) : Prop :=
  vIf (decide (x8 < x7))
  (dr x0.1 fun b1 o2 =>
    gd (decide (0 ≤ x8)) <|
    gd (decide (x8 < ((x0.2.1 : Nat) : Int))) <|
    ldA 38 w b1 (o2 + (x8).toNat * 38) fun a3 =>
    Calls Tryz.prog 128 #[ofL a3] w fun e5 w4 =>
    ∃ t6 : Bool, e5 = .returned (Value.bool t6) ∧ (
      vIf t6
      (Q (Value.int .i64 x8) w4)
      (jnC C2 ((x0.1, x0.2.1, x0.2.2), (), (x7), ((IntKind.wrap .i64 (x8 + 1))), ()) w4)))
  (Q (Value.int .i64 (-1)) w)
def F147s.b2 (Q : Value → World → Prop) : ((Option Addr × Nat × Nat) × Unit × Int × Int × Unit) → World → (((Option Addr × Nat × Nat) × Unit × Int × Int × Unit) → World → Prop) → Prop := fun s w C2 => ∀ _ : Nat → Value, F147s.b2c Q C2 s.1 s.2.1 s.2.2.1 s.2.2.2.1 w
def F147s.l2 (Q : Value → World → Prop) : ((Option Addr × Nat × Nat) × Unit × Int × Int × Unit) → World → Prop := fun s w => ∃ n, loopC (F147s.b2 Q) n s w
def F147s.vc (x0A : Option Addr) (x0n x0c : Nat) (w : World) (Q : Value → World → Prop) : Prop :=
  jnC (F147s.l2 Q) ((x0A, x0n, x0c), (), (((x0n : Nat) : Int)), (0), ()) w
def F147s.an : Ann := ⟨[(2, [(0, .kSl), (1, .kF 128), (7, .kI .i64), (8, .kI .i64)])], []⟩
theorem F147s.of (x0A : Option Addr) (x0n x0c : Nat) (w : World) {Q : Value → World → Prop} (h : F147s.vc x0A x0n x0c w Q) : Calls Tryz.prog 147 #[Value.slice x0A x0n x0c, Value.func (.func 128) #[] #[]] w (fun e w' => ∃ v, e = .returned v ∧ Q v w') := vcFn_of (A := F147s.an) noCount mixed h (by kernel_rfl)
/-! ### function 151: slices.Grow[[]int,int] -/
def F151.k3c (Q : Value → World → Prop) (x0 : (Option Addr × Nat × Nat)) (x1 : Int) (w : World) : Prop :=
  vIf (decide ((IntKind.wrap .i64 (x1 - (IntKind.wrap .i64 (((x0.2.2 : Nat) : Int) - ((x0.2.1 : Nat) : Int))))) > 0))
  (gd (decide (0 ≤ ((x0.2.2 : Nat) : Int))) <|
    gd (decide (((x0.2.2 : Nat) : Int) ≤ ((x0.2.2 : Nat) : Int))) <|
    appZ w 1 8 [Value.int .i64 0] 3 (slA x0.1 x0.2.2 0 1) ((((x0.2.2 : Nat) : Int)).toNat) x0.2.2 (IntKind.wrap .i64 (x1 - (IntKind.wrap .i64 (((x0.2.2 : Nat) : Int) - ((x0.2.1 : Nat) : Int))))) fun A1 n2 c3 w4 =>
    gd (decide (0 ≤ ((x0.2.1 : Nat) : Int))) <|
    gd (decide (((x0.2.1 : Nat) : Int) ≤ ((c3 : Nat) : Int))) <|
    Q (Value.slice (slA A1 c3 0 1) (((x0.2.1 : Nat) : Int)).toNat c3) w4)
  (Q (Value.slice x0.1 x0.2.1 x0.2.2) w)
def F151.k3 (Q : Value → World → Prop) : ((Option Addr × Nat × Nat) × Int × Unit) → World → Prop := fun s w => ∀ _ : Nat → Value, F151.k3c Q s.1 s.2.1 w
def F151.vc (x0A : Option Addr) (x0n x0c : Nat) (x1 : Int) (w : World) (Q : Value → World → Prop) : Prop :=
  vIf (decide (x1 < 0))
  (False)
  (jnC (F151.k3 Q) ((x0A, x0n, x0c), (x1), ()) w)
def F151.an : Ann := ⟨[], [(3, [(0, .kSl), (1, .kI .i64)])]⟩
theorem F151.of (x0A : Option Addr) (x0n x0c : Nat) (x1 : Int) (w : World) {Q : Value → World → Prop} (h : F151.vc x0A x0n x0c x1 w Q) : Calls Tryz.prog 151 #[Value.slice x0A x0n x0c, Value.int .i64 x1] w (fun e w' => ∃ v, e = .returned v ∧ Q v w') := vcFn_of (A := F151.an) noCount mixed h (by kernel_rfl)
/-! ### function 155: bytes.Compare -/
def F155.vc (x0A : Option Addr) (x0n x0c : Nat) (x1A : Option Addr) (x1n x1c : Nat) (w : World) (Q : Value → World → Prop) : Prop :=
  extC Tryz.prog 177 #[Value.slice x0A x0n x0c, Value.slice x1A x1n x1c] w fun v3 w1 =>
  ∃ i4 : Int, v3 = Value.int .i64 i4 ∧ (
    Q (Value.int .i64 i4) w1)
def F155.an : Ann := ⟨[], []⟩
theorem F155.of (x0A : Option Addr) (x0n x0c : Nat) (x1A : Option Addr) (x1n x1c : Nat) (w : World) {Q : Value → World → Prop} (h : F155.vc x0A x0n x0c x1A x1n x1c w Q) : Calls Tryz.prog 155 #[Value.slice x0A x0n x0c, Value.slice x1A x1n x1c] w (fun e w' => ∃ v, e = .returned v ∧ Q v w') := vcFn_of (A := F155.an) noCount mixed h (by kernel_rfl)
/-! ### function 156: slices.swapRangeCmpFunc[stillage/api.Word] -/
def F156s.b1c (Q : Value → World → Prop) (C1 : ((Option Addr × Nat × Nat) × Int × Int × Int × Int × Unit) → World → Prop) (x0 : (Option Addr × Nat × Nat)) (x1 : Int) (x2 : Int) (x3 : Int) (x10 : Int) (w : World) : Prop :=
  vIf (decide (x10 < x3))
  (dr x0.1 fun b1 o2 =>
    gd (decide (0 ≤ (IntKind.wrap .i64 (x2 + x10)))) <|
    gd (decide ((IntKind.wrap .i64 (x2 + x10)) < ((x0.2.1 : Nat) : Int))) <|
    ldA 39 w.drew b1 (o2 + ((IntKind.wrap .i64 (x2 + x10))).toNat * 39) fun a3 =>
    dr x0.1 fun b4 o5 =>
    gd (decide (0 ≤ (IntKind.wrap .i64 (x1 + x10)))) <|
    gd (decide ((IntKind.wrap .i64 (x1 + x10)) < ((x0.2.1 : Nat) : Int))) <|
    ldA 39 w.drew b4 (o5 + ((IntKind.wrap .i64 (x1 + x10))).toNat * 39) fun a6 =>
    dr x0.1 fun b7 o8 =>
    gd (decide (0 ≤ (IntKind.wrap .i64 (x1 + x10)))) <|
    gd (decide ((IntKind.wrap .i64 (x1 + x10)) < ((x0.2.1 : Nat) : Int))) <|
    gd (a3.length == 39) <|
    st w.drew b7 (o8 + ((IntKind.wrap .i64 (x1 + x10))).toNat * 39) a3 fun w9 =>
    dr x0.1 fun b10 o11 =>
    gd (decide (0 ≤ (IntKind.wrap .i64 (x2 + x10)))) <|
    gd (decide ((IntKind.wrap .i64 (x2 + x10)) < ((x0.2.1 : Nat) : Int))) <|
    gd (a6.length == 39) <|
    st w9 b10 (o11 + ((IntKind.wrap .i64 (x2 + x10))).toNat * 39) a6 fun w12 =>
    jnC C1 ((x0.1, x0.2.1, x0.2.2), (x1), (x2), (x3), ((IntKind.wrap .i64 (x10 + 1))), ()) w12)
  (Q (Value.tuple #[]) w)
def F156s.b1 (Q : Value → World → Prop) : ((Option Addr × Nat × Nat) × Int × Int × Int × Int × Unit) → World → (((Option Addr × Nat × Nat) × Int × Int × Int × Int × Unit) → World → Prop) → Prop := fun s w C1 => ∀ _ : Nat → Value, F156s.b1c Q C1 s.1 s.2.1 s.2.2.1 s.2.2.2.1 s.2.2.2.2.1 w
def F156s.l1 (Q : Value → World → Prop) : ((Option Addr × Nat × Nat) × Int × Int × Int × Int × Unit) → World → Prop := fun s w => ∃ n, loopC (F156s.b1 Q) n s w
def F156s.vc (x0A : Option Addr) (x0n x0c : Nat) (x1 : Int) (x2 : Int) (x3 : Int) (w : World) (Q : Value → World → Prop) : Prop :=
  jnC (F156s.l1 Q) ((x0A, x0n, x0c), (x1), (x2), (x3), (0), ()) w
def F156s.an : Ann := ⟨[(1, [(0, .kSl), (1, .kI .i64), (2, .kI .i64), (3, .kI .i64), (10, .kI .i64)])], []⟩
theorem F156s.of (x0A : Option Addr) (x0n x0c : Nat) (x1 : Int) (x2 : Int) (x3 : Int) (w : World) {Q : Value → World → Prop} (h : F156s.vc x0A x0n x0c x1 x2 x3 w Q) : Calls Tryz.prog 156 #[Value.slice x0A x0n x0c, Value.int .i64 x1, Value.int .i64 x2, Value.int .i64 x3, Value.func (.func 52) #[] #[]] w (fun e w' => ∃ v, e = .returned v ∧ Q v w') := vcFn_of (A := F156s.an) noCount mixed h (by kernel_rfl)
end Go.Proofs.YthcclmlbkfadcaaGreat
/- the print of chapter 22 -/
/- rows of ints: how they lie; Contains, in, Ints -/
namespace Go.Proofs.YthcclmlbkfadcaaGreat
open Go.GV Go.RowKit Go.Lib
set_option linter.unusedVariables false
set_option linter.unusedSimpArgs false
def ivs (l : List Int) : List Value := l.map (Value.int .i64)
theorem ivs_len (l : List Int) : (ivs l).length = l.length := by simp [ivs]
theorem ivs_app (a b : List Int) : ivs (a ++ b) = ivs a ++ ivs b := by simp [ivs]
theorem ivs_one (l : List Int) : ∀ v ∈ ivs l, v.oneCell' = true := by
  intro v hv
  simp only [ivs, List.mem_map] at hv
  obtain ⟨x, _, rfl⟩ := hv
  rfl
theorem ivs_at {l : List Int} {i : Nat} {x : Int} (h : l[i]? = some x) : (ivs l)[i]? = some (.int .i64 x) := by simp [ivs, h]
theorem ivs_take (l : List Int) (k : Nat) : (ivs l).take k = ivs (l.take k) := by simp [ivs]
theorem ei (i : Nat) (h : i < 1099511627776) : IntKind.wrap .i64 ((i : Int) + 1) = ((i + 1 : Nat) : Int) := by rw [i64_id (by omega) (by omega)]; rfl
theorem sl_n {w : World} {A : Option Addr} {n : Nat} {l : List Int} (h : Sl w 1 A n (ivs l)) : l.length = n := by
  have := h.1
  rw [ivs_len] at this
  omega
theorem sl_at {w : World} {A : Option Addr} {n : Nat} {l : List Int} (h : Sl w 1 A n (ivs l)) {i : Nat} (hi : i < n) {x : Int} (hx : l[i]? = some x) : ∃ b o, A = some ⟨b, o, none⟩ ∧ ∀ j y, l[j]? = some y → cellAt w b (o + j * 1) = some (.int .i64 y) := by
  obtain ⟨b, o, hA, hc⟩ := h.2 (by omega)
  exact ⟨b, o, hA, fun j y hj => by rw [Nat.mul_one]; exact hc j _ (ivs_at hj)⟩
/-- a step of a loop over a row of ints -/
theorem sl_rd {w : World} {A : Option Addr} {n : Nat} {l : List Int} (h : Sl w 1 A n (ivs l)) {i : Nat} (hi : i < n) {x : Int} (hx : l[i]? = some x) {K : Int → Prop} (hK : K x) :
    dr A fun b o => gd (decide (0 ≤ (i : Int))) (gd (decide ((i : Int) < ((n : Nat) : Int))) (ldI .i64 w b (o + ((i : Int)).toNat * 1) K)) := by
  obtain ⟨b, o, rfl, hc⟩ := sl_at h hi hx
  refine dr_mk (gd_mk (decide_eq_true (by omega)) (gd_mk (decide_eq_true (by omega)) ⟨x, ?_, hK⟩))
  rw [Int.toNat_natCast]
  exact hc i x hx
theorem row_low {u : World} {B B' : Nat} {e : TypeId} {sz : Nat} {A : Option Addr} {k c : Nat} {vs : List Value} (hB : B' ≤ B) (hr : Row u B e sz A k c vs) : Row u B' e sz A k c vs := by
  refine ⟨hr.len, hr.le, ?_⟩
  rcases hr.at_ with h' | ⟨b', cs', q1, q2, q3⟩
  · exact .inl h'
  · exact .inr ⟨b', cs', q1, by omega, q3⟩
/-- a frame over a row of one's own -/
theorem own_fr {w u v : World} {e : TypeId} {sz : Nat} {A : Option Addr} {n c : Nat} {vs : List Value} (f : Fr (fun _ => False) w u) (hr : Row u w.heap.size e sz A n c vs) (g : Fr (fun k => blkOf A = some k) u v) : Fr (fun _ => False) w v :=
  f.trans g (fun _ _ h => h) (fun k hk h' => by have := (hr.blt h').1; omega)
theorem mem_of_at {l : List Int} {i : Nat} {x : Int} (h : l[i]? = some x) : x ∈ l := List.mem_of_getElem? h
theorem take_succ_at {l : List Int} {i : Nat} {x : Int} (h : l[i]? = some x) : l.take (i + 1) = l.take i ++ [x] := by rw [List.take_add_one, h]; rfl
theorem at_lt {l : List Int} {i : Nat} (h : i < l.length) : l[i]? = some (l[i]'h) := List.getElem?_eq_getElem h
/-! ### in, Contains -/
/-! ### Ints: are two rows the same? -/
theorem ints_calls (A : Option Addr) (n c : Nat) (l : List Int) (A' : Option Addr) (n' c' : Nat) (l' : List Int) (w : World) (h : Sl w 1 A n (ivs l)) (h' : Sl w 1 A' n' (ivs l')) (hn : n ≤ 17179869184) :
    Calls Tryz.prog 62 #[.slice A n c, .slice A' n' c'] w fun e w' => e = .returned (.bool (decide (l = l'))) ∧ Fr (fun _ => False) w w' := by
  refine (F62.of A n c A' n' c' w (Q := fun v w' => v = .bool (decide (l = l')) ∧ Fr (fun _ => False) w w') ?_).mono (fun e w' ⟨v, he, hv, h⟩ => ⟨by rw [he, hv], h⟩)
  have hl := sl_n h
  have hl' := sl_n h'
  refine vIf_mk (fun hne => ?_) (fun heq => ?_)
  · have hne : (n : Int) ≠ (n' : Int) := by simpa using hne
    exact ⟨by rw [decide_eq_false (fun h => hne (by rw [← hl, ← hl', h]))], Fr.refl _ _⟩
  have heq : (n : Int) = (n' : Int) := by simpa using heq
  refine jnC_mk (loop_rule (fun s u => Fr (fun _ => False) w u ∧ ∃ i : Nat, i ≤ n ∧ s = ((A, n, c), (A', n', c'), (i : Int), ()) ∧ l.take i = l'.take i) (fun s _ => (n - s.2.2.1).toNat) ?_ _ _ ⟨Fr.refl _ _, 0, by omega, rfl, by simp⟩)
  rintro s u C ⟨hf, i, hi, rfl, hso⟩ hC _
  refine vIf_mk (fun hlt => ?_) (fun hge => ?_)
  · have hlt2 : (i : Int) < (n : Int) := of_decide_eq_true hlt
    have gi := at_lt (l := l) (i := i) (by omega)
    have gi' := at_lt (l := l') (i := i) (by omega)
    have fd : Fr (fun _ => False) u u.drew := Fr.drew _ _
    have hd := ((hf.trans1 fd).sl h (fun _ _ _ h => h))
    have hd' := ((hf.trans1 fd).sl h' (fun _ _ _ h => h))
    refine sl_rd hd (by omega) gi (sl_rd hd' (by omega) gi' ?_)
    refine vIf_mk (fun hx => ?_) (fun hx => jnC_mk (hC _ _ ⟨hf.trans1 fd, i + 1, by omega, by rw [ei i (by omega)], ?_⟩ ?_))
    · have hx : l[i]'(by omega) ≠ l'[i]'(by omega) := by simpa using hx
      refine ⟨by rw [decide_eq_false (fun h => hx (by subst h; rfl))], hf.trans1 fd⟩
    · have hx : l[i]'(by omega) = l'[i]'(by omega) := by simpa using hx
      rw [take_succ_at gi, take_succ_at gi', hso, hx]
    · show ((n : Int) - IntKind.wrap .i64 ((i : Int) + 1)).toNat < ((n : Int) - (i : Int)).toNat
      rw [ei i (by omega)]; omega
  · have hge2 : ¬ (i : Int) < (n : Int) := of_decide_eq_false hge
    rw [List.take_of_length_le (by omega), List.take_of_length_le (by omega)] at hso
    exact ⟨by rw [decide_eq_true hso], hf⟩
end Go.Proofs.YthcclmlbkfadcaaGreat
/- ints: Add, Row, both, as plain functions -/
namespace Go.Proofs.YthcclmlbkfadcaaGreat
open Go.GV Go.RowKit Go.Lib
set_option linter.unusedVariables false
set_option linter.unusedSimpArgs false
/-! ### the plain functions -/
def addS (n : Int) (s : List Int × Bool) (x : Int) : List Int × Bool :=
  if !s.2 && decide (n ≤ x) then ((if n < x then s.1 ++ [n] else s.1) ++ [x], true) else (s.1 ++ [x], s.2)
def addI (l : List Int) (n : Int) : List Int :=
  if (l.foldl (addS n) ([], false)).2 then (l.foldl (addS n) ([], false)).1 else (l.foldl (addS n) ([], false)).1 ++ [n]
def addR (n : Int) : List Int → List Int
  | [] => [n]
  | x :: xs => if n ≤ x then (if n < x then n :: x :: xs else x :: xs) else x :: addR n xs
theorem addS_done (n : Int) : ∀ (l o : List Int), l.foldl (addS n) (o, true) = (o ++ l, true)
  | [], o => by simp
  | x :: xs, o => by
    show xs.foldl (addS n) (addS n (o, true) x) = _
    have : addS n (o, true) x = (o ++ [x], true) := by simp [addS]
    rw [this, addS_done n xs (o ++ [x])]
    simp
theorem addS_fold (n : Int) : ∀ (l o : List Int), (if (l.foldl (addS n) (o, false)).2 then (l.foldl (addS n) (o, false)).1 else (l.foldl (addS n) (o, false)).1 ++ [n]) = o ++ addR n l
  | [], o => by simp [addR]
  | x :: xs, o => by
    show (if (xs.foldl (addS n) (addS n (o, false) x)).2 then (xs.foldl (addS n) (addS n (o, false) x)).1 else (xs.foldl (addS n) (addS n (o, false) x)).1 ++ [n]) = _
    unfold addR
    by_cases h : n ≤ x
    · have e : addS n (o, false) x = ((if n < x then o ++ [n] else o) ++ [x], true) := by simp [addS, h]
      rw [e, addS_done]
      rw [if_pos rfl, if_pos h]
      by_cases h2 : n < x
      · rw [if_pos h2, if_pos h2]; simp
      · rw [if_neg h2, if_neg h2]; simp
    · have e : addS n (o, false) x = (o ++ [x], false) := by simp [addS, h]
      rw [e, addS_fold n xs (o ++ [x]), if_neg h]
      simp
theorem addI_eq (l : List Int) (n : Int) : addI l n = addR n l := addS_fold n l []
theorem addR_mem (n : Int) : ∀ (l : List Int) (y : Int), y ∈ addR n l ↔ y = n ∨ y ∈ l
  | [], y => by simp [addR]
  | x :: xs, y => by
    unfold addR
    by_cases h : n ≤ x
    · rw [if_pos h]
      by_cases h2 : n < x
      · rw [if_pos h2]; simp
      · rw [if_neg h2]
        have : n = x := by omega
        subst this
        simp
    · rw [if_neg h]
      simp only [List.mem_cons, addR_mem n xs y]
      constructor
      · rintro (h1 | h1 | h1)
        · exact .inr (.inl h1)
        · exact .inl h1
        · exact .inr (.inr h1)
      · rintro (h1 | h1 | h1)
        · exact .inr (.inl h1)
        · exact .inl h1
        · exact .inr (.inr h1)
def AscI (l : List Int) : Prop := l.Pairwise (· < ·)
theorem addR_asc (n : Int) : ∀ {l : List Int}, AscI l → AscI (addR n l)
  | [], _ => List.pairwise_singleton _ _
  | x :: xs, h => by
    unfold addR
    have hc := List.pairwise_cons.1 h
    by_cases h1 : n ≤ x
    · rw [if_pos h1]
      by_cases h2 : n < x
      · rw [if_pos h2]
        refine List.pairwise_cons.2 ⟨fun y hy => ?_, h⟩
        rcases List.mem_cons.1 hy with rfl | hy
        · exact h2
        · have := hc.1 y hy; omega
      · rw [if_neg h2]; exact h
    · rw [if_neg h1]
      refine List.pairwise_cons.2 ⟨fun y hy => ?_, addR_asc n hc.2⟩
      rcases (addR_mem n xs y).1 hy with rfl | hy
      · omega
      · exact hc.1 y hy
theorem AscI.unique : ∀ {a b : List Int}, AscI a → AscI b → (∀ x, x ∈ a ↔ x ∈ b) → a = b
  | [], [], _, _, _ => rfl
  | [], y :: ys, _, _, h => absurd ((h y).2 (List.mem_cons_self ..)) (by simp)
  | x :: xs, [], _, _, h => absurd ((h x).1 (List.mem_cons_self ..)) (by simp)
  | x :: xs, y :: ys, ha, hb, h => by
    have ha' := List.pairwise_cons.1 ha
    have hb' := List.pairwise_cons.1 hb
    have hxy : x = y := by
      rcases List.mem_cons.1 ((h x).1 (List.mem_cons_self ..)) with e | e
      · exact e
      · rcases List.mem_cons.1 ((h y).2 (List.mem_cons_self ..)) with e' | e'
        · exact e'.symm
        · have := hb'.1 x e; have := ha'.1 y e'; omega
    subst hxy
    congr 1
    refine AscI.unique ha'.2 hb'.2 (fun z => ?_)
    constructor
    · intro hz
      rcases List.mem_cons.1 ((h z).1 (List.mem_cons_of_mem _ hz)) with e | e
      · subst e; have := ha'.1 z hz; omega
      · exact e
    · intro hz
      rcases List.mem_cons.1 ((h z).2 (List.mem_cons_of_mem _ hz)) with e | e
      · subst e; have := hb'.1 z hz; omega
      · exact e
/-- a row, rising, each once -/
def norm (l : List Int) : List Int := l.foldl addI []
theorem norm_both : ∀ (l : List Int) (acc : List Int), AscI acc → AscI (l.foldl addI acc) ∧ ∀ y, y ∈ l.foldl addI acc ↔ y ∈ acc ∨ y ∈ l
  | [], acc, h => ⟨h, by simp⟩
  | x :: xs, acc, h => by
    obtain ⟨h1, h2⟩ := norm_both xs (addI acc x) (by rw [addI_eq]; exact addR_asc x h)
    refine ⟨h1, fun y => ?_⟩
    show y ∈ xs.foldl addI (addI acc x) ↔ _
    rw [h2, addI_eq, addR_mem, List.mem_cons]
    constructor
    · rintro ((h3 | h3) | h3)
      · exact .inr (.inl h3)
      · exact .inl h3
      · exact .inr (.inr h3)
    · rintro (h3 | h3 | h3)
      · exact .inl (.inr h3)
      · exact .inl (.inl h3)
      · exact .inr h3
theorem norm_asc (l : List Int) : AscI (norm l) := (norm_both l [] List.Pairwise.nil).1
theorem norm_mem (l : List Int) (y : Int) : y ∈ norm l ↔ y ∈ l := by rw [norm, (norm_both l [] List.Pairwise.nil).2]; simp
theorem norm_eq {l r : List Int} (h : AscI r) (hm : ∀ y, y ∈ r ↔ y ∈ l) : r = norm l := h.unique (norm_asc l) (fun y => by rw [hm, norm_mem])
theorem addR_len (n : Int) : ∀ l : List Int, (addR n l).length ≤ l.length + 1
  | [] => by simp [addR]
  | x :: xs => by
    unfold addR
    split
    · split <;> simp
    · have := addR_len n xs; simp; omega
theorem norm_len (l : List Int) : (norm l).length ≤ l.length := by
  have h : ∀ (l acc : List Int), (l.foldl addI acc).length ≤ acc.length + l.length := by
    intro l
    induction l with
    | nil => intro acc; simp
    | cons x xs ih =>
      intro acc
      have h1 := ih (addI acc x)
      have h2 := addR_len x acc
      rw [← addI_eq] at h2
      show (xs.foldl addI (addI acc x)).length ≤ _
      simp; omega
  have := h l []
  simp only [List.length_nil, Nat.zero_add] at this
  exact this
/-! ### Add -/
/-! ### Row -/
/-! ### both -/
def both (a b : List Int) : List Int := norm (a.filter (fun x => decide (x ∈ b)))
end Go.Proofs.YthcclmlbkfadcaaGreat
/- Laid by the shelf's tools (plain mode): slices.Sort at this program's ints lies as the shelf's does. -/
namespace Go.Proofs
open Go.Shelf
def Tryz.sortI_ren : Go.Shelf.Ren := ⟨fun | 189 => 138 | 125 => 153 | 257 => 152 | 128 => 167 | 129 => 168 | 294 => 158 | 295 => 159 | 296 => 160 | 297 => 161 | 298 => 162 | 299 => 163 | 216 => 164 | 300 => 165 | 301 => 166 | 328 => 178 | 329 => 179 | 330 => 180 | 331 => 181 | 332 => 182 | 215 => 94 | 343 => 186 | n => n, fun | 28 => 46 | 3 => 3 | 46 => 161 | 0 => 0 | 51 => 196 | 53 => 25 | 4 => 4 | 183 => 190 | 182 => 189 | 131 => 100 | 5 => 5 | 9 => 9 | 218 => 203 | 222 => 207 | 228 => 211 | 229 => 59 | n => n, fun | n => n⟩
theorem Tryz.sortI : Go.Proofs.Lays.n189 Tryz.prog Tryz.sortI_ren := {
  mixed := by kernel_rfl
  f125 := Tryz.func153.trans (congrArg some (by kernel_rfl))
  f128 := Tryz.func167.trans (congrArg some (by kernel_rfl))
  f129 := Tryz.func168.trans (congrArg some (by kernel_rfl))
  f189 := Tryz.func138.trans (congrArg some (by kernel_rfl))
  f215 := Tryz.func94.trans (congrArg some (by kernel_rfl))
  f216 := Tryz.func164.trans (congrArg some (by kernel_rfl))
  f257 := Tryz.func152.trans (congrArg some (by kernel_rfl))
  f294 := Tryz.func158.trans (congrArg some (by kernel_rfl))
  f295 := Tryz.func159.trans (congrArg some (by kernel_rfl))
  f296 := Tryz.func160.trans (congrArg some (by kernel_rfl))
  f297 := Tryz.func161.trans (congrArg some (by kernel_rfl))
  f298 := Tryz.func162.trans (congrArg some (by kernel_rfl))
  f299 := Tryz.func163.trans (congrArg some (by kernel_rfl))
  f300 := Tryz.func165.trans (congrArg some (by kernel_rfl))
  f301 := Tryz.func166.trans (congrArg some (by kernel_rfl))
  f328 := Tryz.func178.trans (congrArg some (by kernel_rfl))
  f329 := Tryz.func179.trans (congrArg some (by kernel_rfl))
  f330 := Tryz.func180.trans (congrArg some (by kernel_rfl))
  f331 := Tryz.func181.trans (congrArg some (by kernel_rfl))
  f332 := Tryz.func182.trans (congrArg some (by kernel_rfl))
  f343 := Tryz.func186.trans (congrArg some (by kernel_rfl))
  t0 := Tryz.underlying0
  a0 := Tryz.isAgg0
  z0 := Tryz.sizeOf0
  v0 := Tryz.zeroValue0
  t3 := Tryz.underlying3
  a3 := Tryz.isAgg3
  z3 := Tryz.sizeOf3
  v3 := Tryz.zeroValue3
  t4 := Tryz.underlying4
  a4 := Tryz.isAgg4
  z4 := Tryz.sizeOf4
  v4 := Tryz.zeroValue4
  t5 := Tryz.underlying5
  a5 := Tryz.isAgg5
  z5 := Tryz.sizeOf5
  v5 := Tryz.zeroValue5
  t9 := Tryz.underlying9
  a9 := Tryz.isAgg9
  z9 := Tryz.sizeOf9
  v9 := Tryz.zeroValue9
  t28 := Tryz.underlying46
  a28 := Tryz.isAgg46
  z28 := Tryz.sizeOf46
  v28 := Tryz.zeroValue46
  t46 := Tryz.underlying161
  a46 := Tryz.isAgg161
  z46 := Tryz.sizeOf161
  v46 := Tryz.zeroValue161
  t51 := Tryz.underlying196
  a51 := Tryz.isAgg196
  z51 := Tryz.sizeOf196
  v51 := Tryz.zeroValue196
  t53 := Tryz.underlying25
  a53 := Tryz.isAgg25
  z53 := Tryz.sizeOf25
  v53 := Tryz.zeroValue25
  t131 := Tryz.underlying100
  a131 := Tryz.isAgg100
  z131 := Tryz.sizeOf100
  v131 := Tryz.zeroValue100
  t182 := Tryz.underlying189
  a182 := Tryz.isAgg189
  z182 := Tryz.sizeOf189
  v182 := Tryz.zeroValue189
  t183 := Tryz.underlying190
  a183 := Tryz.isAgg190
  z183 := Tryz.sizeOf190
  v183 := Tryz.zeroValue190
  t218 := Tryz.underlying203
  a218 := Tryz.isAgg203
  z218 := Tryz.sizeOf203
  v218 := Tryz.zeroValue203
  t222 := Tryz.underlying207
  a222 := Tryz.isAgg207
  z222 := Tryz.sizeOf207
  v222 := Tryz.zeroValue207
  t228 := Tryz.underlying211
  a228 := Tryz.isAgg211
  z228 := Tryz.sizeOf211
  v228 := Tryz.zeroValue211
  t229 := Tryz.underlying59
  a229 := Tryz.isAgg59
  z229 := Tryz.sizeOf59
  v229 := Tryz.zeroValue59 }
end Go.Proofs
/- ints: Grow, Concat, Sort -/
namespace Go.Proofs.YthcclmlbkfadcaaGreat
open Go.GV Go.RowKit Go.Lib
set_option linter.unusedVariables false
set_option linter.unusedSimpArgs false
theorem grow_calls (m : Nat) (w : World) (hm : m ≤ 1099511627776) :
    Calls Tryz.prog 151 #[.slice none 0 0, .int .i64 m] w fun e w' => Fr (fun _ => False) w w' ∧ ∃ A' c', e = .returned (.slice A' 0 c') ∧ Row w' w.heap.size 3 1 A' 0 c' [] := by
  refine (F151.of none 0 0 m w (Q := fun v w' => Fr (fun _ => False) w w' ∧ ∃ A' c', v = .slice A' 0 c' ∧ Row w' w.heap.size 3 1 A' 0 c' []) ?_).mono (fun e w' ⟨v, he, hf, A', c', hv, h⟩ => ⟨hf, A', c', by rw [he, hv], h⟩)
  refine vIf_f (decide_eq_false (by omega)) (jnC_mk (fun _ => ?_))
  have e0 : IntKind.wrap .i64 ((m : Int) - IntKind.wrap .i64 (((0 : Nat) : Int) - ((0 : Nat) : Int))) = m := by
    rw [i64_id (n := ((0 : Nat) : Int) - ((0 : Nat) : Int)) (by omega) (by omega), i64_id (by omega) (by omega)]; omega
  show vIf (decide (IntKind.wrap .i64 ((m : Int) - IntKind.wrap .i64 (((0 : Nat) : Int) - ((0 : Nat) : Int))) > 0)) _ _
  refine vIf_mk (fun h0 => ?_) (fun h0 => ⟨Fr.refl _ _, none, 0, rfl, Row.nil _ _ _ _⟩)
  refine gd_mk rfl (gd_mk rfl ?_)
  show appZ w 1 8 [Value.int .i64 0] 3 none 0 0 (IntKind.wrap .i64 ((m : Int) - IntKind.wrap .i64 (((0 : Nat) : Int) - ((0 : Nat) : Int)))) _
  refine appZ_row (Row.nil w w.heap.size 3 1) (m := m) (by rw [e0, i64_id (by omega) (by omega)]) (by omega) (by intro v hv; simp only [List.mem_singleton] at hv; subst hv; rfl) rfl (by omega) (by omega) (Nat.le_refl _) ?_
  intro A' c' w2 r2 f2
  refine gd_mk rfl (gd_mk (decide_eq_true (by show ((0 : Nat) : Int) ≤ (c' : Int); omega)) ⟨f2.mono (fun _ _ h => by simp [blkOf] at h), _, c', rfl, ?_⟩)
  have hsl : slA A' c' 0 1 = A' := by
    unfold slA
    split
    · rfl
    · cases A' with
      | none => rfl
      | some a => simp [Addr.add]
  show Row w2 w.heap.size 3 1 (slA A' c' 0 1) 0 c' []
  rw [hsl]
  refine ⟨rfl, Nat.zero_le _, ?_⟩
  rcases r2.at_ with ⟨h1, h2, h3⟩ | ⟨b, cs, h1, h2, h3, h4, h5⟩
  · exact .inl ⟨h1, rfl, h3⟩
  · exact .inr ⟨b, cs, h1, h2, h3, h4, by simp⟩
/-- Concat of rows of ints that stay as they are -/
theorem concat_calls (A : Option Addr) (n c : Nat) (vs : List Value) (ls : List (List Int)) (w : World) (h : Sl w 1 A n vs) (hn : n = ls.length) (hs : ∀ (i : Nat) (l : List Int), ls[i]? = some l → ∃ (B : Option Addr) (m k : Nat), vs[i]? = some (Value.slice B m k) ∧ Sl w 1 B m (ivs l))
    (hm : ls.flatten.length ≤ 1099511627776) (hn2 : n ≤ 1099511627776) :
    Calls Tryz.prog 137 #[.slice A n c] w fun e w' => Fr (fun _ => False) w w' ∧ ∃ A' c', e = .returned (.slice A' ls.flatten.length c') ∧ Row w' w.heap.size 3 1 A' ls.flatten.length c' (ivs ls.flatten) := by
  refine (F137.of A n c w (Q := fun v w' => Fr (fun _ => False) w w' ∧ ∃ A' c', v = .slice A' ls.flatten.length c' ∧ Row w' w.heap.size 3 1 A' ls.flatten.length c' (ivs ls.flatten)) ?_).mono (fun e w' ⟨v, he, hf, A', c', hv, h⟩ => ⟨hf, A', c', by rw [he, hv], h⟩)
  have tk : ∀ i l, ls[i]? = some l → (ls.take (i + 1)).flatten = (ls.take i).flatten ++ l := fun i l hi => by rw [List.take_add_one, hi]; simp
  have le : ∀ i, (ls.take i).flatten.length ≤ ls.flatten.length := fun i => by
    have := congrArg (fun x => x.flatten.length) (List.take_append_drop i ls)
    simp only [List.flatten_append, List.length_append] at this
    omega
  refine jnC_mk ?_
  refine loop_rule (fun s u => u = w ∧ ∃ i : Nat, i ≤ n ∧ s = ((A, n, c), (((ls.take i).flatten.length : Nat) : Int), (A, n, c), (n : Int), (i : Int), ()))
    (fun s _ => (n - s.2.2.2.2.1).toNat) ?_ _ _ ⟨rfl, 0, by omega, rfl⟩
  rintro s u C ⟨rfl, i, hi, rfl⟩ hC _
  refine vIf_mk (fun hlt => ?_) (fun hge => ?_)
  · have hlt2 : (i : Int) < n := of_decide_eq_true hlt
    obtain ⟨l, hl⟩ : ∃ l, ls[i]? = some l := ⟨_, List.getElem?_eq_getElem (by omega)⟩
    obtain ⟨B, m, k, hv, hB⟩ := hs i l hl
    obtain ⟨b, o, hA', hc⟩ := h.get (i := i) (by omega) hv
    subst hA'
    have hml : l.length = m := sl_n hB
    have h1 := le (i + 1)
    rw [tk i l hl, List.length_append] at h1
    have e1 : IntKind.wrap .i64 ((((ls.take i).flatten.length : Nat) : Int) + (m : Int)) = (((ls.take (i + 1)).flatten.length : Nat) : Int) := by
      rw [i64_id (by omega) (by omega), tk i l hl, List.length_append]; omega
    refine dr_mk (gd_mk (decide_eq_true (Int.natCast_nonneg i)) (gd_mk (decide_eq_true hlt2) ⟨B, m, k, hc, vIf_f (decide_eq_false ?_) (jnC_mk (hC _ _ ⟨rfl, i + 1, by omega, ?_⟩ ?_))⟩))
    · show ¬ (IntKind.wrap .i64 ((((ls.take i).flatten.length : Nat) : Int) + (m : Int)) < 0)
      rw [e1]; omega
    · show ((_, n, c), IntKind.wrap .i64 ((((ls.take i).flatten.length : Nat) : Int) + (m : Int)), (_, n, c), (n : Int), IntKind.wrap .i64 ((i : Int) + 1), ()) = _
      rw [e1, i64_id (by omega) (by omega)]; rfl
    · show ((n : Int) - IntKind.wrap .i64 ((i : Int) + 1)).toNat < ((n : Int) - i).toNat
      rw [i64_id (by omega) (by omega)]; omega
  · have hge2 : ¬ ((i : Int) < n) := of_decide_eq_false hge
    have hin : i = ls.length := by omega
    subst hin
    show Calls Tryz.prog 151 #[.slice none 0 0, .int .i64 (((ls.take ls.length).flatten.length : Nat) : Int)] u _
    rw [List.take_length]
    refine (grow_calls _ u hm).mono ?_
    rintro e w1 ⟨f1, R, rc, rfl, r1⟩
    refine ⟨R, 0, rc, rfl, jnC_mk ?_⟩
    refine loop_rule (fun s x => Fr (fun _ => False) u x ∧ ∃ (i : Nat) (R : Option Addr) (rc : Nat), i ≤ n ∧ s = ((R, (ls.take i).flatten.length, rc), (A, n, c), (n : Int), (i : Int), ()) ∧ Row x u.heap.size 3 1 R (ls.take i).flatten.length rc (ivs (ls.take i).flatten))
      (fun s _ => (n - s.2.2.2.1).toNat) ?_ _ _ ⟨f1, 0, R, rc, by omega, rfl, r1⟩
    rintro s x C2 ⟨hf, i, R, rc, hi, rfl, hr⟩ hC2 _
    have hRb : ∀ k, k < u.heap.size → blkOf R = some k → False := fun k hk hb => by have := (hr.blt hb).1; omega
    refine vIf_mk (fun hlt => ?_) (fun hge => ?_)
    · have hlt2 : (i : Int) < n := of_decide_eq_true hlt
      obtain ⟨l, hl⟩ : ∃ l, ls[i]? = some l := ⟨_, List.getElem?_eq_getElem (by omega)⟩
      obtain ⟨B, m, k, hv, hB⟩ := hs i l hl
      obtain ⟨b, o, hA', hc⟩ := (hf.sl h (fun _ _ _ h => h)).get (i := i) (by omega) hv
      subst hA'
      have hml : l.length = m := sl_n hB
      have h1 := le (i + 1)
      rw [tk i l hl, List.length_append] at h1
      refine dr_mk (gd_mk (decide_eq_true (Int.natCast_nonneg i)) (gd_mk (decide_eq_true hlt2) ⟨B, m, k, hc, ?_⟩))
      refine app_row hr (hf.sl hB (fun _ _ _ h => h)).src (ivs_one l) rfl (by show ((ls.take i).flatten.length + m) * 8 ≤ _; omega) (by show (ls.take i).flatten.length + m ≤ _; omega) hf.size ?_
      intro R' rc' w4 r4 f4
      have e2 : (ls.take i).flatten.length + m = (ls.take (i + 1)).flatten.length := by rw [tk i l hl, List.length_append, hml]
      refine jnC_mk (hC2 _ _ ⟨hf.trans f4 (fun _ _ h => h) (fun k hk h => hRb k hk h), i + 1, R', rc', by omega, ?_, ?_⟩ ?_)
      · show ((R', (ls.take i).flatten.length + m, rc'), (_, n, c), (n : Int), IntKind.wrap .i64 ((i : Int) + 1), ()) = _
        rw [i64_id (by omega) (by omega), e2]; rfl
      · rw [← e2, tk i l hl, ivs_app]
        exact r4
      · show ((n : Int) - IntKind.wrap .i64 ((i : Int) + 1)).toNat < ((n : Int) - i).toNat
        rw [i64_id (by omega) (by omega)]; omega
    · have hge2 : ¬ ((i : Int) < n) := of_decide_eq_false hge
      have hin : i = ls.length := by omega
      subst hin
      rw [List.take_length] at hr ⊢
      exact ⟨hf, R, rc, rfl, hr⟩
/-! ### the sort -/
theorem sort_nil (c : Nat) (w : World) : Calls Tryz.prog 138 #[.slice none 0 c] w fun e w' => e = .returned (.tuple #[]) ∧ w' = w :=
  Any.slices_Sort_int_none Tryz.sortI none c w
open Go.Sort in
theorem sort_int (B : Nat) (e : TypeId) (b c : Nat) (l : List Int) (n : Nat) (w : World) (h : Row w B e 1 (some ⟨b, 0, none⟩) n c (ivs l)) (hn : n < 4611686018427387904) :
    Calls Tryz.prog 138 #[.slice (some ⟨b, 0, none⟩) n c] w fun e' w' => e' = .returned (.tuple #[]) ∧ Fr (fun k => k = b) w w' ∧ ∃ r, Row w' B e 1 (some ⟨b, 0, none⟩) n c (ivs r) ∧ r.Perm l ∧ r.Pairwise (· ≤ ·) := by
  have hrl := sl_n h.sl
  have hlen := h.len
  rcases h.at_ with ⟨h', _⟩ | ⟨b', cs, hA, hB, hh, hs, ht⟩
  · cases h'
  injection hA with hA
  injection hA with hA
  subst hA
  have hH : Holds (Value.int .i64) w b 0 l.toArray := by
    intro j hj
    have hj2 : j < l.length := by simpa using hj
    have e1 : l.toArray[j]! = l[j]'hj2 := by
      rw [getElem!_pos l.toArray j hj]; simp
    rw [e1]
    constructor
    · exact cellsAt_take hh ht j _ (ivs_at (at_lt hj2))
    · simp [World.frozen?, hh]
  have hcon := Any.slices_Sort_int Tryz.sortI b 0 c l w hH (heap_lt hh) (by omega)
  rw [hrl] at hcon
  refine Calls.mono hcon ?_
  rintro e' w' ⟨rfl, q, os, rfl⟩
  generalize hd : l.mergeSort (fun x y => decide (x ≤ y)) = d
  have hperm : d.Perm l := by rw [← hd]; exact List.mergeSort_perm _ _
  have hsrt : d.Pairwise (· ≤ ·) := by
    have h1 := List.pairwise_mergeSort (le := fun x y : Int => decide (x ≤ y)) (fun a b c h1 h2 => by simp at *; omega) (fun a b => by simp; omega) l
    rw [hd] at h1
    exact h1.imp (fun h => of_decide_eq_true h)
  have hdl : d.length = n := by rw [hperm.length_eq, hrl]
  have hle := h.le
  have heap : ∀ k, k < w.heap.size → (grow (putRow (Value.int .i64) (Go.Sort.ahead w q) b 0 d.toArray) os).heap[k]? = if k = b then some (.cells (putCells (Value.int .i64) 0 d.toArray cs) e) else w.heap[k]? := by
    intro k hk
    show ((putRow (Value.int .i64) (Go.Sort.ahead w q) b 0 d.toArray).heap ++ os)[k]? = _
    have hsz : k < (putRow (Value.int .i64) (Go.Sort.ahead w q) b 0 d.toArray).heap.size := by
      show k < ((Go.Sort.ahead w q).heap.modify b _).size
      rw [Array.size_modify]; exact hk
    rw [Array.getElem?_append_left hsz]
    show ((Go.Sort.ahead w q).heap.modify b (onCells (putCells (Value.int .i64) 0 d.toArray)))[k]? = _
    rw [Array.getElem?_modify]
    by_cases hkb : k = b
    · subst hkb
      rw [if_pos rfl, if_pos rfl]
      show Option.map _ w.heap[k]? = _
      rw [hh]; rfl
    · rw [if_neg (fun h => hkb h.symm), if_neg hkb]; rfl
  refine ⟨rfl, ⟨rfl, rfl, rfl, ?_, fun k hk hn' => ?_⟩, d, ⟨?_, hle, .inr ⟨b, putCells (Value.int .i64) 0 d.toArray cs, rfl, hB, ?_, ?_, ?_⟩⟩, hperm, hsrt⟩
  · show w.heap.size ≤ ((putRow (Value.int .i64) (Go.Sort.ahead w q) b 0 d.toArray).heap ++ os).size
    have : (putRow (Value.int .i64) (Go.Sort.ahead w q) b 0 d.toArray).heap.size = w.heap.size := by
      show ((Go.Sort.ahead w q).heap.modify b _).size = _
      rw [Array.size_modify]; rfl
    rw [Array.size_append]; omega
  · rw [heap k hk, if_neg hn']
  · rw [ivs_len, hdl]; omega
  · rw [heap b (heap_lt hh), if_pos rfl]
  · simp [putCells, hs]
  · apply List.ext_getElem?
    intro j
    have hcsz : n ≤ cs.size := by rw [hs]; omega
    by_cases hj : j < n
    · rw [List.getElem?_take, if_pos (by omega), Array.getElem?_toList]
      unfold putCells
      rw [Array.getElem?_mapIdx, Array.getElem?_eq_getElem (show j < cs.size by omega), Option.map_some, if_pos ⟨Nat.zero_le _, by simp; omega⟩]
      rw [Nat.sub_zero, getElem!_pos d.toArray j (by simp; omega), ivs_at (at_lt (by omega))]
      simp
    · rw [List.getElem?_take, if_neg (by omega), List.getElem?_eq_none (by rw [ivs_len, hdl]; omega)]
/-! ### writing into a row of ints -/
theorem row_put {w : World} {B : Nat} {e : TypeId} {sz : Nat} {A : Option Addr} {n c : Nat} {vs us : List Value} {o' : Nat} {K : World → Prop} (hr : Row w B e sz A n c vs) (hn : n ≠ 0) (hfit : o' + us.length ≤ n * sz) (h1 : ∀ v ∈ us, v.oneCell' = true)
    (hK : ∀ w', Row w' B e sz A n c (splice vs o' us) → Fr (fun k => blkOf A = some k) w w' → K w') : dr A fun b o => st w b (o + o') us K := by
  rcases hr.at_ with ⟨_, h0, _⟩ | ⟨b, cs, rfl, hB, hh, hs, ht⟩
  · exact absurd h0 hn
  · have hle := hr.le
    have hl := hr.len
    have hmul : n * sz ≤ c * sz := Nat.mul_le_mul_right _ hle
    show st w b (0 + o') us K
    rw [Nat.zero_add]
    have hfit2 : o' + us.length ≤ cs.toList.length := by simp; omega
    refine ⟨⟨cs, e, 0, 0, hh, by simpa using hfit2, .inl (Nat.zero_le _)⟩, h1, hK _ ⟨by rw [splice_length (by omega)]; exact hl, hle, .inr ⟨b, _, rfl, hB, stB_heap hh, ?_, ?_⟩⟩ (Fr.st (fun _ => rfl))⟩
    · simp only [List.size_toArray]; rw [splice_length hfit2]; simpa using hs
    · apply List.ext_getElem?
      intro j
      simp only [List.getElem?_take]
      by_cases hj : j < n * sz
      · rw [if_pos hj, splice_get hfit2, splice_get (by omega), ← ht]
        simp only [List.getElem?_take]
        by_cases h2 : j < o'
        · rw [if_pos h2, if_pos h2, if_pos hj]
        · rw [if_neg h2, if_neg h2]
          split
          · rfl
          · first | rfl | rw [if_pos hj]
      · rw [if_neg hj, List.getElem?_eq_none (by rw [splice_length (by omega)]; omega)]
theorem row_cut {w : World} {B : Nat} {e : TypeId} {sz : Nat} {A : Option Addr} {n c k : Nat} {vs : List Value} (hr : Row w B e sz A n c vs) (hk : k ≤ n) : Row w B e sz A k c (vs.take (k * sz)) := by
  have hl := hr.len
  have hle := hr.le
  have hmul : k * sz ≤ n * sz := Nat.mul_le_mul_right _ hk
  refine ⟨by rw [List.length_take]; omega, by omega, ?_⟩
  rcases hr.at_ with ⟨h1, h2, h3⟩ | ⟨b, cs, h1, h2, h3, h4, h5⟩
  · exact .inl ⟨h1, by omega, h3⟩
  · refine .inr ⟨b, cs, h1, h2, h3, h4, ?_⟩
    rw [← h5, List.take_take, Nat.min_eq_left hmul]
theorem ivs_set {P : List Int} {k : Nat} {x : Int} (hk : k < P.length) : ivs (P.set k x) = splice (ivs P) (k * 1) [.int .i64 x] := by
  have hfit : k * 1 + [Value.int .i64 x].length ≤ (ivs P).length := by rw [ivs_len]; simp; omega
  apply List.ext_getElem?
  intro t
  rw [splice_get hfit]
  simp only [Nat.mul_one, List.length_singleton, ivs, List.map_set]
  by_cases h1 : t < k
  · rw [if_pos h1, List.getElem?_set_ne (by omega)]
  · rw [if_neg h1]
    by_cases h2 : t < k + 1
    · have : t = k := by omega
      subst this
      rw [if_pos h2, List.getElem?_set_self (by simpa using hk)]
      simp
    · rw [if_neg h2, List.getElem?_set_ne (by omega)]
/-- the tail of a row is cleared -/
theorem row_clear {w : World} {B : Nat} {e : TypeId} {b n c k : Nat} {P : List Int} {K : World → Prop} (hr : Row w B e 1 (some ⟨b, 0, none⟩) n c (ivs P)) (hk : k < n)
    (hK : ∀ w', Row w' B e 1 (some ⟨b, 0, none⟩) k c (ivs (P.take k)) → Fr (fun j => j = b) w w' → K w') : dr (slA (some (⟨b, 0, none⟩ : Addr)) c k 1) fun b o => st w b o (zeros (n - k) [Value.int .i64 0]) K := by
  have hle := hr.le
  have hPl := sl_n hr.sl
  have hsk : slA (some (⟨b, 0, none⟩ : Addr)) c k 1 = some ⟨b, 0 + k * 1, none⟩ := by
    unfold slA
    rw [if_neg (by omega), Option.map_some, add_none]
  rw [hsk]
  refine row_put (A := some ⟨b, 0, none⟩) (o' := k * 1) hr (by omega) (by rw [zeros_length]; simp; omega) (fun v hv => ?_) (fun u2 hr2 f2 => hK u2 ?_ (f2.mono (fun j _ hj => by simpa [blkOf] using hj.symm)))
  · simp only [zeros, List.mem_flatten, List.mem_replicate] at hv
    obtain ⟨l, ⟨_, rfl⟩, hv⟩ := hv
    simp at hv; subst hv; rfl
  · have hcut := row_cut hr2 (k := k) (by omega)
    have e : (splice (ivs P) (k * 1) (zeros (n - k) [Value.int .i64 0])).take (k * 1) = ivs (P.take k) := by
      unfold splice
      rw [List.append_assoc, List.take_append_of_le_length (by rw [List.length_take, ivs_len]; omega), List.take_take, Nat.min_self, Nat.mul_one, ivs_take]
    rw [e] at hcut
    exact hcut
theorem slA_zero (b c : Nat) : slA (some (⟨b, 0, none⟩ : Addr)) c 0 1 = some ⟨b, 0, none⟩ := by
  unfold slA
  split
  · rfl
  · simp [Addr.add]
end Go.Proofs.YthcclmlbkfadcaaGreat
