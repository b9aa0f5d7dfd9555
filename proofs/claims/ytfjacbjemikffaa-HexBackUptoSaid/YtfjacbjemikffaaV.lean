/- PRINTED BY MY OWN gen.py out of the translation: each function as a proposition. -/
import Derived.Test.YtfjacbjemikffaaProg
import Derived.Test.YtfjacbjemikffaaG7
namespace Go.Proofs.Ytfjacbjemikffaa
open Go.GV
set_option linter.unusedVariables false
set_option maxRecDepth 100000
theorem noCount : NoCount Try.prog := noCount_of (by kernel_rfl)
theorem mixed : Try.prog.follows .mixedOrders = true := by kernel_rfl
/-! ### function 3: stillage/stillagelaw03.HexTexts -/
def F3.vc (x0A : Option Addr) (x0n x0c : Nat) (w : World) (Q : Value → World → Prop) : Prop :=
  Calls Try.prog 6 #[Value.slice x0A x0n x0c] w fun e2 w1 =>
  ∃ s3 : ByteArray, e2 = .returned (Value.string s3) ∧ (
    Calls Try.prog 7 #[Value.slice x0A x0n x0c] w1 fun e5 w4 =>
    ∃ s6 : ByteArray, e5 = .returned (Value.string s6) ∧ (
      vIf (s3.toList == s6.toList)
      (Calls Try.prog 8 #[] w4 fun e8 w7 =>
        ∃ t9 : Bool, e8 = .returned (Value.bool t9) ∧ (
          Q (Value.bool t9) w7))
      (Q (Value.bool false) w4)))
def F3.an : Ann := ⟨[], []⟩
theorem F3.eq (x0A : Option Addr) (x0n x0c : Nat) (w : World) (Q : Value → World → Prop) : vcFn Try.prog F3.an 3 [Value.slice x0A x0n x0c] w Q = F3.vc x0A x0n x0c w Q := by kernel_rfl
theorem F3.of (x0A : Option Addr) (x0n x0c : Nat) (w : World) {Q : Value → World → Prop} (h : F3.vc x0A x0n x0c w Q) : Calls Try.prog 3 #[Value.slice x0A x0n x0c] w (fun e w' => ∃ v, e = .returned v ∧ Q v w') := vcFn_sound noCount mixed ((F3.eq x0A x0n x0c w Q).symm ▸ h)
/-! ### function 4: stillage/stillagelaw03.HexReads -/
def F4.vc (x0 : ByteArray) (w : World) (Q : Value → World → Prop) : Prop :=
  Calls Try.prog 9 #[Value.string x0] w fun e2 w1 =>
  ∃ (A3 : Option Addr) (n4 c5 : Nat), ∃ i6 : Int, e2 = .returned (Value.tuple #[Value.slice A3 n4 c5, Value.int .i64 i6]) ∧ (
    Calls Try.prog 10 #[Value.string x0] w1 fun e8 w7 =>
    ∃ (A9 : Option Addr) (n10 c11 : Nat), ∃ i12 : Int, e8 = .returned (Value.tuple #[Value.slice A9 n10 c11, Value.int .i64 i12]) ∧ (
      Calls Try.prog 11 #[Value.slice A3 n4 c5, Value.slice A9 n10 c11] w7 fun e14 w13 =>
      ∃ t15 : Bool, e14 = .returned (Value.bool t15) ∧ (
        vIf t15
        (vIf (i6 == i12)
          (Calls Try.prog 8 #[] w13 fun e17 w16 =>
            ∃ t18 : Bool, e17 = .returned (Value.bool t18) ∧ (
              Q (Value.bool t18) w16))
          (Q (Value.bool false) w13))
        (Q (Value.bool false) w13))))
def F4.an : Ann := ⟨[], []⟩
theorem F4.eq (x0 : ByteArray) (w : World) (Q : Value → World → Prop) : vcFn Try.prog F4.an 4 [Value.string x0] w Q = F4.vc x0 w Q := by kernel_rfl
theorem F4.of (x0 : ByteArray) (w : World) {Q : Value → World → Prop} (h : F4.vc x0 w Q) : Calls Try.prog 4 #[Value.string x0] w (fun e w' => ∃ v, e = .returned v ∧ Q v w') := vcFn_sound noCount mixed ((F4.eq x0 w Q).symm ▸ h)
/-! ### function 5: stillage/stillagelaw03.HexBack -/
def F5.vc (x0A : Option Addr) (x0n x0c : Nat) (x1 : ByteArray) (w : World) (Q : Value → World → Prop) : Prop :=
  Calls Try.prog 6 #[Value.slice x0A x0n x0c] w fun e2 w1 =>
  ∃ s3 : ByteArray, e2 = .returned (Value.string s3) ∧ (
    Calls Try.prog 9 #[Value.string s3] w1 fun e5 w4 =>
    ∃ (A6 : Option Addr) (n7 c8 : Nat), ∃ i9 : Int, e5 = .returned (Value.tuple #[Value.slice A6 n7 c8, Value.int .i64 i9]) ∧ (
      Calls Try.prog 9 #[Value.string x1] w4 fun e11 w10 =>
      ∃ (A12 : Option Addr) (n13 c14 : Nat), ∃ i15 : Int, e11 = .returned (Value.tuple #[Value.slice A12 n13 c14, Value.int .i64 i15]) ∧ (
        vIf (i9 == 0)
        (Calls Try.prog 11 #[Value.slice x0A x0n x0c, Value.slice A6 n7 c8] w10 fun e17 w16 =>
          ∃ t18 : Bool, e17 = .returned (Value.bool t18) ∧ (
            vIf t18
            (vIf (i15 != 0)
              (vIf (((n13 : Nat) : Int) == 0)
                (Calls Try.prog 8 #[] w16 fun e20 w19 =>
                  ∃ t21 : Bool, e20 = .returned (Value.bool t21) ∧ (
                    Q (Value.bool t21) w19))
                (vIf (i15 == 0)
                  (Calls Try.prog 6 #[Value.slice A12 n13 c14] w16 fun e23 w22 =>
                    ∃ s24 : ByteArray, e23 = .returned (Value.string s24) ∧ (
                      vIf (s24.toList == x1.toList)
                      (Calls Try.prog 8 #[] w22 fun e26 w25 =>
                        ∃ t27 : Bool, e26 = .returned (Value.bool t27) ∧ (
                          Q (Value.bool t27) w25))
                      (Q (Value.bool false) w22)))
                  (Q (Value.bool false) w16)))
              (vIf (i15 == 0)
                (Calls Try.prog 6 #[Value.slice A12 n13 c14] w16 fun e29 w28 =>
                  ∃ s30 : ByteArray, e29 = .returned (Value.string s30) ∧ (
                    vIf (s30.toList == x1.toList)
                    (Calls Try.prog 8 #[] w28 fun e32 w31 =>
                      ∃ t33 : Bool, e32 = .returned (Value.bool t33) ∧ (
                        Q (Value.bool t33) w31))
                    (Q (Value.bool false) w28)))
                (Q (Value.bool false) w16)))
            (Q (Value.bool false) w16)))
        (Q (Value.bool false) w10))))
def F5.an : Ann := ⟨[], []⟩
theorem F5.eq (x0A : Option Addr) (x0n x0c : Nat) (x1 : ByteArray) (w : World) (Q : Value → World → Prop) : vcFn Try.prog F5.an 5 [Value.slice x0A x0n x0c, Value.string x1] w Q = F5.vc x0A x0n x0c x1 w Q := by kernel_rfl
theorem F5.of (x0A : Option Addr) (x0n x0c : Nat) (x1 : ByteArray) (w : World) {Q : Value → World → Prop} (h : F5.vc x0A x0n x0c x1 w Q) : Calls Try.prog 5 #[Value.slice x0A x0n x0c, Value.string x1] w (fun e w' => ∃ v, e = .returned v ∧ Q v w') := vcFn_sound noCount mixed ((F5.eq x0A x0n x0c x1 w Q).symm ▸ h)
/-! ### function 6: stillage/hex.Text -/
def F6.b3c (Q : Value → World → Prop) (C3 : ((Nat × Nat) × (Option Addr × Nat × Nat) × Int × Int × Unit) → World → Prop) (x3 : (Nat × Nat)) (x6 : (Option Addr × Nat × Nat)) (x7 : Int) (x8 : Int) (w : World) : Prop :=
  vIf (decide (x8 < x7))
  (dr x6.1 fun b3 o4 =>
    gd (decide (0 ≤ x8)) <|
    gd (decide (x8 < ((x6.2.1 : Nat) : Int))) <|
    ldI .u8 w b3 (o4 + (x8).toNat * 1) fun i5 =>
    gd (decide (0 ≤ (Int.fdiv i5 (2 ^ 4)))) <|
    gd (decide ((Int.fdiv i5 (2 ^ 4)) < ((⟨#[48, 49, 50, 51, 52, 53, 54, 55, 56, 57, 97, 98, 99, 100, 101, 102]⟩ : ByteArray).size : Int))) <|
    Calls Try.prog 12 #[Value.pointer (some ⟨x3.1, x3.2, none⟩), Value.int .u8 (byteAt (⟨#[48, 49, 50, 51, 52, 53, 54, 55, 56, 57, 97, 98, 99, 100, 101, 102]⟩ : ByteArray) ((Int.fdiv i5 (2 ^ 4))).toNat)] w fun e7 w6 =>
    ∃ v8 : Value, e7 = .returned (v8) ∧ (
      gd (decide (0 ≤ (iAnd .u8 i5 15))) <|
      gd (decide ((iAnd .u8 i5 15) < ((⟨#[48, 49, 50, 51, 52, 53, 54, 55, 56, 57, 97, 98, 99, 100, 101, 102]⟩ : ByteArray).size : Int))) <|
      Calls Try.prog 12 #[Value.pointer (some ⟨x3.1, x3.2, none⟩), Value.int .u8 (byteAt (⟨#[48, 49, 50, 51, 52, 53, 54, 55, 56, 57, 97, 98, 99, 100, 101, 102]⟩ : ByteArray) ((iAnd .u8 i5 15)).toNat)] w6 fun e10 w9 =>
      ∃ v11 : Value, e10 = .returned (v11) ∧ (
        jnC C3 ((x3.1, x3.2), (x6.1, x6.2.1, x6.2.2), (x7), ((IntKind.wrap .i64 (x8 + 1))), ()) w9)))
  (Calls Try.prog 13 #[Value.pointer (some ⟨x3.1, x3.2, none⟩)] w fun e13 w12 =>
    ∃ s14 : ByteArray, e13 = .returned (Value.string s14) ∧ (
      Q (Value.string s14) w12))
def F6.b3 (Q : Value → World → Prop) : ((Nat × Nat) × (Option Addr × Nat × Nat) × Int × Int × Unit) → World → (((Nat × Nat) × (Option Addr × Nat × Nat) × Int × Int × Unit) → World → Prop) → Prop := fun s w C3 => ∀ _ : Nat → Value, F6.b3c Q C3 s.1 s.2.1 s.2.2.1 s.2.2.2.1 w
def F6.l3 (Q : Value → World → Prop) : ((Nat × Nat) × (Option Addr × Nat × Nat) × Int × Int × Unit) → World → Prop := fun s w => ∃ n, loopC (F6.b3 Q) n s w
def F6.vc (x0A : Option Addr) (x0n x0c : Nat) (w : World) (Q : Value → World → Prop) : Prop :=
  nw w [Value.pointer none, Value.slice none 0 0] 36 fun b1 w2 =>
  jnC (F6.l3 Q) ((b1, 0), (x0A, x0n, x0c), (((x0n : Nat) : Int)), (0), ()) w2
def F6.an : Ann := ⟨[(3, [(3, .kL), (6, .kSl), (7, .kI .i64), (8, .kI .i64)])], []⟩
theorem F6.eq (x0A : Option Addr) (x0n x0c : Nat) (w : World) (Q : Value → World → Prop) : vcFn Try.prog F6.an 6 [Value.slice x0A x0n x0c] w Q = F6.vc x0A x0n x0c w Q := by kernel_rfl
theorem F6.of (x0A : Option Addr) (x0n x0c : Nat) (w : World) {Q : Value → World → Prop} (h : F6.vc x0A x0n x0c w Q) : Calls Try.prog 6 #[Value.slice x0A x0n x0c] w (fun e w' => ∃ v, e = .returned v ∧ Q v w') := vcFn_sound noCount mixed ((F6.eq x0A x0n x0c w Q).symm ▸ h)
/-! ### function 7: stillage/stillageref03.Text -/
def F7.b3c (Q : Value → World → Prop) (C3 : ((Option Addr × Nat × Nat) × (Option Addr × Nat × Nat) × Int × Unit) → World → Prop) (x0 : (Option Addr × Nat × Nat)) (x3 : (Option Addr × Nat × Nat)) (x4 : Int) (w : World) : Prop :=
  vIf (decide (x4 < ((x0.2.1 : Nat) : Int)))
  (dr x0.1 fun b1 o2 =>
    gd (decide (0 ≤ x4)) <|
    gd (decide (x4 < ((x0.2.1 : Nat) : Int))) <|
    ldI .u8 w.drew b1 (o2 + (x4).toNat * 1) fun i3 =>
    dr x0.1 fun b4 o5 =>
    gd (decide (0 ≤ x4)) <|
    gd (decide (x4 < ((x0.2.1 : Nat) : Int))) <|
    ldI .u8 w.drew b4 (o5 + (x4).toNat * 1) fun i6 =>
    Calls Try.prog 14 #[Value.int .u8 (IntKind.wrap .u8 (Int.tdiv i3 16))] w.drew fun e8 w7 =>
    ∃ i9 : Int, e8 = .returned (Value.int .u8 i9) ∧ (
      kp w.drew b4 (o5 + (x4).toNat * 1) 1 w7 <|
      Calls Try.prog 14 #[Value.int .u8 (Int.tmod i6 16)] w7 fun e11 w10 =>
      ∃ i12 : Int, e11 = .returned (Value.int .u8 i12) ∧ (
        nw w10 ([Value.int .u8 i9] ++ ([Value.int .u8 i12] ++ [])) 5 fun b13 w14 =>
        app w14 1 1 [Value.int .u8 0] 5 x3.1 x3.2.1 x3.2.2 (Value.slice (some ⟨b13, 0, none⟩) 2 2) fun A15 n16 c17 w18 =>
        jnC C3 ((x0.1, x0.2.1, x0.2.2), (A15, n16, c17), ((IntKind.wrap .i64 (x4 + 1))), ()) w18)))
  (b2s w x3.1 x3.2.1 fun s19 =>
    Q (Value.string s19) w)
def F7.b3 (Q : Value → World → Prop) : ((Option Addr × Nat × Nat) × (Option Addr × Nat × Nat) × Int × Unit) → World → (((Option Addr × Nat × Nat) × (Option Addr × Nat × Nat) × Int × Unit) → World → Prop) → Prop := fun s w C3 => ∀ _ : Nat → Value, F7.b3c Q C3 s.1 s.2.1 s.2.2.1 w
def F7.l3 (Q : Value → World → Prop) : ((Option Addr × Nat × Nat) × (Option Addr × Nat × Nat) × Int × Unit) → World → Prop := fun s w => ∃ n, loopC (F7.b3 Q) n s w
def F7.vc (x0A : Option Addr) (x0n x0c : Nat) (w : World) (Q : Value → World → Prop) : Prop :=
  jnC (F7.l3 Q) ((x0A, x0n, x0c), (none, 0, 0), (0), ()) w
def F7.an : Ann := ⟨[(3, [(0, .kSl), (3, .kSl), (4, .kI .i64)])], []⟩
theorem F7.eq (x0A : Option Addr) (x0n x0c : Nat) (w : World) (Q : Value → World → Prop) : vcFn Try.prog F7.an 7 [Value.slice x0A x0n x0c] w Q = F7.vc x0A x0n x0c w Q := by kernel_rfl
theorem F7.of (x0A : Option Addr) (x0n x0c : Nat) (w : World) {Q : Value → World → Prop} (h : F7.vc x0A x0n x0c w Q) : Calls Try.prog 7 #[Value.slice x0A x0n x0c] w (fun e w' => ∃ v, e = .returned v ∧ Q v w') := vcFn_sound noCount mixed ((F7.eq x0A x0n x0c w Q).symm ▸ h)
/-! ### function 8: stillage/stillagelaw03.lives -/
def F8.vc  (w : World) (Q : Value → World → Prop) : Prop :=
  Calls Try.prog 9 #[Value.string (⟨#[48, 48, 97, 98]⟩ : ByteArray)] w fun e2 w1 =>
  ∃ (A3 : Option Addr) (n4 c5 : Nat), ∃ i6 : Int, e2 = .returned (Value.tuple #[Value.slice A3 n4 c5, Value.int .i64 i6]) ∧ (
    nw w1 ([Value.int .u8 0] ++ ([Value.int .u8 171] ++ [])) 5 fun b7 w8 =>
    Calls Try.prog 6 #[Value.slice (some ⟨b7, 0, none⟩) 2 2] w8 fun e10 w9 =>
    ∃ s11 : ByteArray, e10 = .returned (Value.string s11) ∧ (
      vIf (s11.toList == (⟨#[48, 48, 97, 98]⟩ : ByteArray).toList)
      (vIf (i6 == 0)
        (nw w9 ([Value.int .u8 0] ++ ([Value.int .u8 171] ++ [])) 5 fun b12 w13 =>
          Calls Try.prog 11 #[Value.slice A3 n4 c5, Value.slice (some ⟨b12, 0, none⟩) 2 2] w13 fun e15 w14 =>
          ∃ t16 : Bool, e15 = .returned (Value.bool t16) ∧ (
            Q (Value.bool t16) w14))
        (Q (Value.bool false) w9))
      (Q (Value.bool false) w9)))
def F8.an : Ann := ⟨[], []⟩
theorem F8.eq  (w : World) (Q : Value → World → Prop) : vcFn Try.prog F8.an 8 [] w Q = F8.vc  w Q := by kernel_rfl
theorem F8.of  (w : World) {Q : Value → World → Prop} (h : F8.vc  w Q) : Calls Try.prog 8 #[] w (fun e w' => ∃ v, e = .returned v ∧ Q v w') := vcFn_sound noCount mixed ((F8.eq  w Q).symm ▸ h)
/-! ### function 9: stillage/hex.Read -/
def F9.k12c (Q : Value → World → Prop) (x4 : (Option Addr × Nat × Nat)) (x6 : Bool) (w : World) : Prop :=
  vIf x6
  (Q (Value.tuple #[Value.slice none 0 0, Value.int .i64 3]) w)
  (Q (Value.tuple #[Value.slice x4.1 x4.2.1 x4.2.2, Value.int .i64 0]) w)
def F9.k12 (Q : Value → World → Prop) : ((Option Addr × Nat × Nat) × Bool × Unit) → World → Prop := fun s w => ∀ _ : Nat → Value, F9.k12c Q s.1 s.2.1 w
def F9.b4c (Q : Value → World → Prop) (C4 : ((Option Addr × Nat × Nat) × Int × Bool × (Nat × Nat) × Unit) → World → Prop) (x4 : (Option Addr × Nat × Nat)) (x5 : Int) (x6 : Bool) (x16 : (Nat × Nat)) (w : World) : Prop :=
  gd (Nat.beq x16.2 0 && true) <|
  nxt w x16.1
  (fun i5 i6 w7 =>
    Calls Try.prog 15 #[Value.int .i32 i6] w7 fun e9 w8 =>
    ∃ i10 : Int, ∃ t11 : Bool, e9 = .returned (Value.tuple #[Value.int .u8 i10, Value.bool t11]) ∧ (
      vIf (!t11)
      (Q (Value.tuple #[Value.slice none 0 0, Value.int .i64 3]) w8)
      (vIf x6
        (nw w8 ([Value.int .u8 (iOr .u8 (IntKind.wrap .u8 (x5 * 2 ^ 4)) i10)] ++ []) 5 fun b12 w13 =>
          app w13 1 1 [Value.int .u8 0] 5 x4.1 x4.2.1 x4.2.2 (Value.slice (some ⟨b12, 0, none⟩) 1 1) fun A14 n15 c16 w17 =>
          jnC C4 ((A14, n15, c16), (i10), (!x6), (x16.1, x16.2), ()) w17)
        (jnC C4 ((x4.1, x4.2.1, x4.2.2), (i10), (!x6), (x16.1, x16.2), ()) w8))))
  (jnC (F9.k12 Q) ((x4.1, x4.2.1, x4.2.2), x6, ()) w)
def F9.b4 (Q : Value → World → Prop) : ((Option Addr × Nat × Nat) × Int × Bool × (Nat × Nat) × Unit) → World → (((Option Addr × Nat × Nat) × Int × Bool × (Nat × Nat) × Unit) → World → Prop) → Prop := fun s w C4 => ∀ _ : Nat → Value, F9.b4c Q C4 s.1 s.2.1 s.2.2.1 s.2.2.2.1 w
def F9.l4 (Q : Value → World → Prop) : ((Option Addr × Nat × Nat) × Int × Bool × (Nat × Nat) × Unit) → World → Prop := fun s w => ∃ n, loopC (F9.b4 Q) n s w
def F9.vc (x0 : ByteArray) (w : World) (Q : Value → World → Prop) : Prop :=
  gd (decide ((0 : Int) ≤ (IntKind.wrap .i64 (Int.tdiv (x0.size : Int) 2)))) <|
  gd (decide ((IntKind.wrap .i64 (Int.tdiv (x0.size : Int) 2)) * 1 ≤ 281474976710656 ∧ (IntKind.wrap .i64 (Int.tdiv (x0.size : Int) 2)) ≤ 9223372036854775807)) <|
  nw w (zeros ((IntKind.wrap .i64 (Int.tdiv (x0.size : Int) 2))).toNat [Value.int .u8 0]) 5 fun b1 w2 =>
  itr w2 x0 fun b3 w4 =>
  jnC (F9.l4 Q) (((some ⟨b1, 0, none⟩), 0, ((IntKind.wrap .i64 (Int.tdiv (x0.size : Int) 2))).toNat), (0), false, (b3, 0), ()) w4
def F9.an : Ann := ⟨[(4, [(4, .kSl), (5, .kI .u8), (6, .kB), (16, .kL)])], [(12, [(4, .kSl), (6, .kB)])]⟩
theorem F9.eq (x0 : ByteArray) (w : World) (Q : Value → World → Prop) : vcFn Try.prog F9.an 9 [Value.string x0] w Q = F9.vc x0 w Q := by kernel_rfl
theorem F9.of (x0 : ByteArray) (w : World) {Q : Value → World → Prop} (h : F9.vc x0 w Q) : Calls Try.prog 9 #[Value.string x0] w (fun e w' => ∃ v, e = .returned v ∧ Q v w') := vcFn_sound noCount mixed ((F9.eq x0 w Q).symm ▸ h)
/-! ### function 10: stillage/stillageref03.Read -/
def F10.k10c (Q : Value → World → Prop) (C5 : (ByteArray × (Option Addr × Nat × Nat) × Int × Unit) → World → Prop) (x0 : ByteArray) (x4 : (Option Addr × Nat × Nat)) (x5 : Int) (x6 : Int) (x7 : Int) (w : World) : Prop :=
  nw w ([Value.int .u8 (IntKind.wrap .u8 ((IntKind.wrap .u8 (x6 * 16)) + x7))] ++ []) 5 fun b7 w8 =>
  app w8 1 1 [Value.int .u8 0] 5 x4.1 x4.2.1 x4.2.2 (Value.slice (some ⟨b7, 0, none⟩) 1 1) fun A9 n10 c11 w12 =>
  jnC C5 (x0, (A9, n10, c11), ((IntKind.wrap .i64 (x5 + 2))), ()) w12
def F10.k10 (Q : Value → World → Prop) (C5 : (ByteArray × (Option Addr × Nat × Nat) × Int × Unit) → World → Prop) : (ByteArray × (Option Addr × Nat × Nat) × Int × Int × Int × Unit) → World → Prop := fun s w => ∀ _ : Nat → Value, F10.k10c Q C5 s.1 s.2.1 s.2.2.1 s.2.2.2.1 s.2.2.2.2.1 w
def F10.b5c (Q : Value → World → Prop) (C5 : (ByteArray × (Option Addr × Nat × Nat) × Int × Unit) → World → Prop) (x0 : ByteArray) (x4 : (Option Addr × Nat × Nat)) (x5 : Int) (w : World) : Prop :=
  vIf (decide ((IntKind.wrap .i64 (x5 + 1)) < (x0.size : Int)))
  (gd (decide (0 ≤ x5)) <|
    gd (decide (x5 < (x0.size : Int))) <|
    gd (decide (0 ≤ (IntKind.wrap .i64 (x5 + 1)))) <|
    gd (decide ((IntKind.wrap .i64 (x5 + 1)) < (x0.size : Int))) <|
    Calls Try.prog 16 #[Value.int .u8 (byteAt x0 (x5).toNat)] w.drew fun e2 w1 =>
    ∃ i3 : Int, e2 = .returned (Value.int .u8 i3) ∧ (
      Calls Try.prog 16 #[Value.int .u8 (byteAt x0 ((IntKind.wrap .i64 (x5 + 1))).toNat)] w1 fun e5 w4 =>
      ∃ i6 : Int, e5 = .returned (Value.int .u8 i6) ∧ (
        vIf (decide (i3 > 15))
        (Q (Value.tuple #[Value.slice none 0 0, Value.int .i64 3]) w4)
        (vIf (decide (i6 > 15))
          (Q (Value.tuple #[Value.slice none 0 0, Value.int .i64 3]) w4)
          (jnC (F10.k10 Q C5) (x0, (x4.1, x4.2.1, x4.2.2), (x5), (i3), (i6), ()) w4)))))
  (Q (Value.tuple #[Value.slice x4.1 x4.2.1 x4.2.2, Value.int .i64 0]) w)
def F10.b5 (Q : Value → World → Prop) : (ByteArray × (Option Addr × Nat × Nat) × Int × Unit) → World → ((ByteArray × (Option Addr × Nat × Nat) × Int × Unit) → World → Prop) → Prop := fun s w C5 => ∀ _ : Nat → Value, F10.b5c Q C5 s.1 s.2.1 s.2.2.1 w
def F10.l5 (Q : Value → World → Prop) : (ByteArray × (Option Addr × Nat × Nat) × Int × Unit) → World → Prop := fun s w => ∃ n, loopC (F10.b5 Q) n s w
def F10.vc (x0 : ByteArray) (w : World) (Q : Value → World → Prop) : Prop :=
  vIf ((Int.tmod (x0.size : Int) 2) == 1)
  (Q (Value.tuple #[Value.slice none 0 0, Value.int .i64 3]) w)
  (jnC (F10.l5 Q) (x0, (none, 0, 0), (0), ()) w)
def F10.an : Ann := ⟨[(5, [(0, .kS), (4, .kSl), (5, .kI .i64)])], [(10, [(0, .kS), (4, .kSl), (5, .kI .i64), (6, .kI .u8), (7, .kI .u8)])]⟩
theorem F10.eq (x0 : ByteArray) (w : World) (Q : Value → World → Prop) : vcFn Try.prog F10.an 10 [Value.string x0] w Q = F10.vc x0 w Q := by kernel_rfl
theorem F10.of (x0 : ByteArray) (w : World) {Q : Value → World → Prop} (h : F10.vc x0 w Q) : Calls Try.prog 10 #[Value.string x0] w (fun e w' => ∃ v, e = .returned v ∧ Q v w') := vcFn_sound noCount mixed ((F10.eq x0 w Q).symm ▸ h)
/-! ### function 11: stillage/stillageref01.Same -/
def F11.b4c (Q : Value → World → Prop) (C4 : ((Option Addr × Nat × Nat) × (Option Addr × Nat × Nat) × Int × Unit) → World → Prop) (x0 : (Option Addr × Nat × Nat)) (x1 : (Option Addr × Nat × Nat)) (x5 : Int) (w : World) : Prop :=
  vIf (decide (x5 < ((x0.2.1 : Nat) : Int)))
  (dr x0.1 fun b1 o2 =>
    gd (decide (0 ≤ x5)) <|
    gd (decide (x5 < ((x0.2.1 : Nat) : Int))) <|
    ldI .u8 w.drew b1 (o2 + (x5).toNat * 1) fun i3 =>
    dr x1.1 fun b4 o5 =>
    gd (decide (0 ≤ x5)) <|
    gd (decide (x5 < ((x1.2.1 : Nat) : Int))) <|
    ldI .u8 w.drew b4 (o5 + (x5).toNat * 1) fun i6 =>
    vIf (i3 != i6)
    (Q (Value.bool false) w.drew)
    (jnC C4 ((x0.1, x0.2.1, x0.2.2), (x1.1, x1.2.1, x1.2.2), ((IntKind.wrap .i64 (x5 + 1))), ()) w.drew))
  (Q (Value.bool true) w)
def F11.b4 (Q : Value → World → Prop) : ((Option Addr × Nat × Nat) × (Option Addr × Nat × Nat) × Int × Unit) → World → (((Option Addr × Nat × Nat) × (Option Addr × Nat × Nat) × Int × Unit) → World → Prop) → Prop := fun s w C4 => ∀ _ : Nat → Value, F11.b4c Q C4 s.1 s.2.1 s.2.2.1 w
def F11.l4 (Q : Value → World → Prop) : ((Option Addr × Nat × Nat) × (Option Addr × Nat × Nat) × Int × Unit) → World → Prop := fun s w => ∃ n, loopC (F11.b4 Q) n s w
def F11.vc (x0A : Option Addr) (x0n x0c : Nat) (x1A : Option Addr) (x1n x1c : Nat) (w : World) (Q : Value → World → Prop) : Prop :=
  vIf (((x0n : Nat) : Int) != ((x1n : Nat) : Int))
  (Q (Value.bool false) w)
  (jnC (F11.l4 Q) ((x0A, x0n, x0c), (x1A, x1n, x1c), (0), ()) w)
def F11.an : Ann := ⟨[(4, [(0, .kSl), (1, .kSl), (5, .kI .i64)])], []⟩
theorem F11.eq (x0A : Option Addr) (x0n x0c : Nat) (x1A : Option Addr) (x1n x1c : Nat) (w : World) (Q : Value → World → Prop) : vcFn Try.prog F11.an 11 [Value.slice x0A x0n x0c, Value.slice x1A x1n x1c] w Q = F11.vc x0A x0n x0c x1A x1n x1c w Q := by kernel_rfl
theorem F11.of (x0A : Option Addr) (x0n x0c : Nat) (x1A : Option Addr) (x1n x1c : Nat) (w : World) {Q : Value → World → Prop} (h : F11.vc x0A x0n x0c x1A x1n x1c w Q) : Calls Try.prog 11 #[Value.slice x0A x0n x0c, Value.slice x1A x1n x1c] w (fun e w' => ∃ v, e = .returned v ∧ Q v w') := vcFn_sound noCount mixed ((F11.eq x0A x0n x0c x1A x1n x1c w Q).symm ▸ h)
/-! ### function 12: (*strings.Builder).WriteByte -/
def F12.vc (x0 : Option Addr) (x1 : Int) (w : World) (Q : Value → World → Prop) : Prop :=
  Calls Try.prog 17 #[Value.pointer x0] w fun e2 w1 =>
  e2 = .returned (Value.tuple #[]) ∧ (
    dr x0 fun b3 o4 =>
    ldSl w1 b3 (o4 + 1) fun A5 n6 c7 =>
    nw w1 ([Value.int .u8 x1] ++ []) 5 fun b8 w9 =>
    app w9 1 1 [Value.int .u8 0] 5 A5 n6 c7 (Value.slice (some ⟨b8, 0, none⟩) 1 1) fun A10 n11 c12 w13 =>
    dr x0 fun b14 o15 =>
    st w13 b14 (o15 + 1) [Value.slice A10 n11 c12] fun w16 =>
    Q (Value.nilIface) w16)
def F12.an : Ann := ⟨[], []⟩
theorem F12.eq (x0 : Option Addr) (x1 : Int) (w : World) (Q : Value → World → Prop) : vcFn Try.prog F12.an 12 [Value.pointer x0, Value.int .u8 x1] w Q = F12.vc x0 x1 w Q := by kernel_rfl
theorem F12.of (x0 : Option Addr) (x1 : Int) (w : World) {Q : Value → World → Prop} (h : F12.vc x0 x1 w Q) : Calls Try.prog 12 #[Value.pointer x0, Value.int .u8 x1] w (fun e w' => ∃ v, e = .returned v ∧ Q v w') := vcFn_sound noCount mixed ((F12.eq x0 x1 w Q).symm ▸ h)
/-! ### function 14: stillage/stillageref03.figure -/
def F14.vc (x0 : Int) (w : World) (Q : Value → World → Prop) : Prop :=
  vIf (decide (x0 < 10))
  (Q (Value.int .u8 (IntKind.wrap .u8 (48 + x0))) w)
  (Q (Value.int .u8 (IntKind.wrap .u8 ((IntKind.wrap .u8 (97 + x0)) - 10))) w)
def F14.an : Ann := ⟨[], []⟩
theorem F14.eq (x0 : Int) (w : World) (Q : Value → World → Prop) : vcFn Try.prog F14.an 14 [Value.int .u8 x0] w Q = F14.vc x0 w Q := by kernel_rfl
theorem F14.of (x0 : Int) (w : World) {Q : Value → World → Prop} (h : F14.vc x0 w Q) : Calls Try.prog 14 #[Value.int .u8 x0] w (fun e w' => ∃ v, e = .returned v ∧ Q v w') := vcFn_sound noCount mixed ((F14.eq x0 w Q).symm ▸ h)
/-! ### function 15: stillage/hex.figure -/
def F15.b2c (Q : Value → World → Prop) (C2 : (Int × (Nat × Nat) × Unit) → World → Prop) (x0 : Int) (x6 : (Nat × Nat)) (w : World) : Prop :=
  gd (Nat.beq x6.2 0 && true) <|
  nxt w x6.1
  (fun i3 i4 w5 =>
    vIf (i4 == x0)
    (Q (Value.tuple #[Value.int .u8 (IntKind.wrap .u8 i3), Value.bool true]) w5)
    (jnC C2 ((x0), (x6.1, x6.2), ()) w5))
  (Q (Value.tuple #[Value.int .u8 0, Value.bool false]) w)
def F15.b2 (Q : Value → World → Prop) : (Int × (Nat × Nat) × Unit) → World → ((Int × (Nat × Nat) × Unit) → World → Prop) → Prop := fun s w C2 => ∀ _ : Nat → Value, F15.b2c Q C2 s.1 s.2.1 w
def F15.l2 (Q : Value → World → Prop) : (Int × (Nat × Nat) × Unit) → World → Prop := fun s w => ∃ n, loopC (F15.b2 Q) n s w
def F15.vc (x0 : Int) (w : World) (Q : Value → World → Prop) : Prop :=
  itr w (⟨#[48, 49, 50, 51, 52, 53, 54, 55, 56, 57, 97, 98, 99, 100, 101, 102]⟩ : ByteArray) fun b1 w2 =>
  jnC (F15.l2 Q) ((x0), (b1, 0), ()) w2
def F15.an : Ann := ⟨[(2, [(0, .kI .i32), (6, .kL)])], []⟩
theorem F15.eq (x0 : Int) (w : World) (Q : Value → World → Prop) : vcFn Try.prog F15.an 15 [Value.int .i32 x0] w Q = F15.vc x0 w Q := by kernel_rfl
theorem F15.of (x0 : Int) (w : World) {Q : Value → World → Prop} (h : F15.vc x0 w Q) : Calls Try.prog 15 #[Value.int .i32 x0] w (fun e w' => ∃ v, e = .returned v ∧ Q v w') := vcFn_sound noCount mixed ((F15.eq x0 w Q).symm ▸ h)
/-! ### function 16: stillage/stillageref03.worth -/
def F16.k4c (Q : Value → World → Prop) (x0 : Int) (x16 : Bool) (w : World) : Prop :=
  vIf x16
  (Q (Value.int .u8 (IntKind.wrap .u8 ((IntKind.wrap .u8 (x0 - 97)) + 10))) w)
  (Q (Value.int .u8 16) w)
def F16.k4 (Q : Value → World → Prop) : (Int × Bool × Unit) → World → Prop := fun s w => ∀ _ : Nat → Value, F16.k4c Q s.1 s.2.1 w
def F16.k3c (Q : Value → World → Prop) (x0 : Int) (w : World) : Prop :=
  vIf (decide (x0 ≥ 97))
  (jnC (F16.k4 Q) ((x0), (decide (x0 ≤ 102)), ()) w)
  (jnC (F16.k4 Q) ((x0), false, ()) w)
def F16.k3 (Q : Value → World → Prop) : (Int × Unit) → World → Prop := fun s w => ∀ _ : Nat → Value, F16.k3c Q s.1 w
def F16.k2c (Q : Value → World → Prop) (x0 : Int) (x8 : Bool) (w : World) : Prop :=
  vIf x8
  (Q (Value.int .u8 (IntKind.wrap .u8 (x0 - 48))) w)
  (jnC (F16.k3 Q) ((x0), ()) w)
def F16.k2 (Q : Value → World → Prop) : (Int × Bool × Unit) → World → Prop := fun s w => ∀ _ : Nat → Value, F16.k2c Q s.1 s.2.1 w
def F16.vc (x0 : Int) (w : World) (Q : Value → World → Prop) : Prop :=
  vIf (decide (x0 ≥ 48))
  (jnC (F16.k2 Q) ((x0), (decide (x0 ≤ 57)), ()) w)
  (jnC (F16.k2 Q) ((x0), false, ()) w)
def F16.an : Ann := ⟨[], [(2, [(0, .kI .u8), (8, .kB)]), (3, [(0, .kI .u8)]), (4, [(0, .kI .u8), (16, .kB)])]⟩
theorem F16.eq (x0 : Int) (w : World) (Q : Value → World → Prop) : vcFn Try.prog F16.an 16 [Value.int .u8 x0] w Q = F16.vc x0 w Q := by kernel_rfl
theorem F16.of (x0 : Int) (w : World) {Q : Value → World → Prop} (h : F16.vc x0 w Q) : Calls Try.prog 16 #[Value.int .u8 x0] w (fun e w' => ∃ v, e = .returned v ∧ Q v w') := vcFn_sound noCount mixed ((F16.eq x0 w Q).symm ▸ h)
end Go.Proofs.Ytfjacbjemikffaa
