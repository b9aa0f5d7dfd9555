import Derived.Lib.Bytealg
import Derived.Test.YtodmachaofepkaaGreatDoorP1
set_option linter.unusedVariables false
set_option linter.unusedSimpArgs false
namespace Go.Proofs.YtodmachaofepkaaGreatDoor
open Go.GV
set_option maxRecDepth 100000
open Go.Value renaming int -> VI, slice -> VS, tuple -> VT, pointer -> VP, string -> VG, bool -> VB
open Go.IntKind renaming wrap -> WR
def F4.k18c (Q:QT) (C12:(ST×Int×NT×NT×Unit)->WT) (x4:NT) (x5:NT) (x9:NT) (x10:Int) (w:World):Prop :=
 st w x5.1 (x5.2+3) [VB true] fun w44 =>
 ldI .u64 w44 x9.1 (x9.2+1) fun i45 =>
 st w44 x5.1 (x5.2+1) [VI .u64 i45] fun w46 =>
 st w46 x5.1 (x5.2+2) [VI .i64 x10] fun w47 =>
 st w47 x5.1 (x5.2+4) [VI .i64 x10] fun w48 =>
 ldA 6 w48 x5.1 x5.2 fun a49 =>
 gd (a49.length == 6) <|
 st w48 x4.1 x4.2 a49 fun w50 =>
 ldA 6 w50 x4.1 x4.2 fun a51 =>
 Q (ofL a51) w50
def F4.k18 (Q:QT) (C12:(ST×Int×NT×NT×Unit)->WT):(NT×NT×NT×Int×Unit)->WT:=fun s w=>∀ _:Nat->Value,F4.k18c Q C12 s.1 s.2.1 s.2.2.1 s.2.2.2.1 w
def F4.k16c (Q:QT) (C12:(ST×Int×NT×NT×Unit)->WT) (x4:NT) (x5:NT) (x9:NT) (x10:Int) (x95:Bool) (w:World):Prop :=
 vIf x95
 (st w x5.1 (x5.2+5) [VI .i64 3] fun w40 =>
 ldA 6 w40 x5.1 x5.2 fun a41 =>
 gd (a41.length == 6) <|
 st w40 x4.1 x4.2 a41 fun w42 =>
 ldA 6 w42 x4.1 x4.2 fun a43 =>
 Q (ofL a43) w42)
 (jnC (F4.k18 Q C12) ((x4.1,x4.2),(x5.1,x5.2),(x9.1,x9.2),x10,()) w)
def F4.k16 (Q:QT) (C12:(ST×Int×NT×NT×Unit)->WT):(NT×NT×NT×Int×Bool×Unit)->WT:=fun s w=>∀ _:Nat->Value,F4.k16c Q C12 s.1 s.2.1 s.2.2.1 s.2.2.2.1 s.2.2.2.2.1 w
def F4.k26c (Q:QT) (C12:(ST×Int×NT×NT×Unit)->WT) (x0:ST) (x1:Int) (x4:NT) (x5:NT) (x12:ST) (x13:Int) (x14:Int) (x15:Int) (w:World):Prop :=
 vIf (x15 != 0)
 (st w x5.1 (x5.2+5) [VI .i64 x15] fun w71 =>
 ldA 6 w71 x5.1 x5.2 fun a72 =>
 gd (a72.length == 6) <|
 st w71 x4.1 x4.2 a72 fun w73 =>
 ldA 6 w73 x4.1 x4.2 fun a74 =>
 Q (ofL a74) w73)
 (ldSl w x5.1 x5.2 fun A75 n76 c77 =>
 app w 39 96 Z56 56 A75 n76 c77 (VS x12.1 x12.2.1 x12.2.2) fun A78 n79 c80 w81 =>
 st w81 x5.1 x5.2 [VS A78 n79 c80] fun w82 =>
 st w82 x5.1 (x5.2+1) [VI .u64 x14] fun w83 =>
 st w83 x5.1 (x5.2+2) [VI .i64 x13] fun w84 =>
 st w84 x5.1 (x5.2+4) [VI .i64 x13] fun w85 =>
 jnC C12 ((x0.1,x0.2.1,x0.2.2),x1,(x4.1,x4.2),(x5.1,x5.2),()) w85)
def F4.k26 (Q:QT) (C12:(ST×Int×NT×NT×Unit)->WT):(ST×Int×NT×NT×ST×Int×Int×Int×Unit)->WT:=fun s w=>∀ _:Nat->Value,F4.k26c Q C12 s.1 s.2.1 s.2.2.1 s.2.2.2.1 s.2.2.2.2.1 s.2.2.2.2.2.1 s.2.2.2.2.2.2.1 s.2.2.2.2.2.2.2.1 w
def F4.k23c (Q:QT) (C12:(ST×Int×NT×NT×Unit)->WT) (x0:ST) (x1:Int) (x4:NT) (x5:NT) (w:World):Prop :=
 ldI .i64 w x5.1 (x5.2+2) fun i58 =>
 Calls Tryz.prog 13 #[VS x0.1 x0.2.1 x0.2.2,VI .i64 i58,VI .i64 x1] w fun e60 w59 =>
 ∃ (A61:Option Addr) (n62 c63:Nat),∃ i64:Int,∃ i65:Int,∃ i66:Int,e60=.returned (VT #[VS A61 n62 c63,VI .i64 i64,VI .u64 i65,VI .i64 i66])/\(
 vIf (i66 == 0)
 (dr A61 fun b67 o68 =>
 gd (decide ((0:Int) < (n62:Int))) <|
 ldI .u64 w59.drew b67 (o68+1) fun i69 =>
 ldI .u64 w59.drew x5.1 (x5.2+1) fun i70 =>
 vIf (decide (i69<=i70))
 (jnC (F4.k26 Q C12) ((x0.1,x0.2.1,x0.2.2),x1,(x4.1,x4.2),(x5.1,x5.2),(A61,n62,c63),i64,i65,(3),()) w59.drew)
 (jnC (F4.k26 Q C12) ((x0.1,x0.2.1,x0.2.2),x1,(x4.1,x4.2),(x5.1,x5.2),(A61,n62,c63),i64,i65,i66,()) w59.drew))
 (jnC (F4.k26 Q C12) ((x0.1,x0.2.1,x0.2.2),x1,(x4.1,x4.2),(x5.1,x5.2),(A61,n62,c63),i64,i65,i66,()) w59.drew))
def F4.k23 (Q:QT) (C12:(ST×Int×NT×NT×Unit)->WT):(ST×Int×NT×NT×Unit)->WT:=fun s w=>∀ _:Nat->Value,F4.k23c Q C12 s.1 s.2.1 s.2.2.1 s.2.2.2.1 w
def F4.k15c (Q:QT) (C12:(ST×Int×NT×NT×Unit)->WT) (x0:ST) (x1:Int) (x4:NT) (x5:NT) (x9:NT) (x10:Int) (x69:Bool) (w:World):Prop :=
 vIf x69
 (ldI .u64 w x9.1 (x9.2+1) fun i38 =>
 ldI .u64 w x5.1 (x5.2+1) fun i39 =>
 vIf (decide (i38<=i39))
 (jnC (F4.k16 Q C12) ((x4.1,x4.2),(x5.1,x5.2),(x9.1,x9.2),x10,true,()) w)
 (ldI .i64 w x9.1 (x9.2+36) fun i52 =>
 ldSl w x5.1 x5.2 fun A53 n54 c55 =>
 vIf (i52 != (n54:Int))
 (jnC (F4.k16 Q C12) ((x4.1,x4.2),(x5.1,x5.2),(x9.1,x9.2),x10,true,()) w)
 (ldI .i64 w x9.1 (x9.2+37) fun i56 =>
 ldI .i64 w x5.1 (x5.2+2) fun i57 =>
 vIf (i56 != i57)
 (jnC (F4.k16 Q C12) ((x4.1,x4.2),(x5.1,x5.2),(x9.1,x9.2),x10,true,()) w)
 (jnC (F4.k16 Q C12) ((x4.1,x4.2),(x5.1,x5.2),(x9.1,x9.2),x10,(x10 != (x0.2.1:Int)),()) w))))
 (jnC (F4.k23 Q C12) ((x0.1,x0.2.1,x0.2.2),x1,(x4.1,x4.2),(x5.1,x5.2),()) w)
def F4.k15 (Q:QT) (C12:(ST×Int×NT×NT×Unit)->WT):(ST×Int×NT×NT×NT×Int×Bool×Unit)->WT:=fun s w=>∀ _:Nat->Value,F4.k15c Q C12 s.1 s.2.1 s.2.2.1 s.2.2.2.1 s.2.2.2.2.1 s.2.2.2.2.2.1 s.2.2.2.2.2.2.1 w
def F4.k13c (Q:QT) (C12:(ST×Int×NT×NT×Unit)->WT) (x0:ST) (x1:Int) (x4:NT) (x5:NT) (w:World):Prop :=
 ldI .i64 w x5.1 (x5.2+2) fun i28 =>
 Calls Tryz.prog 12 #[VS x0.1 x0.2.1 x0.2.2,VI .i64 i28] w fun e30 w29 =>
 ∃ a31:List Value,∃ i32:Int,∃ i33:Int,e30=.returned (VT #[ofL a31,VI .i64 i32,VI .i64 i33])/\(
 nw w29 Z48 48 fun b34 w35 =>
 gd (a31.length == 38) <|
 st w35 b34 0 a31 fun w36 =>
 vIf (i33 == 0)
 (ldI .i64 w36 b34 0 fun i37 =>
 jnC (F4.k15 Q C12) ((x0.1,x0.2.1,x0.2.2),x1,(x4.1,x4.2),(x5.1,x5.2),(b34,0),i32,(i37 == 8),()) w36)
 (jnC (F4.k15 Q C12) ((x0.1,x0.2.1,x0.2.2),x1,(x4.1,x4.2),(x5.1,x5.2),(b34,0),i32,false,()) w36))
def F4.k13 (Q:QT) (C12:(ST×Int×NT×NT×Unit)->WT):(ST×Int×NT×NT×Unit)->WT:=fun s w=>∀ _:Nat->Value,F4.k13c Q C12 s.1 s.2.1 s.2.2.1 s.2.2.2.1 w
def F4.b12c (Q:QT) (C12:(ST×Int×NT×NT×Unit)->WT) (x0:ST) (x1:Int) (x4:NT) (x5:NT) (w:World):Prop :=
 ldI .i64 w x5.1 (x5.2+2) fun i26 =>
 vIf (decide (i26 < (x0.2.1:Int)))
 (ldB w x5.1 (x5.2+3) fun t27 =>
 vIf (!t27)
 (jnC (F4.k13 Q C12) ((x0.1,x0.2.1,x0.2.2),x1,(x4.1,x4.2),(x5.1,x5.2),()) w)
 (ldA 6 w x5.1 x5.2 fun a86 =>
 gd (a86.length == 6) <|
 st w x4.1 x4.2 a86 fun w87 =>
 ldA 6 w87 x4.1 x4.2 fun a88 =>
 Q (ofL a88) w87))
 (ldA 6 w x5.1 x5.2 fun a89 =>
 gd (a89.length == 6) <|
 st w x4.1 x4.2 a89 fun w90 =>
 ldA 6 w90 x4.1 x4.2 fun a91 =>
 Q (ofL a91) w90)
def F4.b12 (Q:QT):(ST×Int×NT×NT×Unit)->World->((ST×Int×NT×NT×Unit)->WT)->Prop:=fun s w C12=>∀ _:Nat->Value,F4.b12c Q C12 s.1 s.2.1 s.2.2.1 s.2.2.2.1 w
def F4.l12 (Q:QT):(ST×Int×NT×NT×Unit)->WT:=fun s w=>∃ n,loopC (F4.b12 Q) n s w
def F4.k9c (Q:QT) (x0:ST) (x1:Int) (x4:NT) (x5:NT) (x6:NT) (x7:Int) (w:World):Prop :=
 ldI .u64 w x6.1 (x6.2+1) fun i22 =>
 st w x5.1 (x5.2+1) [VI .u64 i22] fun w23 =>
 st w23 x5.1 (x5.2+2) [VI .i64 x7] fun w24 =>
 st w24 x5.1 (x5.2+4) [VI .i64 x7] fun w25 =>
 jnC (F4.l12 Q) ((x0.1,x0.2.1,x0.2.2),x1,(x4.1,x4.2),(x5.1,x5.2),()) w25
def F4.k9 (Q:QT):(ST×Int×NT×NT×NT×Int×Unit)->WT:=fun s w=>∀ _:Nat->Value,F4.k9c Q s.1 s.2.1 s.2.2.1 s.2.2.2.1 s.2.2.2.2.1 s.2.2.2.2.2.1 w
def F4.k7c (Q:QT) (x0:ST) (x1:Int) (x4:NT) (x5:NT) (x6:NT) (x7:Int) (x35:Bool) (w:World):Prop :=
 vIf x35
 (st w x5.1 (x5.2+5) [VI .i64 3] fun w18 =>
 ldA 6 w18 x5.1 x5.2 fun a19 =>
 gd (a19.length == 6) <|
 st w18 x4.1 x4.2 a19 fun w20 =>
 ldA 6 w20 x4.1 x4.2 fun a21 =>
 Q (ofL a21) w20)
 (jnC (F4.k9 Q) ((x0.1,x0.2.1,x0.2.2),x1,(x4.1,x4.2),(x5.1,x5.2),(x6.1,x6.2),x7,()) w)
def F4.k7 (Q:QT):(ST×Int×NT×NT×NT×Int×Bool×Unit)->WT:=fun s w=>∀ _:Nat->Value,F4.k7c Q s.1 s.2.1 s.2.2.1 s.2.2.2.1 s.2.2.2.2.1 s.2.2.2.2.2.1 s.2.2.2.2.2.2.1 w
def F4.vc (x0A:Option Addr) (x0n x0c:Nat) (x1:Int) (w:World) (Q:QT):Prop :=
 nw w Z27 27 fun b1 w2 =>
 nw w2 Z27 27 fun b3 w4 =>
 Calls Tryz.prog 12 #[VS x0A x0n x0c,VI .i64 0] w4 fun e6 w5 =>
 ∃ a7:List Value,∃ i8:Int,∃ i9:Int,e6=.returned (VT #[ofL a7,VI .i64 i8,VI .i64 i9])/\(
 nw w5 Z48 48 fun b10 w11 =>
 gd (a7.length == 38) <|
 st w11 b10 0 a7 fun w12 =>
 vIf (i9 != 0)
 (st w12 b3 (0+5) [VI .i64 i9] fun w13 =>
 ldA 6 w13 b3 0 fun a14 =>
 gd (a14.length == 6) <|
 st w13 b1 0 a14 fun w15 =>
 ldA 6 w15 b1 0 fun a16 =>
 Q (ofL a16) w15)
 (ldI .i64 w12 b10 0 fun i17 =>
 vIf (i17 != 7)
 (jnC (F4.k7 Q) ((x0A,x0n,x0c),x1,(b1,0),(b3,0),(b10,0),i8,true,()) w12)
 (ldI .i64 w12 b10 (0+36) fun i92 =>
 jnC (F4.k7 Q) ((x0A,x0n,x0c),x1,(b1,0),(b3,0),(b10,0),i8,(i92 != x1),()) w12)))
def F4.an:Ann:=⟨[(12,[(0,.kSl),(1,.kI .i64),(4,.kL),(5,.kL)])],[(7,[(0,.kSl),(1,.kI .i64),(4,.kL),(5,.kL),(6,.kL),(7,.kI .i64),(35,.kB)]),(9,[(0,.kSl),(1,.kI .i64),(4,.kL),(5,.kL),(6,.kL),(7,.kI .i64)]),(13,[(0,.kSl),(1,.kI .i64),(4,.kL),(5,.kL)]),(15,[(0,.kSl),(1,.kI .i64),(4,.kL),(5,.kL),(9,.kL),(10,.kI .i64),(69,.kB)]),(16,[(4,.kL),(5,.kL),(9,.kL),(10,.kI .i64),(95,.kB)]),(18,[(4,.kL),(5,.kL),(9,.kL),(10,.kI .i64)]),(23,[(0,.kSl),(1,.kI .i64),(4,.kL),(5,.kL)]),(26,[(0,.kSl),(1,.kI .i64),(4,.kL),(5,.kL),(12,.kSl),(13,.kI .i64),(14,.kI .u64),(15,.kI .i64)])]⟩
theorem F4.of (x0A:Option Addr) (x0n x0c:Nat) (x1:Int) (w:World) {Q:QT} (h:F4.vc x0A x0n x0c x1 w Q):Calls Tryz.prog 4 #[VS x0A x0n x0c,VI .i64 x1] w (fun e w'=>∃ v,e=.returned v/\Q v w'):=vcFn_of (A:=F4.an) noCount mixed h (by kernel_rfl)
def F30.b4c (Q:QT) (C4:(ST×ST×Int×Unit)->WT) (x0:ST) (x1:ST) (x5:Int) (w:World):Prop :=
 vIf (decide (x5 < (x0.2.1:Int)))
 (dr x0.1 fun b1 o2 =>
 gd (decide (0<=x5)) <|
 gd (decide (x5 < (x0.2.1:Int))) <|
 ldA 39 w.drew b1 (o2+(x5).toNat * 39) fun a3 =>
 dr x1.1 fun b4 o5 =>
 gd (decide (0<=x5)) <|
 gd (decide (x5 < (x1.2.1:Int))) <|
 ldA 39 w.drew b4 (o5+(x5).toNat * 39) fun a6 =>
 eqPl PK55 a3 a6 fun t7 =>
 vIf (!t7)
 (Q (VB false) w.drew)
 (jnC C4 ((x0.1,x0.2.1,x0.2.2),(x1.1,x1.2.1,x1.2.2),((WR .i64 (x5+1))),()) w.drew))
 (Q (VB true) w)
def F30.b4 (Q:QT):(ST×ST×Int×Unit)->World->((ST×ST×Int×Unit)->WT)->Prop:=fun s w C4=>∀ _:Nat->Value,F30.b4c Q C4 s.1 s.2.1 s.2.2.1 w
def F30.l4 (Q:QT):(ST×ST×Int×Unit)->WT:=fun s w=>∃ n,loopC (F30.b4 Q) n s w
def F30.vc (x0A:Option Addr) (x0n x0c:Nat) (x1A:Option Addr) (x1n x1c:Nat) (w:World) (Q:QT):Prop :=
 vIf ((x0n:Int) != (x1n:Int))
 (Q (VB false) w)
 (jnC (F30.l4 Q) ((x0A,x0n,x0c),(x1A,x1n,x1c),(0),()) w)
def F30.an:Ann:=⟨[(4,[(0,.kSl),(1,.kSl),(5,.kI .i64)])],[]⟩
theorem F30.of (x0A:Option Addr) (x0n x0c:Nat) (x1A:Option Addr) (x1n x1c:Nat) (w:World) {Q:QT} (h:F30.vc x0A x0n x0c x1A x1n x1c w Q):Calls Tryz.prog 30 #[VS x0A x0n x0c,VS x1A x1n x1c] w (fun e w'=>∃ v,e=.returned v/\Q v w'):=vcFn_of (A:=F30.an) noCount mixed h (by kernel_rfl)
def F18.k20c (Q:QT) (x10:ST) (w:World):Prop :=
 Q (VT #[VS x10.1 x10.2.1 x10.2.2,VI .i64 0]) w
def F18.k20 (Q:QT):(ST×Unit)->WT:=fun s w=>∀ _:Nat->Value,F18.k20c Q s.1 w
def F18.b7c (Q:QT) (C7:(ST×Bool×ST×Int×Int×Int×Unit)->WT) (x2:ST) (x3:Bool) (x10:ST) (x12:Int) (x13:Int) (x14:Int) (w:World):Prop :=
 vIf (decide (x14 < (x2.2.1:Int)))
 (dr x2.1 fun b7 o8 =>
 gd (decide (0<=x14)) <|
 gd (decide (x14 < (x2.2.1:Int))) <|
 ldSl w b7 (o8+(x14).toNat * 1) fun A9 n10 c11 =>
 Calls Tryz.prog 41 #[VS A9 n10 c11,VI .u64 x12] w fun e13 w12 =>
 ∃ (A14:Option Addr) (n15 c16:Nat),∃ i17:Int,∃ i18:Int,e13=.returned (VT #[VS A14 n15 c16,VI .u64 i17,VI .i64 i18])/\(
 vIf (i18 != 0)
 (Q (VT #[VS none 0 0,VI .i64 i18]) w12)
 (app w12 1 1 [VI .u8 0] 5 x10.1 x10.2.1 x10.2.2 (VS A14 n15 c16) fun A19 n20 c21 w22 =>
 dr x2.1 fun b23 o24 =>
 gd (decide (0<=x14)) <|
 gd (decide (x14 < (x2.2.1:Int))) <|
 ldSl w22 b23 (o24+(x14).toNat * 1) fun A25 n26 c27 =>
 jnC C7 ((x2.1,x2.2.1,x2.2.2),x3,(A19,n20,c21),i17,((WR .i64 (x13+(n26:Int)))),((WR .i64 (x14+1))),()) w22)))
 (vIf x3
 (Calls Tryz.prog 40 #[ofL ([VI .i64 8] ++ ([VI .u64 x12] ++ ([VI .u8 0,VI .u8 0,VI .u8 0,VI .u8 0,VI .u8 0,VI .u8 0,VI .u8 0,VI .u8 0,VI .u8 0,VI .u8 0,VI .u8 0,VI .u8 0,VI .u8 0,VI .u8 0,VI .u8 0,VI .u8 0,VI .u8 0,VI .u8 0,VI .u8 0,VI .u8 0,VI .u8 0,VI .u8 0,VI .u8 0,VI .u8 0,VI .u8 0,VI .u8 0,VI .u8 0,VI .u8 0,VI .u8 0,VI .u8 0,VI .u8 0,VI .u8 0] ++ ([VG (⟨#[]⟩:ByteArray)] ++ ([VS none 0 0] ++ ([VI .i64 x13] ++ ([VI .i64 (x10.2.1:Int)] ++ [])))))))] w fun e29 w28 =>
 ∃ (A30:Option Addr) (n31 c32:Nat),∃ i33:Int,e29=.returned (VT #[VS A30 n31 c32,VI .i64 i33])/\(
 vIf (i33 != 0)
 (Q (VT #[VS none 0 0,VI .i64 i33]) w28)
 (app w28 1 1 [VI .u8 0] 5 x10.1 x10.2.1 x10.2.2 (VS A30 n31 c32) fun A34 n35 c36 w37 =>
 jnC (F18.k20 Q) ((A34,n35,c36),()) w37)))
 (jnC (F18.k20 Q) ((x10.1,x10.2.1,x10.2.2),()) w))
def F18.b7 (Q:QT):(ST×Bool×ST×Int×Int×Int×Unit)->World->((ST×Bool×ST×Int×Int×Int×Unit)->WT)->Prop:=fun s w C7=>∀ _:Nat->Value,F18.b7c Q C7 s.1 s.2.1 s.2.2.1 s.2.2.2.1 s.2.2.2.2.1 s.2.2.2.2.2.1 w
def F18.l7 (Q:QT):(ST×Bool×ST×Int×Int×Int×Unit)->WT:=fun s w=>∃ n,loopC (F18.b7 Q) n s w
def F18.vc (x0:Int) (x1:Int) (x2A:Option Addr) (x2n x2c:Nat) (x3:Bool) (w:World) (Q:QT):Prop :=
 Calls Tryz.prog 40 #[ofL ([VI .i64 7] ++ ([VI .u64 x1] ++ ([VI .u8 0,VI .u8 0,VI .u8 0,VI .u8 0,VI .u8 0,VI .u8 0,VI .u8 0,VI .u8 0,VI .u8 0,VI .u8 0,VI .u8 0,VI .u8 0,VI .u8 0,VI .u8 0,VI .u8 0,VI .u8 0,VI .u8 0,VI .u8 0,VI .u8 0,VI .u8 0,VI .u8 0,VI .u8 0,VI .u8 0,VI .u8 0,VI .u8 0,VI .u8 0,VI .u8 0,VI .u8 0,VI .u8 0,VI .u8 0,VI .u8 0,VI .u8 0] ++ ([VG (⟨#[]⟩:ByteArray)] ++ ([VS none 0 0] ++ ([VI .i64 x0] ++ ([VI .i64 0] ++ [])))))))] w fun e2 w1 =>
 ∃ (A3:Option Addr) (n4 c5:Nat),∃ i6:Int,e2=.returned (VT #[VS A3 n4 c5,VI .i64 i6])/\(
 vIf (i6 != 0)
 (Q (VT #[VS none 0 0,VI .i64 i6]) w1)
 (jnC (F18.l7 Q) ((x2A,x2n,x2c),x3,(A3,n4,c5),((WR .u64 (x1+1))),(0),(0),()) w1))
def F18.an:Ann:=⟨[(7,[(2,.kSl),(3,.kB),(10,.kSl),(12,.kI .u64),(13,.kI .i64),(14,.kI .i64)])],[(20,[(10,.kSl)])]⟩
theorem F18.of (x0:Int) (x1:Int) (x2A:Option Addr) (x2n x2c:Nat) (x3:Bool) (w:World) {Q:QT} (h:F18.vc x0 x1 x2A x2n x2c x3 w Q):Calls Tryz.prog 18 #[VI .i64 x0,VI .u64 x1,VS x2A x2n x2c,VB x3] w (fun e w'=>∃ v,e=.returned v/\Q v w'):=vcFn_of (A:=F18.an) noCount mixed h (by kernel_rfl)
def F42.vc (x0:List Value) (w:World) (Q:QT):Prop :=
 nw w x0 74 fun b1 w2 =>
 ldA 2 w2 b1 0 fun a3 =>
 ldSl w2 b1 (0+1) fun A4 n5 c6 =>
 Calls Tryz.prog 70 #[ofL a3,VI .i64 (n5:Int)] w2 fun e8 w7 =>
 ∃ (A9:Option Addr) (n10 c11:Nat),e8=.returned (VS A9 n10 c11)/\(
 Q (VS A9 n10 c11) w7)
def F42.an:Ann:=⟨[],[]⟩
theorem F42.of (x0:List Value) (w:World) {Q:QT} (h:F42.vc x0 w Q):Calls Tryz.prog 42 #[ofL x0] w (fun e w'=>∃ v,e=.returned v/\Q v w'):=vcFn_of (A:=F42.an) noCount mixed h (by kernel_rfl)
def F43s.b3c (Q:QT) (C3:(ST×ByteArray×Unit×Int×Int×Int×Unit)->WT) (x0:ST) (x1:ByteArray) (x2:Unit) (x8:Int) (x9:Int) (x10:Int) (w:World):Prop :=
 vIf (decide (x9 < x10))
 (dr x0.1 fun b1 o2 =>
 gd (decide (0<=(WR .i64 (Int.fdiv (WR .u64 (WR .i64 (x9+x10))) (2 ^ 1))))) <|
 gd (decide ((WR .i64 (Int.fdiv (WR .u64 (WR .i64 (x9+x10))) (2 ^ 1))) < (x0.2.1:Int))) <|
 ldA 2 w b1 (o2+((WR .i64 (Int.fdiv (WR .u64 (WR .i64 (x9+x10))) (2 ^ 1)))).toNat * 2) fun a3 =>
 Calls Tryz.prog 44 #[ofL a3,VG x1] w fun e5 w4 =>
 ∃ i6:Int,e5=.returned (VI .i64 i6)/\(
 vIf (decide (i6 < 0))
 (jnC C3 ((x0.1,x0.2.1,x0.2.2),x1,(),x8,((WR .i64 ((WR .i64 (Int.fdiv (WR .u64 (WR .i64 (x9+x10))) (2 ^ 1)))+1))),x10,()) w4)
 (jnC C3 ((x0.1,x0.2.1,x0.2.2),x1,(),x8,x9,((WR .i64 (Int.fdiv (WR .u64 (WR .i64 (x9+x10))) (2 ^ 1)))),()) w4)))
 (vIf (decide (x9 < x8))
 (dr x0.1 fun b7 o8 =>
 gd (decide (0<=x9)) <|
 gd (decide (x9 < (x0.2.1:Int))) <|
 ldA 2 w b7 (o8+(x9).toNat * 2) fun a9 =>
 Calls Tryz.prog 44 #[ofL a9,VG x1] w fun e11 w10 =>
 ∃ i12:Int,e11=.returned (VI .i64 i12)/\(
 Q (VT #[VI .i64 x9,VB (i12 == 0)]) w10))
 (Q (VT #[VI .i64 x9,VB false]) w))
def F43s.b3 (Q:QT):(ST×ByteArray×Unit×Int×Int×Int×Unit)->World->((ST×ByteArray×Unit×Int×Int×Int×Unit)->WT)->Prop:=fun s w C3=>∀ _:Nat->Value,F43s.b3c Q C3 s.1 s.2.1 s.2.2.1 s.2.2.2.1 s.2.2.2.2.1 s.2.2.2.2.2.1 w
def F43s.l3 (Q:QT):(ST×ByteArray×Unit×Int×Int×Int×Unit)->WT:=fun s w=>∃ n,loopC (F43s.b3 Q) n s w
def F43s.vc (x0A:Option Addr) (x0n x0c:Nat) (x1:ByteArray) (w:World) (Q:QT):Prop :=
 jnC (F43s.l3 Q) ((x0A,x0n,x0c),x1,(),((x0n:Int)),(0),((x0n:Int)),()) w
def F43s.an:Ann:=⟨[(3,[(0,.kSl),(1,.kS),(2,.kF 44),(8,.kI .i64),(9,.kI .i64),(10,.kI .i64)])],[]⟩
theorem F43s.of (x0A:Option Addr) (x0n x0c:Nat) (x1:ByteArray) (w:World) {Q:QT} (h:F43s.vc x0A x0n x0c x1 w Q):Calls Tryz.prog 43 #[VS x0A x0n x0c,VG x1,Value.func (.func 44) #[] #[]] w (fun e w'=>∃ v,e=.returned v/\Q v w'):=vcFn_of (A:=F43s.an) noCount mixed h (by kernel_rfl)
def F44.vc (x0:List Value) (x1:ByteArray) (w:World) (Q:QT):Prop :=
 nw w x0 80 fun b1 w2 =>
 ldS w2 b1 0 fun s3 =>
 Calls Tryz.prog 71 #[VG s3,VG x1] w2 fun e5 w4 =>
 ∃ i6:Int,e5=.returned (VI .i64 i6)/\(
 Q (VI .i64 i6) w4)
def F44.an:Ann:=⟨[],[]⟩
theorem F44.of (x0:List Value) (x1:ByteArray) (w:World) {Q:QT} (h:F44.vc x0 x1 w Q):Calls Tryz.prog 44 #[ofL x0,VG x1] w (fun e w'=>∃ v,e=.returned v/\Q v w'):=vcFn_of (A:=F44.an) noCount mixed h (by kernel_rfl)
def F45.vc (x0:List Value) (w:World) (Q:QT):Prop :=
 nw w x0 83 fun b1 w2 =>
 ldSl w2 b1 0 fun A3 n4 c5 =>
 ldSl w2 b1 (0+1) fun A6 n7 c8 =>
 Calls Tryz.prog 72 #[VS A3 n4 c5,VS A6 n7 c8] w2 fun e10 w9 =>
 ∃ (A11:Option Addr) (n12 c13:Nat),e10=.returned (VS A11 n12 c13)/\(
 Q (VS A11 n12 c13) w9)
def F45.an:Ann:=⟨[],[]⟩
theorem F45.of (x0:List Value) (w:World) {Q:QT} (h:F45.vc x0 w Q):Calls Tryz.prog 45 #[ofL x0] w (fun e w'=>∃ v,e=.returned v/\Q v w'):=vcFn_of (A:=F45.an) noCount mixed h (by kernel_rfl)
def F70.b3c (Q:QT) (C3:(ST×ST×Int×Int×Unit)->WT) (x5:ST) (x18:ST) (x19:Int) (x20:Int) (w:World):Prop :=
 vIf (decide (x20 < x19))
 (dr x18.1 fun b15 o16 =>
 gd (decide (0<=x20)) <|
 gd (decide (x20 < (x18.2.1:Int))) <|
 ldA 4 w b15 (o16+(x20).toNat * 4) fun a17 =>
 nw w Z178 178 fun b18 w19 =>
 gd (a17.length == 4) <|
 st w19 b18 0 a17 fun w20 =>
 ldA 4 w20 b18 0 fun a21 =>
 Calls Tryz.prog 96 #[VS x5.1 x5.2.1 x5.2.2,ofL a21] w20 fun e23 w22 =>
 ∃ (A24:Option Addr) (n25 c26:Nat),e23=.returned (VS A24 n25 c26)/\(
 jnC C3 ((A24,n25,c26),(x18.1,x18.2.1,x18.2.2),x19,((WR .i64 (x20+1))),()) w22))
 (Q (VS x5.1 x5.2.1 x5.2.2) w)
def F70.b3 (Q:QT):(ST×ST×Int×Int×Unit)->World->((ST×ST×Int×Int×Unit)->WT)->Prop:=fun s w C3=>∀ _:Nat->Value,F70.b3c Q C3 s.1 s.2.1 s.2.2.1 s.2.2.2.1 w
def F70.l3 (Q:QT):(ST×ST×Int×Int×Unit)->WT:=fun s w=>∃ n,loopC (F70.b3 Q) n s w
def F70.vc (x0:List Value) (x1:Int) (w:World) (Q:QT):Prop :=
 nw w x0 74 fun b1 w2 =>
 ldA 2 w2 b1 0 fun a3 =>
 Calls Tryz.prog 95 #[ofL a3] w2 fun e5 w4 =>
 ∃ (A6:Option Addr) (n7 c8:Nat),e5=.returned (VS A6 n7 c8)/\(
 ldSl w4 b1 (0+1) fun A9 n10 c11 =>
 ldSl w4 b1 (0+1) fun A12 n13 c14 =>
 gd (decide (0<=(if 0 < (if (n13:Int) < x1 then (n13:Int) else x1) then (if (n13:Int) < x1 then (n13:Int) else x1) else 0))) <|
 gd (decide ((if 0 < (if (n13:Int) < x1 then (n13:Int) else x1) then (if (n13:Int) < x1 then (n13:Int) else x1) else 0)<=(c11:Int))) <|
 jnC (F70.l3 Q) ((A6,n7,c8),((slA A9 c11 0 4),((if 0 < (if (n13:Int) < x1 then (n13:Int) else x1) then (if (n13:Int) < x1 then (n13:Int) else x1) else 0)).toNat,c11),(((((if 0 < (if (n13:Int) < x1 then (n13:Int) else x1) then (if (n13:Int) < x1 then (n13:Int) else x1) else 0)).toNat:Nat):Int)),(0),()) w4)
def F70.an:Ann:=⟨[(3,[(5,.kSl),(18,.kSl),(19,.kI .i64),(20,.kI .i64)])],[]⟩
theorem F70.of (x0:List Value) (x1:Int) (w:World) {Q:QT} (h:F70.vc x0 x1 w Q):Calls Tryz.prog 70 #[ofL x0,VI .i64 x1] w (fun e w'=>∃ v,e=.returned v/\Q v w'):=vcFn_of (A:=F70.an) noCount mixed h (by kernel_rfl)
def F46.vc (x0:Option Addr) (x1:ByteArray) (w:World) (Q:QT):Prop :=
 Calls Tryz.prog 73 #[VP x0,VG x1] w fun e2 w1 =>
 ∃ (A3:Option Addr) (n4 c5:Nat),∃ i6:Int,e2=.returned (VT #[VS A3 n4 c5,VI .i64 i6])/\(
 Q (VT #[VI .i64 (n4:Int),VI .i64 i6]) w1)
def F46.an:Ann:=⟨[],[]⟩
theorem F46.of (x0:Option Addr) (x1:ByteArray) (w:World) {Q:QT} (h:F46.vc x0 x1 w Q):Calls Tryz.prog 46 #[VP x0,VG x1] w (fun e w'=>∃ v,e=.returned v/\Q v w'):=vcFn_of (A:=F46.an) noCount mixed h (by kernel_rfl)
def F47.k6c (Q:QT) (x2:Int) (x3:Int) (x10:ST) (w:World):Prop :=
 gd (decide (0<=(WR .i64 (x2+x3)))) <|
 gd (decide ((WR .i64 (x2+x3))<=(x10.2.2:Int))) <|
 gd (decide (0<=(WR .i64 (x2+x3)))) <|
 gd (decide ((WR .i64 (x2+x3))<=((((WR .i64 (x2+x3))).toNat:Nat):Int))) <|
 gd (decide (0<=x2)) <|
 gd (decide (x2<=((((WR .i64 (x2+x3))).toNat:Nat):Int))) <|
 Q (VT #[VS (slA x10.1 ((WR .i64 (x2+x3))).toNat (x2).toNat 1) (((WR .i64 (x2+x3))).toNat - (x2).toNat) (((WR .i64 (x2+x3))).toNat - (x2).toNat),VI .i64 0]) w
def F47.k6 (Q:QT):(Int×Int×ST×Unit)->WT:=fun s w=>∀ _:Nat->Value,F47.k6c Q s.1 s.2.1 s.2.2.1 w
def F47.vc (x0:Option Addr) (x1:ByteArray) (x2:Int) (x3:Int) (w:World) (Q:QT):Prop :=
 Calls Tryz.prog 73 #[VP x0,VG x1] w fun e2 w1 =>
 ∃ (A3:Option Addr) (n4 c5:Nat),∃ i6:Int,e2=.returned (VT #[VS A3 n4 c5,VI .i64 i6])/\(
 vIf (i6 != 0)
 (Q (VT #[VS none 0 0,VI .i64 i6]) w1)
 (vIf (decide (x2 < 0))
 (Q (VT #[VS none 0 0,VI .i64 20]) w1)
 (vIf (decide (x3 < 0))
 (Q (VT #[VS none 0 0,VI .i64 20]) w1)
 (vIf (decide (x2 > (n4:Int)))
 (Q (VT #[VS none 0 0,VI .i64 20]) w1)
 (vIf (decide (x3 > (WR .i64 ((n4:Int) - x2))))
 (Q (VT #[VS none 0 0,VI .i64 20]) w1)
 (jnC (F47.k6 Q) (x2,x3,(A3,n4,c5),()) w1))))))
def F47.an:Ann:=⟨[],[(6,[(2,.kI .i64),(3,.kI .i64),(10,.kSl)])]⟩
theorem F47.of (x0:Option Addr) (x1:ByteArray) (x2:Int) (x3:Int) (w:World) {Q:QT} (h:F47.vc x0 x1 x2 x3 w Q):Calls Tryz.prog 47 #[VP x0,VG x1,VI .i64 x2,VI .i64 x3] w (fun e w'=>∃ v,e=.returned v/\Q v w'):=vcFn_of (A:=F47.an) noCount mixed h (by kernel_rfl)
def F48.k4c (Q:QT) (x0:Int) (x3:NT) (w:World):Prop :=
 gd (decide (0<=x0)) <|
 gd (decide (x0 < 4)) <|
 ldS w x3.1 (x3.2+(x0).toNat * 1) fun s4 =>
 Q (VG s4) w
def F48.k4 (Q:QT):(Int×NT×Unit)->WT:=fun s w=>∀ _:Nat->Value,F48.k4c Q s.1 s.2.1 w
def F48.vc (x0:Int) (w:World) (Q:QT):Prop :=
 nw w Z147 147 fun b1 w2 =>
 gd (([VG (⟨#[]⟩:ByteArray)] ++ ([VG (⟨#[115,101,103,45]⟩:ByteArray)] ++ ([VG (⟨#[104,105,110,116,45]⟩:ByteArray)] ++ ([VG (⟨#[112,111,105,110,116,45]⟩:ByteArray)] ++ [])))).length == 4) <|
 st w2 b1 0 ([VG (⟨#[]⟩:ByteArray)] ++ ([VG (⟨#[115,101,103,45]⟩:ByteArray)] ++ ([VG (⟨#[104,105,110,116,45]⟩:ByteArray)] ++ ([VG (⟨#[112,111,105,110,116,45]⟩:ByteArray)] ++ [])))) fun w3 =>
 vIf (decide (x0<=0))
 (Q (VG (⟨#[]⟩:ByteArray)) w3)
 (vIf (decide (x0 >= 4))
 (Q (VG (⟨#[]⟩:ByteArray)) w3)
 (jnC (F48.k4 Q) (x0,(b1,0),()) w3))
def F48.an:Ann:=⟨[],[(4,[(0,.kI .i64),(3,.kL)])]⟩
theorem F48.of (x0:Int) (w:World) {Q:QT} (h:F48.vc x0 w Q):Calls Tryz.prog 48 #[VI .i64 x0] w (fun e w'=>∃ v,e=.returned v/\Q v w'):=vcFn_of (A:=F48.an) noCount mixed h (by kernel_rfl)
def F51.vc (x0:ByteArray) (x1A:Option Addr) (x1n x1c:Nat) (w:World) (Q:QT):Prop :=
 vIf (decide ((WR .i64 ((x1n:Int) - 4)) < (x0.size:Int)))
 (nw w ([VS none 0 0] ++ ([VI .i64 0] ++ ([VI .i64 4] ++ []))) 162 fun b1 w2 =>
 Q (VP (some ⟨b1,0,none⟩)) w2)
 (gd (decide (0<=(WR .i64 ((x1n:Int) - 4)))) <|
 gd (decide ((WR .i64 ((x1n:Int) - 4))<=(x1c:Int))) <|
 Calls Tryz.prog 81 #[VS (slA x1A x1c 0 1) ((WR .i64 ((x1n:Int) - 4))).toNat x1c] w fun e4 w3 =>
 ∃ (A5:Option Addr) (n6 c7:Nat),e4=.returned (VS A5 n6 c7)/\(
 nw w3 ([VS A5 n6 c7] ++ ([VI .i64 (x0.size:Int)] ++ ([VI .i64 0] ++ []))) 162 fun b8 w9 =>
 Calls Tryz.prog 82 #[VS x1A x1n x1c,VI .i64 (WR .i64 ((x1n:Int) - 4)),VI .i64 4] w9 fun e11 w10 =>
 ∃ i12:Int,∃ t13:Bool,e11=.returned (VT #[VI .u64 i12,VB t13])/\(
 ldSl w10 b8 0 fun A14 n15 c16 =>
 Calls Tryz.prog 83 #[VS A14 n15 c16] w10 fun e18 w17 =>
 ∃ i19:Int,e18=.returned (VI .u32 i19)/\(
 vIf ((WR .u32 i12) != i19)
 (st w17 b8 (0+2) [VI .i64 5] fun w20 =>
 Q (VP (some ⟨b8,0,none⟩)) w20)
 (ldSl w17 b8 0 fun A21 n22 c23 =>
 b2s w17 A21 n22 fun s24 =>
 Calls Tryz.prog 76 #[VG s24,VG x0] w17 fun e26 w25 =>
 ∃ t27:Bool,e26=.returned (VB t27)/\(
 vIf (!t27)
 (st w25 b8 (0+2) [VI .i64 3] fun w28 =>
 Q (VP (some ⟨b8,0,none⟩)) w28)
 (Q (VP (some ⟨b8,0,none⟩)) w25)))))))
def F51.an:Ann:=⟨[],[]⟩
theorem F51.of (x0:ByteArray) (x1A:Option Addr) (x1n x1c:Nat) (w:World) {Q:QT} (h:F51.vc x0 x1A x1n x1c w Q):Calls Tryz.prog 51 #[VG x0,VS x1A x1n x1c] w (fun e w'=>∃ v,e=.returned v/\Q v w'):=vcFn_of (A:=F51.an) noCount mixed h (by kernel_rfl)
def F52.vc (x0:Option Addr) (x1:Int) (w:World) (Q:QT):Prop :=
 nw w [VP x0] 120 fun b1 w2 =>
 nw w2 [VI .i64 x1] 3 fun b3 w4 =>
 nw w4 [VI .i64 0] 3 fun b5 w6 =>
 st w6 b5 0 [VI .i64 0] fun w7 =>
 ldP w7 b1 0 fun p8 =>
 Calls Tryz.prog 84 #[VP p8,Value.func (.func 85) #[] #[VP (some ⟨b1,0,none⟩),VP (some ⟨b3,0,none⟩),VP (some ⟨b5,0,none⟩)]] w7 fun e10 w9 =>
 e10=.returned (VT #[])/\(
 ldI .i64 w9 b5 0 fun i11 =>
 Q (VI .i64 i11) w9)
def F52.an:Ann:=⟨[],[]⟩
theorem F52.of (x0:Option Addr) (x1:Int) (w:World) {Q:QT} (h:F52.vc x0 x1 w Q):Calls Tryz.prog 52 #[VP x0,VI .i64 x1] w (fun e w'=>∃ v,e=.returned v/\Q v w'):=vcFn_of (A:=F52.an) noCount mixed h (by kernel_rfl)
def F53.vc (x0:Option Addr) (w:World) (Q:QT):Prop :=
 nw w [VP x0] 120 fun b1 w2 =>
 nw w2 [VI .u64 0] 24 fun b3 w4 =>
 st w4 b3 0 [VI .u64 0] fun w5 =>
 ldP w5 b1 0 fun p6 =>
 Calls Tryz.prog 84 #[VP p6,Value.func (.func 87) #[] #[VP (some ⟨b1,0,none⟩),VP (some ⟨b3,0,none⟩)]] w5 fun e8 w7 =>
 e8=.returned (VT #[])/\(
 ldI .u64 w7 b3 0 fun i9 =>
 Q (VI .u64 i9) w7)
def F53.an:Ann:=⟨[],[]⟩
theorem F53.of (x0:Option Addr) (w:World) {Q:QT} (h:F53.vc x0 w Q):Calls Tryz.prog 53 #[VP x0] w (fun e w'=>∃ v,e=.returned v/\Q v w'):=vcFn_of (A:=F53.an) noCount mixed h (by kernel_rfl)
def F54.k10c (Q:QT) (x0:Option Addr) (x4:NT) (x5:NT) (w:World):Prop :=
 Calls Tryz.prog 52 #[VP x0,VI .i64 1048576] w fun e37 w36 =>
 ∃ i38:Int,e37=.returned (VI .i64 i38)/\(
 st w36 x5.1 ((x5.2+36)+1) [VI .i64 i38] fun w39 =>
 Calls Tryz.prog 52 #[VP x0,VI .i64 1048576] w39 fun e41 w40 =>
 ∃ i42:Int,e41=.returned (VI .i64 i42)/\(
 st w40 x5.1 ((x5.2+36)+2) [VI .i64 i42] fun w43 =>
 ldA 39 w43 x5.1 x5.2 fun a44 =>
 gd (a44.length == 39) <|
 st w43 x4.1 x4.2 a44 fun w45 =>
 ldA 39 w45 x4.1 x4.2 fun a46 =>
 Q (ofL a46) w45))
def F54.k10 (Q:QT):(Option Addr×NT×NT×Unit)->WT:=fun s w=>∀ _:Nat->Value,F54.k10c Q s.1 s.2.1 s.2.2.1 w
def F54.k8c (Q:QT) (x0:Option Addr) (x4:NT) (x5:NT) (x6:NT) (w:World):Prop :=
 ldB w x6.1 (x6.2+2) fun t31 =>
 vIf t31
 (Calls Tryz.prog 52 #[VP x0,VI .i64 1048576] w fun e33 w32 =>
 ∃ i34:Int,e33=.returned (VI .i64 i34)/\(
 st w32 x5.1 (x5.2+35) [VI .i64 i34] fun w35 =>
 jnC (F54.k10 Q) (x0,(x4.1,x4.2),(x5.1,x5.2),()) w35))
 (jnC (F54.k10 Q) (x0,(x4.1,x4.2),(x5.1,x5.2),()) w)
def F54.k8 (Q:QT):(Option Addr×NT×NT×NT×Unit)->WT:=fun s w=>∀ _:Nat->Value,F54.k8c Q s.1 s.2.1 s.2.2.1 s.2.2.2.1 w
def F54.k6c (Q:QT) (x0:Option Addr) (x4:NT) (x5:NT) (x6:NT) (w:World):Prop :=
 ldB w x6.1 (x6.2+1) fun t26 =>
 vIf t26
 (Calls Tryz.prog 90 #[VP x0] w fun e28 w27 =>
 ∃ s29:ByteArray,e28=.returned (VG s29)/\(
 st w27 x5.1 (x5.2+34) [VG s29] fun w30 =>
 jnC (F54.k8 Q) (x0,(x4.1,x4.2),(x5.1,x5.2),(x6.1,x6.2),()) w30))
 (jnC (F54.k8 Q) (x0,(x4.1,x4.2),(x5.1,x5.2),(x6.1,x6.2),()) w)
def F54.k6 (Q:QT):(Option Addr×NT×NT×NT×Unit)->WT:=fun s w=>∀ _:Nat->Value,F54.k6c Q s.1 s.2.1 s.2.2.1 s.2.2.2.1 w
def F54.vc (x0:Option Addr) (x1:Int) (w:World) (Q:QT):Prop :=
 nw w Z56 56 fun b1 w2 =>
 Calls Tryz.prog 52 #[VP x0,VI .i64 8] w2 fun e4 w3 =>
 ∃ i5:Int,e4=.returned (VI .i64 i5)/\(
 gd (([VI .i64 x1] ++ ([VI .i64 0] ++ ([VI .i64 0] ++ []))).length == 3) <|
 nw w3 Z56 56 fun b6 w7 =>
 gd (([VI .i64 i5] ++ ([VI .u64 0] ++ ([VI .u8 0,VI .u8 0,VI .u8 0,VI .u8 0,VI .u8 0,VI .u8 0,VI .u8 0,VI .u8 0,VI .u8 0,VI .u8 0,VI .u8 0,VI .u8 0,VI .u8 0,VI .u8 0,VI .u8 0,VI .u8 0,VI .u8 0,VI .u8 0,VI .u8 0,VI .u8 0,VI .u8 0,VI .u8 0,VI .u8 0,VI .u8 0,VI .u8 0,VI .u8 0,VI .u8 0,VI .u8 0,VI .u8 0,VI .u8 0,VI .u8 0,VI .u8 0] ++ ([VG (⟨#[]⟩:ByteArray)] ++ ([VI .i64 0] ++ (([VI .i64 x1] ++ ([VI .i64 0] ++ ([VI .i64 0] ++ []))) ++ [])))))).length == 39) <|
 st w7 b6 0 ([VI .i64 i5] ++ ([VI .u64 0] ++ ([VI .u8 0,VI .u8 0,VI .u8 0,VI .u8 0,VI .u8 0,VI .u8 0,VI .u8 0,VI .u8 0,VI .u8 0,VI .u8 0,VI .u8 0,VI .u8 0,VI .u8 0,VI .u8 0,VI .u8 0,VI .u8 0,VI .u8 0,VI .u8 0,VI .u8 0,VI .u8 0,VI .u8 0,VI .u8 0,VI .u8 0,VI .u8 0,VI .u8 0,VI .u8 0,VI .u8 0,VI .u8 0,VI .u8 0,VI .u8 0,VI .u8 0,VI .u8 0] ++ ([VG (⟨#[]⟩:ByteArray)] ++ ([VI .i64 0] ++ (([VI .i64 x1] ++ ([VI .i64 0] ++ ([VI .i64 0] ++ []))) ++ [])))))) fun w8 =>
 Calls Tryz.prog 53 #[VP x0] w8 fun e10 w9 =>
 ∃ i11:Int,e10=.returned (VI .u64 i11)/\(
 st w9 b6 (0+1) [VI .u64 i11] fun w12 =>
 ldI .i64 w12 b6 0 fun i13 =>
 Calls Tryz.prog 88 #[VI .i64 i13] w12 fun e15 w14 =>
 ∃ a16:List Value,∃ t17:Bool,e15=.returned (VT #[ofL a16,VB t17])/\(
 nw w14 [VB false,VB false,VB false] 169 fun b18 w19 =>
 gd (a16.length == 3) <|
 st w19 b18 0 a16 fun w20 =>
 ldB w20 b18 0 fun t21 =>
 vIf t21
 (Calls Tryz.prog 89 #[VP x0] w20 fun e23 w22 =>
 ∃ a24:List Value,e23=.returned (ofL a24)/\(
 gd (a24.length == 32) <|
 st w22 b6 (0+2) a24 fun w25 =>
 jnC (F54.k6 Q) (x0,(b1,0),(b6,0),(b18,0),()) w25))
 (jnC (F54.k6 Q) (x0,(b1,0),(b6,0),(b18,0),()) w20))))
def F54.an:Ann:=⟨[],[(6,[(0,.kP),(4,.kL),(5,.kL),(6,.kL)]),(8,[(0,.kP),(4,.kL),(5,.kL),(6,.kL)]),(10,[(0,.kP),(4,.kL),(5,.kL)])]⟩
theorem F54.of (x0:Option Addr) (x1:Int) (w:World) {Q:QT} (h:F54.vc x0 x1 w Q):Calls Tryz.prog 54 #[VP x0,VI .i64 x1] w (fun e w'=>∃ v,e=.returned v/\Q v w'):=vcFn_of (A:=F54.an) noCount mixed h (by kernel_rfl)
def F55.vc (x0:Option Addr) (w:World) (Q:QT):Prop :=
 vIf x0.isNone
 (Q (VI .i64 1) w)
 (dr x0 fun b1 o2 =>
 ldI .i64 w b1 (o2+2) fun i3 =>
 vIf (i3 != 0)
 (dr x0 fun b4 o5 =>
 ldI .i64 w b4 (o5+2) fun i6 =>
 Q (VI .i64 i6) w)
 (dr x0 fun b7 o8 =>
 ldI .i64 w.drew b7 (o8+1) fun i9 =>
 dr x0 fun b10 o11 =>
 ldSl w.drew b10 o11 fun A12 n13 c14 =>
 vIf (i9 != (n13:Int))
 (Q (VI .i64 3) w.drew)
 (Q (VI .i64 0) w.drew)))
def F55.an:Ann:=⟨[],[]⟩
theorem F55.of (x0:Option Addr) (w:World) {Q:QT} (h:F55.vc x0 w Q):Calls Tryz.prog 55 #[VP x0] w (fun e w'=>∃ v,e=.returned v/\Q v w'):=vcFn_of (A:=F55.an) noCount mixed h (by kernel_rfl)
def F56.b2c (Q:QT) (C2:(Int×ST×Int×Int×Unit)->WT) (x1:Int) (x7:ST) (x8:Int) (x9:Int) (w:World):Prop :=
 vIf (decide (x9 < x8))
 (dr x7.1 fun b1 o2 =>
 gd (decide (0<=x9)) <|
 gd (decide (x9 < (x7.2.1:Int))) <|
 ldA 39 w b1 (o2+(x9).toNat * 39) fun a3 =>
 nw w Z56 56 fun b4 w5 =>
 gd (a3.length == 39) <|
 st w5 b4 0 a3 fun w6 =>
 ldA 39 w6 b4 0 fun a7 =>
 Calls Tryz.prog 91 #[ofL a7,VI .i64 x1] w6 fun e9 w8 =>
 ∃ t10:Bool,e9=.returned (VB t10)/\(
 vIf (!t10)
 (Q (VB false) w8)
 (jnC C2 (x1,(x7.1,x7.2.1,x7.2.2),x8,((WR .i64 (x9+1))),()) w8)))
 (Q (VB true) w)
def F56.b2 (Q:QT):(Int×ST×Int×Int×Unit)->World->((Int×ST×Int×Int×Unit)->WT)->Prop:=fun s w C2=>∀ _:Nat->Value,F56.b2c Q C2 s.1 s.2.1 s.2.2.1 s.2.2.2.1 w
def F56.l2 (Q:QT):(Int×ST×Int×Int×Unit)->WT:=fun s w=>∃ n,loopC (F56.b2 Q) n s w
def F56.vc (x0A:Option Addr) (x0n x0c:Nat) (x1:Int) (w:World) (Q:QT):Prop :=
 jnC (F56.l2 Q) (x1,(x0A,x0n,x0c),((x0n:Int)),(0),()) w
def F56.an:Ann:=⟨[(2,[(1,.kI .i64),(7,.kSl),(8,.kI .i64),(9,.kI .i64)])],[]⟩
theorem F56.of (x0A:Option Addr) (x0n x0c:Nat) (x1:Int) (w:World) {Q:QT} (h:F56.vc x0A x0n x0c x1 w Q):Calls Tryz.prog 56 #[VS x0A x0n x0c,VI .i64 x1] w (fun e w'=>∃ v,e=.returned v/\Q v w'):=vcFn_of (A:=F56.an) noCount mixed h (by kernel_rfl)
def F57.k6c (Q:QT) (x4:NT) (x5:NT) (x6:Int) (w:World):Prop :=
 ldI .u64 w x5.1 (x5.2+1) fun i19 =>
 gd (([VS none 0 0] ++ ([VI .u64 i19] ++ ([VI .i64 x6] ++ ([VB false] ++ ([VI .i64 x6] ++ ([VI .i64 0] ++ [])))))).length == 6) <|
 st w x4.1 x4.2 ([VS none 0 0] ++ ([VI .u64 i19] ++ ([VI .i64 x6] ++ ([VB false] ++ ([VI .i64 x6] ++ ([VI .i64 0] ++ [])))))) fun w20 =>
 ldA 6 w20 x4.1 x4.2 fun a21 =>
 Q (ofL a21) w20
def F57.k6 (Q:QT):(NT×NT×Int×Unit)->WT:=fun s w=>∀ _:Nat->Value,F57.k6c Q s.1 s.2.1 s.2.2.1 w
def F57.vc (x0A:Option Addr) (x0n x0c:Nat) (x1:Int) (w:World) (Q:QT):Prop :=
 nw w Z27 27 fun b1 w2 =>
 Calls Tryz.prog 92 #[VS x0A x0n x0c,VI .i64 0] w2 fun e4 w3 =>
 ∃ a5:List Value,∃ i6:Int,∃ i7:Int,e4=.returned (VT #[ofL a5,VI .i64 i6,VI .i64 i7])/\(
 nw w3 Z48 48 fun b8 w9 =>
 gd (a5.length == 38) <|
 st w9 b8 0 a5 fun w10 =>
 vIf (i7 != 0)
 (gd (([VS none 0 0] ++ ([VI .u64 0] ++ ([VI .i64 0] ++ ([VB false] ++ ([VI .i64 0] ++ ([VI .i64 i7] ++ [])))))).length == 6) <|
 st w10 b1 0 ([VS none 0 0] ++ ([VI .u64 0] ++ ([VI .i64 0] ++ ([VB false] ++ ([VI .i64 0] ++ ([VI .i64 i7] ++ [])))))) fun w11 =>
 ldA 6 w11 b1 0 fun a12 =>
 Q (ofL a12) w11)
 (ldI .i64 w10 b8 0 fun i13 =>
 vIf (i13 != 7)
 (gd (([VS none 0 0] ++ ([VI .u64 0] ++ ([VI .i64 0] ++ ([VB false] ++ ([VI .i64 0] ++ ([VI .i64 3] ++ [])))))).length == 6) <|
 st w10 b1 0 ([VS none 0 0] ++ ([VI .u64 0] ++ ([VI .i64 0] ++ ([VB false] ++ ([VI .i64 0] ++ ([VI .i64 3] ++ [])))))) fun w14 =>
 ldA 6 w14 b1 0 fun a15 =>
 Q (ofL a15) w14)
 (ldI .i64 w10 b8 (0+36) fun i16 =>
 vIf (i16 != x1)
 (gd (([VS none 0 0] ++ ([VI .u64 0] ++ ([VI .i64 0] ++ ([VB false] ++ ([VI .i64 0] ++ ([VI .i64 3] ++ [])))))).length == 6) <|
 st w10 b1 0 ([VS none 0 0] ++ ([VI .u64 0] ++ ([VI .i64 0] ++ ([VB false] ++ ([VI .i64 0] ++ ([VI .i64 3] ++ [])))))) fun w17 =>
 ldA 6 w17 b1 0 fun a18 =>
 Q (ofL a18) w17)
 (jnC (F57.k6 Q) ((b1,0),(b8,0),i6,()) w10))))
def F57.an:Ann:=⟨[],[(6,[(4,.kL),(5,.kL),(6,.kI .i64)])]⟩
theorem F57.of (x0A:Option Addr) (x0n x0c:Nat) (x1:Int) (w:World) {Q:QT} (h:F57.vc x0A x0n x0c x1 w Q):Calls Tryz.prog 57 #[VS x0A x0n x0c,VI .i64 x1] w (fun e w'=>∃ v,e=.returned v/\Q v w'):=vcFn_of (A:=F57.an) noCount mixed h (by kernel_rfl)
def F58.vc (x0:Int) (x1:Nat×Nat) (w:World) (Q:QT):Prop :=
 nw w Z27 27 fun b1 w2 =>
 st w2 x1.1 (x1.2+5) [VI .i64 x0] fun w3 =>
 ldA 6 w3 x1.1 x1.2 fun a4 =>
 gd (a4.length == 6) <|
 st w3 b1 0 a4 fun w5 =>
 ldA 6 w5 b1 0 fun a6 =>
 Q (ofL a6) w5
def F58.an:Ann:=⟨[],[]⟩
theorem F58.of (x0:Int) (x1:Nat×Nat) (w:World) {Q:QT} (h:F58.vc x0 x1 w Q):Calls Tryz.prog 58 #[VI .i64 x0,VP (some ⟨x1.1,x1.2,none⟩)] w (fun e w'=>∃ v,e=.returned v/\Q v w'):=vcFn_of (A:=F58.an) noCount mixed h (by kernel_rfl)
def F59.k7c (Q:QT) (x2:NT) (x4:NT) (x6:NT) (x7:Int) (w:World):Prop :=
 ldI .u64 w x6.1 (x6.2+1) fun i23 =>
 st w x2.1 (x2.2+1) [VI .u64 i23] fun w24 =>
 st w24 x2.1 (x2.2+2) [VI .i64 x7] fun w25 =>
 st w25 x2.1 (x2.2+4) [VI .i64 x7] fun w26 =>
 st w26 x2.1 (x2.2+3) [VB true] fun w27 =>
 ldA 6 w27 x2.1 x2.2 fun a28 =>
 gd (a28.length == 6) <|
 st w27 x4.1 x4.2 a28 fun w29 =>
 ldA 6 w29 x4.1 x4.2 fun a30 =>
 Q (VT #[ofL a30,VB true]) w29
def F59.k7 (Q:QT):(NT×NT×NT×Int×Unit)->WT:=fun s w=>∀ _:Nat->Value,F59.k7c Q s.1 s.2.1 s.2.2.1 s.2.2.2.1 w
def F59.k5c (Q:QT) (x2:NT) (x4:NT) (x6:NT) (x7:Int) (x50:Bool) (w:World):Prop :=
 vIf x50
 (st w x2.1 (x2.2+5) [VI .i64 3] fun w19 =>
 ldA 6 w19 x2.1 x2.2 fun a20 =>
 gd (a20.length == 6) <|
 st w19 x4.1 x4.2 a20 fun w21 =>
 ldA 6 w21 x4.1 x4.2 fun a22 =>
 Q (VT #[ofL a22,VB true]) w21)
 (jnC (F59.k7 Q) ((x2.1,x2.2),(x4.1,x4.2),(x6.1,x6.2),x7,()) w)
def F59.k5 (Q:QT):(NT×NT×NT×Int×Bool×Unit)->WT:=fun s w=>∀ _:Nat->Value,F59.k5c Q s.1 s.2.1 s.2.2.1 s.2.2.2.1 s.2.2.2.2.1 w
def F59.k4c (Q:QT) (x1:ST) (x2:NT) (x4:NT) (x6:NT) (x7:Int) (w:World):Prop :=
 ldI .u64 w x6.1 (x6.2+1) fun i17 =>
 ldI .u64 w x2.1 (x2.2+1) fun i18 =>
 vIf (decide (i17<=i18))
 (jnC (F59.k5 Q) ((x2.1,x2.2),(x4.1,x4.2),(x6.1,x6.2),x7,true,()) w)
 (ldI .i64 w x6.1 (x6.2+36) fun i31 =>
 ldSl w x2.1 x2.2 fun A32 n33 c34 =>
 vIf (i31 != (n33:Int))
 (jnC (F59.k5 Q) ((x2.1,x2.2),(x4.1,x4.2),(x6.1,x6.2),x7,true,()) w)
 (ldI .i64 w x6.1 (x6.2+37) fun i35 =>
 ldI .i64 w x2.1 (x2.2+2) fun i36 =>
 vIf (i35 != i36)
 (jnC (F59.k5 Q) ((x2.1,x2.2),(x4.1,x4.2),(x6.1,x6.2),x7,true,()) w)
 (jnC (F59.k5 Q) ((x2.1,x2.2),(x4.1,x4.2),(x6.1,x6.2),x7,(x7 != (x1.2.1:Int)),()) w)))
def F59.k4 (Q:QT):(ST×NT×NT×NT×Int×Unit)->WT:=fun s w=>∀ _:Nat->Value,F59.k4c Q s.1 s.2.1 s.2.2.1 s.2.2.2.1 s.2.2.2.2.1 w
def F59.k3c (Q:QT) (x1:ST) (x2:NT) (x4:NT) (x6:NT) (x7:Int) (x23:Bool) (w:World):Prop :=
 vIf x23
 (ldA 6 w x2.1 x2.2 fun a14 =>
 gd (a14.length == 6) <|
 st w x4.1 x4.2 a14 fun w15 =>
 ldA 6 w15 x4.1 x4.2 fun a16 =>
 Q (VT #[ofL a16,VB false]) w15)
 (jnC (F59.k4 Q) ((x1.1,x1.2.1,x1.2.2),(x2.1,x2.2),(x4.1,x4.2),(x6.1,x6.2),x7,()) w)
def F59.k3 (Q:QT):(ST×NT×NT×NT×Int×Bool×Unit)->WT:=fun s w=>∀ _:Nat->Value,F59.k3c Q s.1 s.2.1 s.2.2.1 s.2.2.2.1 s.2.2.2.2.1 s.2.2.2.2.2.1 w
def F59.vc (x0:List Value) (x1A:Option Addr) (x1n x1c:Nat) (w:World) (Q:QT):Prop :=
 nw w x0 27 fun b1 w2 =>
 nw w2 Z27 27 fun b3 w4 =>
 ldI .i64 w4 b1 (0+2) fun i5 =>
 Calls Tryz.prog 92 #[VS x1A x1n x1c,VI .i64 i5] w4 fun e7 w6 =>
 ∃ a8:List Value,∃ i9:Int,∃ i10:Int,e7=.returned (VT #[ofL a8,VI .i64 i9,VI .i64 i10])/\(
 nw w6 Z48 48 fun b11 w12 =>
 gd (a8.length == 38) <|
 st w12 b11 0 a8 fun w13 =>
 vIf (i10 != 0)
 (jnC (F59.k3 Q) ((x1A,x1n,x1c),(b1,0),(b3,0),(b11,0),i9,true,()) w13)
 (ldI .i64 w13 b11 0 fun i37 =>
 jnC (F59.k3 Q) ((x1A,x1n,x1c),(b1,0),(b3,0),(b11,0),i9,(i37 != 8),()) w13))
def F59.an:Ann:=⟨[],[(3,[(1,.kSl),(2,.kL),(4,.kL),(6,.kL),(7,.kI .i64),(23,.kB)]),(4,[(1,.kSl),(2,.kL),(4,.kL),(6,.kL),(7,.kI .i64)]),(5,[(2,.kL),(4,.kL),(6,.kL),(7,.kI .i64),(50,.kB)]),(7,[(2,.kL),(4,.kL),(6,.kL),(7,.kI .i64)])]⟩
theorem F59.of (x0:List Value) (x1A:Option Addr) (x1n x1c:Nat) (w:World) {Q:QT} (h:F59.vc x0 x1A x1n x1c w Q):Calls Tryz.prog 59 #[ofL x0,VS x1A x1n x1c] w (fun e w'=>∃ v,e=.returned v/\Q v w'):=vcFn_of (A:=F59.an) noCount mixed h (by kernel_rfl)
def F60.k15c (Q:QT) (x13:Int) (w:World):Prop :=
 Q (VT #[VS none 0 0,VI .i64 0,VI .u64 0,VI .i64 x13]) w
def F60.k15 (Q:QT):(Int×Unit)->WT:=fun s w=>∀ _:Nat->Value,F60.k15c Q s.1 w
def F60.k14c (Q:QT) (C4:(ST×Int×Int×ST×Int×Int×Int×Unit)->WT) (x10:ST) (x14:NT) (x15:Int) (w:World):Prop :=
 ldI .u64 w.drew x14.1 (x14.2+1) fun i33 =>
 Q (VT #[VS x10.1 x10.2.1 x10.2.2,VI .i64 x15,VI .u64 i33,VI .i64 0]) w.drew
def F60.k14 (Q:QT) (C4:(ST×Int×Int×ST×Int×Int×Int×Unit)->WT):(ST×NT×Int×Unit)->WT:=fun s w=>∀ _:Nat->Value,F60.k14c Q C4 s.1 s.2.1 s.2.2.1 w
def F60.b4c (Q:QT) (C4:(ST×Int×Int×ST×Int×Int×Int×Unit)->WT) (x0:ST) (x1:Int) (x2:Int) (x10:ST) (x11:Int) (x12:Int) (x13:Int) (w:World):Prop :=
 Calls Tryz.prog 92 #[VS x0.1 x0.2.1 x0.2.2,VI .i64 x1] w fun e2 w1 =>
 ∃ a3:List Value,∃ i4:Int,∃ i5:Int,e2=.returned (VT #[ofL a3,VI .i64 i4,VI .i64 i5])/\(
 nw w1 Z48 48 fun b6 w7 =>
 gd (a3.length == 38) <|
 st w7 b6 0 a3 fun w8 =>
 vIf (i5 != 0)
 (jnC (F60.k15 Q) (i5,()) w8)
 (vIf ((x10.2.1:Int) == 0)
 (ldI .i64 w8 b6 0 fun i9 =>
 Calls Tryz.prog 93 #[VI .i64 i9] w8 fun e11 w10 =>
 ∃ t12:Bool,e11=.returned (VB t12)/\(
 vIf (!t12)
 (jnC (F60.k15 Q) (x13,()) w10)
 (vIf (!((x10.2.1:Int) == 0))
 (ldI .u64 w10 b6 (0+1) fun i13 =>
 vIf (i13 == 0)
 (jnC (F60.k15 Q) (x13,()) w10)
 (ldI .u64 w10 b6 (0+1) fun i14 =>
 vIf ((WR .u64 (i14 - 1)) != x12)
 (jnC (F60.k15 Q) (x13,()) w10)
 (ldI .i64 w10 b6 0 fun i15 =>
 Calls Tryz.prog 93 #[VI .i64 i15] w10 fun e17 w16 =>
 ∃ t18:Bool,e17=.returned (VB t18)/\(
 vIf t18
 (ldA 38 w16 b6 0 fun a19 =>
 Calls Tryz.prog 94 #[ofL a19,ofL ([VI .i64 x2] ++ ([VI .i64 x1] ++ ([VI .i64 (WR .i64 (i4 - x1))] ++ [])))] w16 fun e21 w20 =>
 ∃ a22:List Value,e21=.returned (ofL a22)/\(
 gd (a22.length == 39) <|
 nw w20 (a22 ++ []) 56 fun b23 w24 =>
 app w24 39 96 Z56 56 x10.1 x10.2.1 x10.2.2 (VS (some ⟨b23,0,none⟩) 1 1) fun A25 n26 c27 w28 =>
 ldI .u64 w28 b6 (0+1) fun i29 =>
 jnC C4 ((x0.1,x0.2.1,x0.2.2),i4,x2,(A25,n26,c27),x11,i29,x13,()) w28))
 (ldI .i64 w16 b6 0 fun i30 =>
 vIf (i30 != 6)
 (jnC (F60.k15 Q) (x13,()) w16)
 (ldI .i64 w16 b6 (0+36) fun i31 =>
 vIf (i31 != (x10.2.1:Int))
 (jnC (F60.k15 Q) (x13,()) w16)
 (ldI .i64 w16 b6 (0+37) fun i32 =>
 vIf (i32 != (WR .i64 (x1 - x11)))
 (jnC (F60.k15 Q) (x13,()) w16)
 (jnC (F60.k14 Q C4) ((x10.1,x10.2.1,x10.2.2),(b6,0),i4,()) w16))))))))
 (ldI .i64 w10 b6 0 fun i34 =>
 Calls Tryz.prog 93 #[VI .i64 i34] w10 fun e36 w35 =>
 ∃ t37:Bool,e36=.returned (VB t37)/\(
 vIf t37
 (ldA 38 w35 b6 0 fun a38 =>
 Calls Tryz.prog 94 #[ofL a38,ofL ([VI .i64 x2] ++ ([VI .i64 x1] ++ ([VI .i64 (WR .i64 (i4 - x1))] ++ [])))] w35 fun e40 w39 =>
 ∃ a41:List Value,e40=.returned (ofL a41)/\(
 gd (a41.length == 39) <|
 nw w39 (a41 ++ []) 56 fun b42 w43 =>
 app w43 39 96 Z56 56 x10.1 x10.2.1 x10.2.2 (VS (some ⟨b42,0,none⟩) 1 1) fun A44 n45 c46 w47 =>
 ldI .u64 w47 b6 (0+1) fun i48 =>
 jnC C4 ((x0.1,x0.2.1,x0.2.2),i4,x2,(A44,n45,c46),x11,i48,x13,()) w47))
 (ldI .i64 w35 b6 0 fun i49 =>
 vIf (i49 != 6)
 (jnC (F60.k15 Q) (x13,()) w35)
 (ldI .i64 w35 b6 (0+36) fun i50 =>
 vIf (i50 != (x10.2.1:Int))
 (jnC (F60.k15 Q) (x13,()) w35)
 (ldI .i64 w35 b6 (0+37) fun i51 =>
 vIf (i51 != (WR .i64 (x1 - x11)))
 (jnC (F60.k15 Q) (x13,()) w35)
 (jnC (F60.k14 Q C4) ((x10.1,x10.2.1,x10.2.2),(b6,0),i4,()) w35)))))))))
 (vIf (!((x10.2.1:Int) == 0))
 (ldI .u64 w8 b6 (0+1) fun i52 =>
 vIf (i52 == 0)
 (jnC (F60.k15 Q) (x13,()) w8)
 (ldI .u64 w8 b6 (0+1) fun i53 =>
 vIf ((WR .u64 (i53 - 1)) != x12)
 (jnC (F60.k15 Q) (x13,()) w8)
 (ldI .i64 w8 b6 0 fun i54 =>
 Calls Tryz.prog 93 #[VI .i64 i54] w8 fun e56 w55 =>
 ∃ t57:Bool,e56=.returned (VB t57)/\(
 vIf t57
 (ldA 38 w55 b6 0 fun a58 =>
 Calls Tryz.prog 94 #[ofL a58,ofL ([VI .i64 x2] ++ ([VI .i64 x1] ++ ([VI .i64 (WR .i64 (i4 - x1))] ++ [])))] w55 fun e60 w59 =>
 ∃ a61:List Value,e60=.returned (ofL a61)/\(
 gd (a61.length == 39) <|
 nw w59 (a61 ++ []) 56 fun b62 w63 =>
 app w63 39 96 Z56 56 x10.1 x10.2.1 x10.2.2 (VS (some ⟨b62,0,none⟩) 1 1) fun A64 n65 c66 w67 =>
 ldI .u64 w67 b6 (0+1) fun i68 =>
 jnC C4 ((x0.1,x0.2.1,x0.2.2),i4,x2,(A64,n65,c66),x11,i68,x13,()) w67))
 (ldI .i64 w55 b6 0 fun i69 =>
 vIf (i69 != 6)
 (jnC (F60.k15 Q) (x13,()) w55)
 (ldI .i64 w55 b6 (0+36) fun i70 =>
 vIf (i70 != (x10.2.1:Int))
 (jnC (F60.k15 Q) (x13,()) w55)
 (ldI .i64 w55 b6 (0+37) fun i71 =>
 vIf (i71 != (WR .i64 (x1 - x11)))
 (jnC (F60.k15 Q) (x13,()) w55)
 (jnC (F60.k14 Q C4) ((x10.1,x10.2.1,x10.2.2),(b6,0),i4,()) w55))))))))
 (ldI .i64 w8 b6 0 fun i72 =>
 Calls Tryz.prog 93 #[VI .i64 i72] w8 fun e74 w73 =>
 ∃ t75:Bool,e74=.returned (VB t75)/\(
 vIf t75
 (ldA 38 w73 b6 0 fun a76 =>
 Calls Tryz.prog 94 #[ofL a76,ofL ([VI .i64 x2] ++ ([VI .i64 x1] ++ ([VI .i64 (WR .i64 (i4 - x1))] ++ [])))] w73 fun e78 w77 =>
 ∃ a79:List Value,e78=.returned (ofL a79)/\(
 gd (a79.length == 39) <|
 nw w77 (a79 ++ []) 56 fun b80 w81 =>
 app w81 39 96 Z56 56 x10.1 x10.2.1 x10.2.2 (VS (some ⟨b80,0,none⟩) 1 1) fun A82 n83 c84 w85 =>
 ldI .u64 w85 b6 (0+1) fun i86 =>
 jnC C4 ((x0.1,x0.2.1,x0.2.2),i4,x2,(A82,n83,c84),x11,i86,x13,()) w85))
 (ldI .i64 w73 b6 0 fun i87 =>
 vIf (i87 != 6)
 (jnC (F60.k15 Q) (x13,()) w73)
 (ldI .i64 w73 b6 (0+36) fun i88 =>
 vIf (i88 != (x10.2.1:Int))
 (jnC (F60.k15 Q) (x13,()) w73)
 (ldI .i64 w73 b6 (0+37) fun i89 =>
 vIf (i89 != (WR .i64 (x1 - x11)))
 (jnC (F60.k15 Q) (x13,()) w73)
 (jnC (F60.k14 Q C4) ((x10.1,x10.2.1,x10.2.2),(b6,0),i4,()) w73)))))))))
def F60.b4 (Q:QT):(ST×Int×Int×ST×Int×Int×Int×Unit)->World->((ST×Int×Int×ST×Int×Int×Int×Unit)->WT)->Prop:=fun s w C4=>∀ _:Nat->Value,F60.b4c Q C4 s.1 s.2.1 s.2.2.1 s.2.2.2.1 s.2.2.2.2.1 s.2.2.2.2.2.1 s.2.2.2.2.2.2.1 w
def F60.l4 (Q:QT):(ST×Int×Int×ST×Int×Int×Int×Unit)->WT:=fun s w=>∃ n,loopC (F60.b4 Q) n s w
def F60.vc (x0A:Option Addr) (x0n x0c:Nat) (x1:Int) (x2:Int) (w:World) (Q:QT):Prop :=
 jnC (F60.l4 Q) ((x0A,x0n,x0c),x1,x2,(none,0,0),x1,(0),(3),()) w
def F60.an:Ann:=⟨[(4,[(0,.kSl),(1,.kI .i64),(2,.kI .i64),(10,.kSl),(11,.kI .i64),(12,.kI .u64),(13,.kI .i64)])],[(14,[(10,.kSl),(14,.kL),(15,.kI .i64)]),(15,[(13,.kI .i64)])]⟩
theorem F60.of (x0A:Option Addr) (x0n x0c:Nat) (x1:Int) (x2:Int) (w:World) {Q:QT} (h:F60.vc x0A x0n x0c x1 x2 w Q):Calls Tryz.prog 60 #[VS x0A x0n x0c,VI .i64 x1,VI .i64 x2] w (fun e w'=>∃ v,e=.returned v/\Q v w'):=vcFn_of (A:=F60.an) noCount mixed h (by kernel_rfl)
def F24.vc  (w:World) (Q:QT):Prop :=
 nw w ([VG (⟨#[]⟩:ByteArray)] ++ ([VG (⟨#[115,101,103,45]⟩:ByteArray)] ++ ([VG (⟨#[104,105,110,116,45]⟩:ByteArray)] ++ ([VG (⟨#[112,111,105,110,116,45]⟩:ByteArray)] ++ [])))) 9 fun b1 w2 =>
 Q (VS (some ⟨b1,0,none⟩) 4 4) w2
def F24.an:Ann:=⟨[],[]⟩
theorem F24.of  (w:World) {Q:QT} (h:F24.vc  w Q):Calls Tryz.prog 24 #[] w (fun e w'=>∃ v,e=.returned v/\Q v w'):=vcFn_of (A:=F24.an) noCount mixed h (by kernel_rfl)
def F16.vc (x0:Int) (w:World) (Q:QT):Prop :=
 vIf (decide (x0<=3))
 (vIf (x0 == 3)
 (Q (VT #[VB true,VB true,VB (decide (x0<=2))]) w)
 (Q (VT #[VB true,VB (x0 == 4),VB (decide (x0<=2))]) w))
 (vIf (x0 == 3)
 (Q (VT #[VB (x0 == 5),VB true,VB (decide (x0<=2))]) w)
 (Q (VT #[VB (x0 == 5),VB (x0 == 4),VB (decide (x0<=2))]) w))
def F16.an:Ann:=⟨[],[]⟩
theorem F16.of (x0:Int) (w:World) {Q:QT} (h:F16.vc x0 w Q):Calls Tryz.prog 16 #[VI .i64 x0] w (fun e w'=>∃ v,e=.returned v/\Q v w'):=vcFn_of (A:=F16.an) noCount mixed h (by kernel_rfl)
def F14.k8c (Q:QT) (C2:(ST×Int×Int×Unit)->WT) (x0:ST) (x1:Int) (x5:Int) (x6:NT) (x7:Bool) (x8:Bool) (x9:Bool) (w:World):Prop :=
 nw w Z46 46 fun b22 w23 =>
 gd (([VI .u8 0] ++ ([VI .u8 0] ++ ([VI .u8 0] ++ ([VI .u8 0] ++ ([VI .u8 0] ++ ([VI .u8 0] ++ ([VI .u8 0] ++ ([VI .u8 0] ++ ([VI .u8 0] ++ ([VI .u8 0] ++ ([VI .u8 0] ++ ([VI .u8 0] ++ ([VI .u8 0] ++ ([VI .u8 0] ++ ([VI .u8 0] ++ ([VI .u8 0] ++ ([VI .u8 0] ++ ([VI .u8 0] ++ ([VI .u8 0] ++ ([VI .u8 0] ++ ([VI .u8 0] ++ ([VI .u8 0] ++ ([VI .u8 0] ++ ([VI .u8 0] ++ ([VI .u8 0] ++ ([VI .u8 0] ++ ([VI .u8 0] ++ ([VI .u8 0] ++ ([VI .u8 0] ++ ([VI .u8 0] ++ ([VI .u8 0] ++ ([VI .u8 0] ++ [])))))))))))))))))))))))))))))))).length == 32) <|
 st w23 b22 0 ([VI .u8 0] ++ ([VI .u8 0] ++ ([VI .u8 0] ++ ([VI .u8 0] ++ ([VI .u8 0] ++ ([VI .u8 0] ++ ([VI .u8 0] ++ ([VI .u8 0] ++ ([VI .u8 0] ++ ([VI .u8 0] ++ ([VI .u8 0] ++ ([VI .u8 0] ++ ([VI .u8 0] ++ ([VI .u8 0] ++ ([VI .u8 0] ++ ([VI .u8 0] ++ ([VI .u8 0] ++ ([VI .u8 0] ++ ([VI .u8 0] ++ ([VI .u8 0] ++ ([VI .u8 0] ++ ([VI .u8 0] ++ ([VI .u8 0] ++ ([VI .u8 0] ++ ([VI .u8 0] ++ ([VI .u8 0] ++ ([VI .u8 0] ++ ([VI .u8 0] ++ ([VI .u8 0] ++ ([VI .u8 0] ++ ([VI .u8 0] ++ ([VI .u8 0] ++ [])))))))))))))))))))))))))))))))) fun w24 =>
 vIf (!x7)
 (ldA 32 w24 x6.1 (x6.2+2) fun a25 =>
 ldA 32 w24 b22 0 fun a26 =>
 eqAB 32 a25 a26 fun t27 =>
 vIf (!t27)
 (Q (VB false) w24)
 (vIf (!x8)
 (ldS w24 x6.1 (x6.2+34) fun s28 =>
 vIf (!(s28.toList == (⟨#[]⟩:ByteArray).toList))
 (Q (VB false) w24)
 (vIf x8
 (ldS w24 x6.1 (x6.2+34) fun s29 =>
 Calls Tryz.prog 35 #[VG s29] w24 fun e31 w30 =>
 ∃ t32:Bool,e31=.returned (VB t32)/\(
 vIf (!t32)
 (Q (VB false) w30)
 (vIf (!x9)
 (ldI .i64 w30 x6.1 (x6.2+35) fun i33 =>
 vIf (decide (i33 > 0))
 (Q (VB false) w30)
 (jnC C2 ((x0.1,x0.2.1,x0.2.2),x1,((WR .i64 (x5+1))),()) w30))
 (jnC C2 ((x0.1,x0.2.1,x0.2.2),x1,((WR .i64 (x5+1))),()) w30))))
 (vIf (!x9)
 (ldI .i64 w24 x6.1 (x6.2+35) fun i34 =>
 vIf (decide (i34 > 0))
 (Q (VB false) w24)
 (jnC C2 ((x0.1,x0.2.1,x0.2.2),x1,((WR .i64 (x5+1))),()) w24))
 (jnC C2 ((x0.1,x0.2.1,x0.2.2),x1,((WR .i64 (x5+1))),()) w24))))
 (vIf x8
 (ldS w24 x6.1 (x6.2+34) fun s35 =>
 Calls Tryz.prog 35 #[VG s35] w24 fun e37 w36 =>
 ∃ t38:Bool,e37=.returned (VB t38)/\(
 vIf (!t38)
 (Q (VB false) w36)
 (vIf (!x9)
 (ldI .i64 w36 x6.1 (x6.2+35) fun i39 =>
 vIf (decide (i39 > 0))
 (Q (VB false) w36)
 (jnC C2 ((x0.1,x0.2.1,x0.2.2),x1,((WR .i64 (x5+1))),()) w36))
 (jnC C2 ((x0.1,x0.2.1,x0.2.2),x1,((WR .i64 (x5+1))),()) w36))))
 (vIf (!x9)
 (ldI .i64 w24 x6.1 (x6.2+35) fun i40 =>
 vIf (decide (i40 > 0))
 (Q (VB false) w24)
 (jnC C2 ((x0.1,x0.2.1,x0.2.2),x1,((WR .i64 (x5+1))),()) w24))
 (jnC C2 ((x0.1,x0.2.1,x0.2.2),x1,((WR .i64 (x5+1))),()) w24)))))
 (vIf (!x8)
 (ldS w24 x6.1 (x6.2+34) fun s41 =>
 vIf (!(s41.toList == (⟨#[]⟩:ByteArray).toList))
 (Q (VB false) w24)
 (vIf x8
 (ldS w24 x6.1 (x6.2+34) fun s42 =>
 Calls Tryz.prog 35 #[VG s42] w24 fun e44 w43 =>
 ∃ t45:Bool,e44=.returned (VB t45)/\(
 vIf (!t45)
 (Q (VB false) w43)
 (vIf (!x9)
 (ldI .i64 w43 x6.1 (x6.2+35) fun i46 =>
 vIf (decide (i46 > 0))
 (Q (VB false) w43)
 (jnC C2 ((x0.1,x0.2.1,x0.2.2),x1,((WR .i64 (x5+1))),()) w43))
 (jnC C2 ((x0.1,x0.2.1,x0.2.2),x1,((WR .i64 (x5+1))),()) w43))))
 (vIf (!x9)
 (ldI .i64 w24 x6.1 (x6.2+35) fun i47 =>
 vIf (decide (i47 > 0))
 (Q (VB false) w24)
 (jnC C2 ((x0.1,x0.2.1,x0.2.2),x1,((WR .i64 (x5+1))),()) w24))
 (jnC C2 ((x0.1,x0.2.1,x0.2.2),x1,((WR .i64 (x5+1))),()) w24))))
 (vIf x8
 (ldS w24 x6.1 (x6.2+34) fun s48 =>
 Calls Tryz.prog 35 #[VG s48] w24 fun e50 w49 =>
 ∃ t51:Bool,e50=.returned (VB t51)/\(
 vIf (!t51)
 (Q (VB false) w49)
 (vIf (!x9)
 (ldI .i64 w49 x6.1 (x6.2+35) fun i52 =>
 vIf (decide (i52 > 0))
 (Q (VB false) w49)
 (jnC C2 ((x0.1,x0.2.1,x0.2.2),x1,((WR .i64 (x5+1))),()) w49))
 (jnC C2 ((x0.1,x0.2.1,x0.2.2),x1,((WR .i64 (x5+1))),()) w49))))
 (vIf (!x9)
 (ldI .i64 w24 x6.1 (x6.2+35) fun i53 =>
 vIf (decide (i53 > 0))
 (Q (VB false) w24)
 (jnC C2 ((x0.1,x0.2.1,x0.2.2),x1,((WR .i64 (x5+1))),()) w24))
 (jnC C2 ((x0.1,x0.2.1,x0.2.2),x1,((WR .i64 (x5+1))),()) w24))))
def F14.k8 (Q:QT) (C2:(ST×Int×Int×Unit)->WT):(ST×Int×Int×NT×Bool×Bool×Bool×Unit)->WT:=fun s w=>∀ _:Nat->Value,F14.k8c Q C2 s.1 s.2.1 s.2.2.1 s.2.2.2.1 s.2.2.2.2.1 s.2.2.2.2.2.1 s.2.2.2.2.2.2.1 w
def F14.b2c (Q:QT) (C2:(ST×Int×Int×Unit)->WT) (x0:ST) (x1:Int) (x5:Int) (w:World):Prop :=
 vIf (decide (x5 < (x0.2.1:Int)))
 (dr x0.1 fun b1 o2 =>
 gd (decide (0<=x5)) <|
 gd (decide (x5 < (x0.2.1:Int))) <|
 ldA 39 w b1 (o2+(x5).toNat * 39) fun a3 =>
 nw w Z56 56 fun b4 w5 =>
 gd (a3.length == 39) <|
 st w5 b4 0 a3 fun w6 =>
 ldI .i64 w6 b4 0 fun i7 =>
 Calls Tryz.prog 16 #[VI .i64 i7] w6 fun e9 w8 =>
 ∃ t10:Bool,∃ t11:Bool,∃ t12:Bool,e9=.returned (VT #[VB t10,VB t11,VB t12])/\(
 ldI .i64 w8 b4 0 fun i13 =>
 vIf (decide (i13 < 1))
 (Q (VB false) w8)
 (ldI .i64 w8 b4 0 fun i14 =>
 vIf (decide (i14 > 5))
 (Q (VB false) w8)
 (ldI .i64 w8 b4 (0+36) fun i15 =>
 vIf (i15 != x1)
 (Q (VB false) w8)
 (ldI .i64 w8 b4 ((0+36)+1) fun i16 =>
 vIf (decide (i16 < 0))
 (Q (VB false) w8)
 (ldI .i64 w8 b4 ((0+36)+1) fun i17 =>
 vIf (decide (i17 > 1048576))
 (Q (VB false) w8)
 (ldI .i64 w8 b4 ((0+36)+2) fun i18 =>
 vIf (decide (i18 < 0))
 (Q (VB false) w8)
 (ldI .i64 w8 b4 ((0+36)+2) fun i19 =>
 vIf (decide (i19 > 1048576))
 (Q (VB false) w8)
 (ldI .i64 w8 b4 (0+35) fun i20 =>
 vIf (decide (i20 < 0))
 (Q (VB false) w8)
 (ldI .i64 w8 b4 (0+35) fun i21 =>
 vIf (decide (i21 > 1048576))
 (Q (VB false) w8)
 (jnC (F14.k8 Q C2) ((x0.1,x0.2.1,x0.2.2),x1,x5,(b4,0),t10,t11,t12,()) w8)))))))))))
 (Q (VB true) w)
def F14.b2 (Q:QT):(ST×Int×Int×Unit)->World->((ST×Int×Int×Unit)->WT)->Prop:=fun s w C2=>∀ _:Nat->Value,F14.b2c Q C2 s.1 s.2.1 s.2.2.1 w
def F14.l2 (Q:QT):(ST×Int×Int×Unit)->WT:=fun s w=>∃ n,loopC (F14.b2 Q) n s w
def F14.vc (x0A:Option Addr) (x0n x0c:Nat) (x1:Int) (w:World) (Q:QT):Prop :=
 jnC (F14.l2 Q) ((x0A,x0n,x0c),x1,(0),()) w
def F14.an:Ann:=⟨[(2,[(0,.kSl),(1,.kI .i64),(5,.kI .i64)])],[(8,[(0,.kSl),(1,.kI .i64),(5,.kI .i64),(6,.kL),(7,.kB),(8,.kB),(9,.kB)])]⟩
theorem F14.of (x0A:Option Addr) (x0n x0c:Nat) (x1:Int) (w:World) {Q:QT} (h:F14.vc x0A x0n x0c x1 w Q):Calls Tryz.prog 14 #[VS x0A x0n x0c,VI .i64 x1] w (fun e w'=>∃ v,e=.returned v/\Q v w'):=vcFn_of (A:=F14.an) noCount mixed h (by kernel_rfl)
def F12.vc (x0A:Option Addr) (x0n x0c:Nat) (x1:Int) (w:World) (Q:QT):Prop :=
 nw w Z48 48 fun b1 w2 =>
 Calls Tryz.prog 31 #[VS x0A x0n x0c,VI .i64 x1] w2 fun e4 w3 =>
 ∃ a5:List Value,∃ i6:Int,e4=.returned (VT #[ofL a5,VI .i64 i6])/\(
 nw w3 Z95 95 fun b7 w8 =>
 gd (a5.length == 4) <|
 st w8 b7 0 a5 fun w9 =>
 vIf (i6 != 0)
 (gd (([VI .i64 0] ++ ([VI .u64 0] ++ ([VI .u8 0,VI .u8 0,VI .u8 0,VI .u8 0,VI .u8 0,VI .u8 0,VI .u8 0,VI .u8 0,VI .u8 0,VI .u8 0,VI .u8 0,VI .u8 0,VI .u8 0,VI .u8 0,VI .u8 0,VI .u8 0,VI .u8 0,VI .u8 0,VI .u8 0,VI .u8 0,VI .u8 0,VI .u8 0,VI .u8 0,VI .u8 0,VI .u8 0,VI .u8 0,VI .u8 0,VI .u8 0,VI .u8 0,VI .u8 0,VI .u8 0,VI .u8 0] ++ ([VG (⟨#[]⟩:ByteArray)] ++ ([VS none 0 0] ++ ([VI .i64 0] ++ ([VI .i64 0] ++ []))))))).length == 38) <|
 st w9 b1 0 ([VI .i64 0] ++ ([VI .u64 0] ++ ([VI .u8 0,VI .u8 0,VI .u8 0,VI .u8 0,VI .u8 0,VI .u8 0,VI .u8 0,VI .u8 0,VI .u8 0,VI .u8 0,VI .u8 0,VI .u8 0,VI .u8 0,VI .u8 0,VI .u8 0,VI .u8 0,VI .u8 0,VI .u8 0,VI .u8 0,VI .u8 0,VI .u8 0,VI .u8 0,VI .u8 0,VI .u8 0,VI .u8 0,VI .u8 0,VI .u8 0,VI .u8 0,VI .u8 0,VI .u8 0,VI .u8 0,VI .u8 0] ++ ([VG (⟨#[]⟩:ByteArray)] ++ ([VS none 0 0] ++ ([VI .i64 0] ++ ([VI .i64 0] ++ []))))))) fun w10 =>
 ldA 38 w10 b1 0 fun a11 =>
 Q (VT #[ofL a11,VI .i64 0,VI .i64 i6]) w10)
 (ldI .i64 w9 b7 0 fun i12 =>
 ldSl w9 b7 (0+2) fun A13 n14 c15 =>
 Calls Tryz.prog 32 #[VI .i64 i12,VS A13 n14 c15] w9 fun e17 w16 =>
 ∃ a18:List Value,∃ t19:Bool,e17=.returned (VT #[ofL a18,VB t19])/\(
 nw w16 Z48 48 fun b20 w21 =>
 gd (a18.length == 38) <|
 st w21 b20 0 a18 fun w22 =>
 vIf (!t19)
 (gd (([VI .i64 0] ++ ([VI .u64 0] ++ ([VI .u8 0,VI .u8 0,VI .u8 0,VI .u8 0,VI .u8 0,VI .u8 0,VI .u8 0,VI .u8 0,VI .u8 0,VI .u8 0,VI .u8 0,VI .u8 0,VI .u8 0,VI .u8 0,VI .u8 0,VI .u8 0,VI .u8 0,VI .u8 0,VI .u8 0,VI .u8 0,VI .u8 0,VI .u8 0,VI .u8 0,VI .u8 0,VI .u8 0,VI .u8 0,VI .u8 0,VI .u8 0,VI .u8 0,VI .u8 0,VI .u8 0,VI .u8 0] ++ ([VG (⟨#[]⟩:ByteArray)] ++ ([VS none 0 0] ++ ([VI .i64 0] ++ ([VI .i64 0] ++ []))))))).length == 38) <|
 st w22 b1 0 ([VI .i64 0] ++ ([VI .u64 0] ++ ([VI .u8 0,VI .u8 0,VI .u8 0,VI .u8 0,VI .u8 0,VI .u8 0,VI .u8 0,VI .u8 0,VI .u8 0,VI .u8 0,VI .u8 0,VI .u8 0,VI .u8 0,VI .u8 0,VI .u8 0,VI .u8 0,VI .u8 0,VI .u8 0,VI .u8 0,VI .u8 0,VI .u8 0,VI .u8 0,VI .u8 0,VI .u8 0,VI .u8 0,VI .u8 0,VI .u8 0,VI .u8 0,VI .u8 0,VI .u8 0,VI .u8 0,VI .u8 0] ++ ([VG (⟨#[]⟩:ByteArray)] ++ ([VS none 0 0] ++ ([VI .i64 0] ++ ([VI .i64 0] ++ []))))))) fun w23 =>
 ldA 38 w23 b1 0 fun a24 =>
 Q (VT #[ofL a24,VI .i64 0,VI .i64 3]) w23)
 (ldA 38 w22 b20 0 fun a25 =>
 Calls Tryz.prog 33 #[ofL a25] w22 fun e27 w26 =>
 ∃ i28:Int,e27=.returned (VI .i64 i28)/\(
 vIf (i28 != 0)
 (ldA 38 w26 b20 0 fun a29 =>
 Calls Tryz.prog 33 #[ofL a29] w26 fun e31 w30 =>
 ∃ i32:Int,e31=.returned (VI .i64 i32)/\(
 gd (([VI .i64 0] ++ ([VI .u64 0] ++ ([VI .u8 0,VI .u8 0,VI .u8 0,VI .u8 0,VI .u8 0,VI .u8 0,VI .u8 0,VI .u8 0,VI .u8 0,VI .u8 0,VI .u8 0,VI .u8 0,VI .u8 0,VI .u8 0,VI .u8 0,VI .u8 0,VI .u8 0,VI .u8 0,VI .u8 0,VI .u8 0,VI .u8 0,VI .u8 0,VI .u8 0,VI .u8 0,VI .u8 0,VI .u8 0,VI .u8 0,VI .u8 0,VI .u8 0,VI .u8 0,VI .u8 0,VI .u8 0] ++ ([VG (⟨#[]⟩:ByteArray)] ++ ([VS none 0 0] ++ ([VI .i64 0] ++ ([VI .i64 0] ++ []))))))).length == 38) <|
 st w30 b1 0 ([VI .i64 0] ++ ([VI .u64 0] ++ ([VI .u8 0,VI .u8 0,VI .u8 0,VI .u8 0,VI .u8 0,VI .u8 0,VI .u8 0,VI .u8 0,VI .u8 0,VI .u8 0,VI .u8 0,VI .u8 0,VI .u8 0,VI .u8 0,VI .u8 0,VI .u8 0,VI .u8 0,VI .u8 0,VI .u8 0,VI .u8 0,VI .u8 0,VI .u8 0,VI .u8 0,VI .u8 0,VI .u8 0,VI .u8 0,VI .u8 0,VI .u8 0,VI .u8 0,VI .u8 0,VI .u8 0,VI .u8 0] ++ ([VG (⟨#[]⟩:ByteArray)] ++ ([VS none 0 0] ++ ([VI .i64 0] ++ ([VI .i64 0] ++ []))))))) fun w33 =>
 ldA 38 w33 b1 0 fun a34 =>
 Q (VT #[ofL a34,VI .i64 0,VI .i64 i32]) w33))
 (ldI .u64 w26 b7 (0+1) fun i35 =>
 st w26 b20 (0+1) [VI .u64 i35] fun w36 =>
 ldA 38 w36.drew b20 0 fun a37 =>
 ldI .i64 w36.drew b7 (0+3) fun i38 =>
 gd (a37.length == 38) <|
 st w36.drew b1 0 a37 fun w39 =>
 kp w36.drew b7 (0+3) 1 w39 <|
 ldA 38 w39 b1 0 fun a40 =>
 Q (VT #[ofL a40,VI .i64 i38,VI .i64 0]) w39))))))
def F12.an:Ann:=⟨[],[]⟩
theorem F12.of (x0A:Option Addr) (x0n x0c:Nat) (x1:Int) (w:World) {Q:QT} (h:F12.vc x0A x0n x0c x1 w Q):Calls Tryz.prog 12 #[VS x0A x0n x0c,VI .i64 x1] w (fun e w'=>∃ v,e=.returned v/\Q v w'):=vcFn_of (A:=F12.an) noCount mixed h (by kernel_rfl)
def F13.k13c (Q:QT) (C4:(ST×Int×Int×ST×Int×Int×Unit)->WT) (x0:ST) (x1:Int) (x2:Int) (x10:ST) (x11:Int) (x12:Int) (x13:NT) (x14:Int) (w:World):Prop :=
 ldI .i64 w x13.1 x13.2 fun i14 =>
 vIf (decide (i14 > 5))
 (Q (VT #[VS none 0 0,VI .i64 0,VI .u64 0,VI .i64 3]) w)
 (ldA 38 w x13.1 x13.2 fun a15 =>
 Calls Tryz.prog 34 #[ofL a15,ofL ([VI .i64 x2] ++ ([VI .i64 x1] ++ ([VI .i64 (WR .i64 (x14 - x1))] ++ [])))] w fun e17 w16 =>
 ∃ a18:List Value,e17=.returned (ofL a18)/\(
 gd (a18.length == 39) <|
 nw w16 (a18 ++ []) 56 fun b19 w20 =>
 app w20 39 96 Z56 56 x10.1 x10.2.1 x10.2.2 (VS (some ⟨b19,0,none⟩) 1 1) fun A21 n22 c23 w24 =>
 jnC C4 ((x0.1,x0.2.1,x0.2.2),x14,x2,(A21,n22,c23),x11,((WR .i64 (x12+1))),()) w24))
def F13.k13 (Q:QT) (C4:(ST×Int×Int×ST×Int×Int×Unit)->WT):(ST×Int×Int×ST×Int×Int×NT×Int×Unit)->WT:=fun s w=>∀ _:Nat->Value,F13.k13c Q C4 s.1 s.2.1 s.2.2.1 s.2.2.2.1 s.2.2.2.2.1 s.2.2.2.2.2.1 s.2.2.2.2.2.2.1 s.2.2.2.2.2.2.2.1 w
def F13.k12c (Q:QT) (C4:(ST×Int×Int×ST×Int×Int×Unit)->WT) (x0:ST) (x1:Int) (x2:Int) (x10:ST) (x11:Int) (x12:Int) (x13:NT) (x14:Int) (x76:Bool) (w:World):Prop :=
 vIf x76
 (ldI .u64 w.drew x13.1 (x13.2+1) fun i13 =>
 Q (VT #[VS x10.1 x10.2.1 x10.2.2,VI .i64 x14,VI .u64 i13,VI .i64 0]) w.drew)
 (jnC (F13.k13 Q C4) ((x0.1,x0.2.1,x0.2.2),x1,x2,(x10.1,x10.2.1,x10.2.2),x11,x12,(x13.1,x13.2),x14,()) w)
def F13.k12 (Q:QT) (C4:(ST×Int×Int×ST×Int×Int×Unit)->WT):(ST×Int×Int×ST×Int×Int×NT×Int×Bool×Unit)->WT:=fun s w=>∀ _:Nat->Value,F13.k12c Q C4 s.1 s.2.1 s.2.2.1 s.2.2.2.1 s.2.2.2.2.1 s.2.2.2.2.2.1 s.2.2.2.2.2.2.1 s.2.2.2.2.2.2.2.1 s.2.2.2.2.2.2.2.2.1 w
def F13.k11c (Q:QT) (C4:(ST×Int×Int×ST×Int×Int×Unit)->WT) (x0:ST) (x1:Int) (x2:Int) (x10:ST) (x11:Int) (x12:Int) (x13:NT) (x14:Int) (w:World):Prop :=
 ldI .i64 w x13.1 x13.2 fun i10 =>
 vIf (i10 == 6)
 (vIf (decide ((x10.2.1:Int) > 0))
 (ldI .i64 w x13.1 (x13.2+36) fun i11 =>
 vIf (i11 == (x10.2.1:Int))
 (ldI .i64 w x13.1 (x13.2+37) fun i12 =>
 jnC (F13.k12 Q C4) ((x0.1,x0.2.1,x0.2.2),x1,x2,(x10.1,x10.2.1,x10.2.2),x11,x12,(x13.1,x13.2),x14,(i12 == (WR .i64 (x1 - x11))),()) w)
 (jnC (F13.k12 Q C4) ((x0.1,x0.2.1,x0.2.2),x1,x2,(x10.1,x10.2.1,x10.2.2),x11,x12,(x13.1,x13.2),x14,false,()) w))
 (jnC (F13.k12 Q C4) ((x0.1,x0.2.1,x0.2.2),x1,x2,(x10.1,x10.2.1,x10.2.2),x11,x12,(x13.1,x13.2),x14,false,()) w))
 (jnC (F13.k12 Q C4) ((x0.1,x0.2.1,x0.2.2),x1,x2,(x10.1,x10.2.1,x10.2.2),x11,x12,(x13.1,x13.2),x14,false,()) w)
def F13.k11 (Q:QT) (C4:(ST×Int×Int×ST×Int×Int×Unit)->WT):(ST×Int×Int×ST×Int×Int×NT×Int×Unit)->WT:=fun s w=>∀ _:Nat->Value,F13.k11c Q C4 s.1 s.2.1 s.2.2.1 s.2.2.2.1 s.2.2.2.2.1 s.2.2.2.2.2.1 s.2.2.2.2.2.2.1 s.2.2.2.2.2.2.2.1 w
def F13.k10c (Q:QT) (C4:(ST×Int×Int×ST×Int×Int×Unit)->WT) (x0:ST) (x1:Int) (x2:Int) (x10:ST) (x11:Int) (x12:Int) (x13:NT) (x14:Int) (x53:Bool) (w:World):Prop :=
 vIf x53
 (Q (VT #[VS none 0 0,VI .i64 0,VI .u64 0,VI .i64 3]) w)
 (jnC (F13.k11 Q C4) ((x0.1,x0.2.1,x0.2.2),x1,x2,(x10.1,x10.2.1,x10.2.2),x11,x12,(x13.1,x13.2),x14,()) w)
def F13.k10 (Q:QT) (C4:(ST×Int×Int×ST×Int×Int×Unit)->WT):(ST×Int×Int×ST×Int×Int×NT×Int×Bool×Unit)->WT:=fun s w=>∀ _:Nat->Value,F13.k10c Q C4 s.1 s.2.1 s.2.2.1 s.2.2.2.1 s.2.2.2.2.1 s.2.2.2.2.2.1 s.2.2.2.2.2.2.1 s.2.2.2.2.2.2.2.1 s.2.2.2.2.2.2.2.2.1 w
def F13.b4c (Q:QT) (C4:(ST×Int×Int×ST×Int×Int×Unit)->WT) (x0:ST) (x1:Int) (x2:Int) (x10:ST) (x11:Int) (x12:Int) (w:World):Prop :=
 vIf (decide (x12<=(x0.2.1:Int)))
 (Calls Tryz.prog 12 #[VS x0.1 x0.2.1 x0.2.2,VI .i64 x1] w fun e2 w1 =>
 ∃ a3:List Value,∃ i4:Int,∃ i5:Int,e2=.returned (VT #[ofL a3,VI .i64 i4,VI .i64 i5])/\(
 nw w1 Z48 48 fun b6 w7 =>
 gd (a3.length == 38) <|
 st w7 b6 0 a3 fun w8 =>
 vIf (i5 != 0)
 (Q (VT #[VS none 0 0,VI .i64 0,VI .u64 0,VI .i64 i5]) w8)
 (vIf (decide ((x10.2.1:Int) > 0))
 (ldI .u64 w8.drew b6 (0+1) fun i9 =>
 vIf (decide (i9 < 1))
 (jnC (F13.k10 Q C4) ((x0.1,x0.2.1,x0.2.2),x1,x2,(x10.1,x10.2.1,x10.2.2),x11,x12,(b6,0),i4,true,()) w8.drew)
 (ldI .u64 w8.drew b6 (0+1) fun i25 =>
 dr x10.1 fun b26 o27 =>
 gd (decide (0<=(WR .i64 ((x10.2.1:Int) - 1)))) <|
 gd (decide ((WR .i64 ((x10.2.1:Int) - 1)) < (x10.2.1:Int))) <|
 ldI .u64 w8.drew b26 ((o27+((WR .i64 ((x10.2.1:Int) - 1))).toNat * 39)+1) fun i28 =>
 jnC (F13.k10 Q C4) ((x0.1,x0.2.1,x0.2.2),x1,x2,(x10.1,x10.2.1,x10.2.2),x11,x12,(b6,0),i4,((WR .u64 (i25 - 1)) != i28),()) w8.drew))
 (jnC (F13.k10 Q C4) ((x0.1,x0.2.1,x0.2.2),x1,x2,(x10.1,x10.2.1,x10.2.2),x11,x12,(b6,0),i4,false,()) w8.drew))))
 (Q (VT #[VS none 0 0,VI .i64 0,VI .u64 0,VI .i64 3]) w)
def F13.b4 (Q:QT):(ST×Int×Int×ST×Int×Int×Unit)->World->((ST×Int×Int×ST×Int×Int×Unit)->WT)->Prop:=fun s w C4=>∀ _:Nat->Value,F13.b4c Q C4 s.1 s.2.1 s.2.2.1 s.2.2.2.1 s.2.2.2.2.1 s.2.2.2.2.2.1 w
def F13.l4 (Q:QT):(ST×Int×Int×ST×Int×Int×Unit)->WT:=fun s w=>∃ n,loopC (F13.b4 Q) n s w
def F13.vc (x0A:Option Addr) (x0n x0c:Nat) (x1:Int) (x2:Int) (w:World) (Q:QT):Prop :=
 jnC (F13.l4 Q) ((x0A,x0n,x0c),x1,x2,(none,0,0),x1,(0),()) w
def F13.an:Ann:=⟨[(4,[(0,.kSl),(1,.kI .i64),(2,.kI .i64),(10,.kSl),(11,.kI .i64),(12,.kI .i64)])],[(10,[(0,.kSl),(1,.kI .i64),(2,.kI .i64),(10,.kSl),(11,.kI .i64),(12,.kI .i64),(13,.kL),(14,.kI .i64),(53,.kB)]),(11,[(0,.kSl),(1,.kI .i64),(2,.kI .i64),(10,.kSl),(11,.kI .i64),(12,.kI .i64),(13,.kL),(14,.kI .i64)]),(12,[(0,.kSl),(1,.kI .i64),(2,.kI .i64),(10,.kSl),(11,.kI .i64),(12,.kI .i64),(13,.kL),(14,.kI .i64),(76,.kB)]),(13,[(0,.kSl),(1,.kI .i64),(2,.kI .i64),(10,.kSl),(11,.kI .i64),(12,.kI .i64),(13,.kL),(14,.kI .i64)])]⟩
theorem F13.of (x0A:Option Addr) (x0n x0c:Nat) (x1:Int) (x2:Int) (w:World) {Q:QT} (h:F13.vc x0A x0n x0c x1 x2 w Q):Calls Tryz.prog 13 #[VS x0A x0n x0c,VI .i64 x1,VI .i64 x2] w (fun e w'=>∃ v,e=.returned v/\Q v w'):=vcFn_of (A:=F13.an) noCount mixed h (by kernel_rfl)
def F40.vc (x0:List Value) (w:World) (Q:QT):Prop :=
 nw w x0 48 fun b1 w2 =>
 ldA 38 w2 b1 0 fun a3 =>
 Calls Tryz.prog 33 #[ofL a3] w2 fun e5 w4 =>
 ∃ i6:Int,e5=.returned (VI .i64 i6)/\(
 vIf (i6 != 0)
 (ldA 38 w4 b1 0 fun a7 =>
 Calls Tryz.prog 33 #[ofL a7] w4 fun e9 w8 =>
 ∃ i10:Int,e9=.returned (VI .i64 i10)/\(
 Q (VT #[VS none 0 0,VI .i64 i10]) w8))
 (ldI .i64 w4.drew b1 0 fun i11 =>
 ldI .u64 w4.drew b1 (0+1) fun i12 =>
 ldA 38 w4.drew b1 0 fun a13 =>
 Calls Tryz.prog 68 #[ofL a13] w4.drew fun e15 w14 =>
 ∃ (A16:Option Addr) (n17 c18:Nat),e15=.returned (VS A16 n17 c18)/\(
 kp w4.drew b1 (0+1) 1 w14 <|
 kp w4.drew b1 0 1 w14 <|
 Calls Tryz.prog 63 #[VI .i64 i11,VI .u64 i12,VS A16 n17 c18] w14 fun e20 w19 =>
 ∃ (A21:Option Addr) (n22 c23:Nat),e20=.returned (VS A21 n22 c23)/\(
 Q (VT #[VS A21 n22 c23,VI .i64 0]) w19))))
def F40.an:Ann:=⟨[],[]⟩
theorem F40.of (x0:List Value) (w:World) {Q:QT} (h:F40.vc x0 w Q):Calls Tryz.prog 40 #[ofL x0] w (fun e w'=>∃ v,e=.returned v/\Q v w'):=vcFn_of (A:=F40.an) noCount mixed h (by kernel_rfl)
def F41.b7c (Q:QT) (C7:(ST×Int×ST×Int×Unit)->WT) (x0:ST) (x1:Int) (x7:ST) (x8:Int) (w:World):Prop :=
 vIf (decide (x8 < (x0.2.1:Int)))
 (dr x0.1 fun b7 o8 =>
 gd (decide (0<=x8)) <|
 gd (decide (x8 < (x0.2.1:Int))) <|
 ldA 38 w b7 (o8+(x8).toNat * 38) fun a9 =>
 nw w Z48 48 fun b10 w11 =>
 gd (a9.length == 38) <|
 st w11 b10 0 a9 fun w12 =>
 st w12 b10 (0+1) [VI .u64 (WR .u64 (x1+(WR .u64 x8)))] fun w13 =>
 ldA 38 w13 b10 0 fun a14 =>
 Calls Tryz.prog 40 #[ofL a14] w13 fun e16 w15 =>
 ∃ (A17:Option Addr) (n18 c19:Nat),∃ i20:Int,e16=.returned (VT #[VS A17 n18 c19,VI .i64 i20])/\(
 app w15 1 1 [VI .u8 0] 5 x7.1 x7.2.1 x7.2.2 (VS A17 n18 c19) fun A21 n22 c23 w24 =>
 jnC C7 ((x0.1,x0.2.1,x0.2.2),x1,(A21,n22,c23),((WR .i64 (x8+1))),()) w24))
 (Calls Tryz.prog 40 #[ofL ([VI .i64 6] ++ ([VI .u64 (WR .u64 (x1+(WR .u64 (x0.2.1:Int))))] ++ ([VI .u8 0,VI .u8 0,VI .u8 0,VI .u8 0,VI .u8 0,VI .u8 0,VI .u8 0,VI .u8 0,VI .u8 0,VI .u8 0,VI .u8 0,VI .u8 0,VI .u8 0,VI .u8 0,VI .u8 0,VI .u8 0,VI .u8 0,VI .u8 0,VI .u8 0,VI .u8 0,VI .u8 0,VI .u8 0,VI .u8 0,VI .u8 0,VI .u8 0,VI .u8 0,VI .u8 0,VI .u8 0,VI .u8 0,VI .u8 0,VI .u8 0,VI .u8 0] ++ ([VG (⟨#[]⟩:ByteArray)] ++ ([VS none 0 0] ++ ([VI .i64 (x0.2.1:Int)] ++ ([VI .i64 (x7.2.1:Int)] ++ [])))))))] w fun e26 w25 =>
 ∃ (A27:Option Addr) (n28 c29:Nat),∃ i30:Int,e26=.returned (VT #[VS A27 n28 c29,VI .i64 i30])/\(
 app w25 1 1 [VI .u8 0] 5 x7.1 x7.2.1 x7.2.2 (VS A27 n28 c29) fun A31 n32 c33 w34 =>
 Q (VT #[VS A31 n32 c33,VI .u64 (WR .u64 ((WR .u64 (x1+(WR .u64 (x0.2.1:Int))))+1)),VI .i64 0]) w34))
def F41.b7 (Q:QT):(ST×Int×ST×Int×Unit)->World->((ST×Int×ST×Int×Unit)->WT)->Prop:=fun s w C7=>∀ _:Nat->Value,F41.b7c Q C7 s.1 s.2.1 s.2.2.1 s.2.2.2.1 w
def F41.l7 (Q:QT):(ST×Int×ST×Int×Unit)->WT:=fun s w=>∃ n,loopC (F41.b7 Q) n s w
def F41.vc (x0A:Option Addr) (x0n x0c:Nat) (x1:Int) (w:World) (Q:QT):Prop :=
 Calls Tryz.prog 69 #[VS x0A x0n x0c] w fun e2 w1 =>
 ∃ i3:Int,e2=.returned (VI .i64 i3)/\(
 vIf (i3 != 0)
 (Calls Tryz.prog 69 #[VS x0A x0n x0c] w1 fun e5 w4 =>
 ∃ i6:Int,e5=.returned (VI .i64 i6)/\(
 Q (VT #[VS none 0 0,VI .u64 x1,VI .i64 i6]) w4))
 (vIf (decide ((WR .u64 ((WR .u64 (x1+(WR .u64 (x0n:Int))))+1))<=x1))
 (Q (VT #[VS none 0 0,VI .u64 x1,VI .i64 20]) w1)
 (jnC (F41.l7 Q) ((x0A,x0n,x0c),x1,(none,0,0),(0),()) w1)))
def F41.an:Ann:=⟨[(7,[(0,.kSl),(1,.kI .u64),(7,.kSl),(8,.kI .i64)])],[]⟩
theorem F41.of (x0A:Option Addr) (x0n x0c:Nat) (x1:Int) (w:World) {Q:QT} (h:F41.vc x0A x0n x0c x1 w Q):Calls Tryz.prog 41 #[VS x0A x0n x0c,VI .u64 x1] w (fun e w'=>∃ v,e=.returned v/\Q v w'):=vcFn_of (A:=F41.an) noCount mixed h (by kernel_rfl)
def F71.vc (x0:ByteArray) (x1:ByteArray) (w:World) (Q:QT):Prop :=
 Calls Tryz.prog 97 #[VG x0,VG x1] w fun e2 w1 =>
 ∃ i3:Int,e2=.returned (VI .i64 i3)/\(
 Q (VI .i64 i3) w1)
def F71.an:Ann:=⟨[],[]⟩
theorem F71.of (x0:ByteArray) (x1:ByteArray) (w:World) {Q:QT} (h:F71.vc x0 x1 w Q):Calls Tryz.prog 71 #[VG x0,VG x1] w (fun e w'=>∃ v,e=.returned v/\Q v w'):=vcFn_of (A:=F71.an) noCount mixed h (by kernel_rfl)
def F72.vc (x0A:Option Addr) (x0n x0c:Nat) (x1A:Option Addr) (x1n x1c:Nat) (w:World) (Q:QT):Prop :=
 Calls Tryz.prog 98 #[VS x0A x0n x0c,VS x1A x1n x1c,Value.func (.func 99) #[] #[]] w fun e2 w1 =>
 ∃ (A3:Option Addr) (n4 c5:Nat),e2=.returned (VS A3 n4 c5)/\(
 Q (VS A3 n4 c5) w1)
def F72.an:Ann:=⟨[],[]⟩
theorem F72.of (x0A:Option Addr) (x0n x0c:Nat) (x1A:Option Addr) (x1n x1c:Nat) (w:World) {Q:QT} (h:F72.vc x0A x0n x0c x1A x1n x1c w Q):Calls Tryz.prog 72 #[VS x0A x0n x0c,VS x1A x1n x1c] w (fun e w'=>∃ v,e=.returned v/\Q v w'):=vcFn_of (A:=F72.an) noCount mixed h (by kernel_rfl)
def F95.vc (x0:List Value) (w:World) (Q:QT):Prop :=
 nw w x0 74 fun b1 w2 =>
 ldSl w2 b1 0 fun A3 n4 c5 =>
 Calls Tryz.prog 116 #[VS A3 n4 c5] w2 fun e7 w6 =>
 ∃ (A8:Option Addr) (n9 c10:Nat),e7=.returned (VS A8 n9 c10)/\(
 Calls Tryz.prog 117 #[VS A8 n9 c10,Value.func (.func 118) #[] #[]] w6 fun e12 w11 =>
 e12=.returned (VT #[])/\(
 Calls Tryz.prog 119 #[VS A8 n9 c10,Value.func (.func 120) #[] #[]] w11 fun e14 w13 =>
 ∃ (A15:Option Addr) (n16 c17:Nat),e14=.returned (VS A15 n16 c17)/\(
 Q (VS A15 n16 c17) w13)))
def F95.an:Ann:=⟨[],[]⟩
theorem F95.of (x0:List Value) (w:World) {Q:QT} (h:F95.vc x0 w Q):Calls Tryz.prog 95 #[ofL x0] w (fun e w'=>∃ v,e=.returned v/\Q v w'):=vcFn_of (A:=F95.an) noCount mixed h (by kernel_rfl)
def F96.vc (x0A:Option Addr) (x0n x0c:Nat) (x1:List Value) (w:World) (Q:QT):Prop :=
 nw w x1 178 fun b1 w2 =>
 ldI .i64 w2 b1 0 fun i3 =>
 vIf (i3 == 1)
 (ldS w2 b1 (0+1) fun s4 =>
 ldI .i64 w2 b1 (0+3) fun i5 =>
 Calls Tryz.prog 121 #[VS x0A x0n x0c,VG s4,VI .i64 i5] w2 fun e7 w6 =>
 ∃ (A8:Option Addr) (n9 c10:Nat),e7=.returned (VS A8 n9 c10)/\(
 Q (VS A8 n9 c10) w6))
 (vIf (i3 == 3)
 (ldS w2 b1 (0+1) fun s11 =>
 Calls Tryz.prog 122 #[VS x0A x0n x0c,VG s11] w2 fun e13 w12 =>
 ∃ (A14:Option Addr) (n15 c16:Nat),∃ i17:Int,∃ t18:Bool,e13=.returned (VT #[VS A14 n15 c16,VI .i64 i17,VB t18])/\(
 Q (VS A14 n15 c16) w12))
 (vIf (i3 == 2)
 (ldS w2 b1 (0+1) fun s19 =>
 Calls Tryz.prog 122 #[VS x0A x0n x0c,VG s19] w2 fun e21 w20 =>
 ∃ (A22:Option Addr) (n23 c24:Nat),∃ i25:Int,∃ t26:Bool,e21=.returned (VT #[VS A22 n23 c24,VI .i64 i25,VB t26])/\(
 vIf t26
 (ldS w20 b1 (0+2) fun s27 =>
 Calls Tryz.prog 121 #[VS A22 n23 c24,VG s27,VI .i64 i25] w20 fun e29 w28 =>
 ∃ (A30:Option Addr) (n31 c32:Nat),e29=.returned (VS A30 n31 c32)/\(
 Q (VS A30 n31 c32) w28))
 (Q (VS x0A x0n x0c) w20)))
 (Q (VS x0A x0n x0c) w2)))
def F96.an:Ann:=⟨[],[]⟩
theorem F96.of (x0A:Option Addr) (x0n x0c:Nat) (x1:List Value) (w:World) {Q:QT} (h:F96.vc x0A x0n x0c x1 w Q):Calls Tryz.prog 96 #[VS x0A x0n x0c,ofL x1] w (fun e w'=>∃ v,e=.returned v/\Q v w'):=vcFn_of (A:=F96.an) noCount mixed h (by kernel_rfl)
def F73.vc (x0:Option Addr) (x1:ByteArray) (w:World) (Q:QT):Prop :=
 vIf x0.isNone
 (Q (VT #[VS none 0 0,VI .i64 1]) w)
 (dr x0 fun b1 o2 =>
 ldB w b1 (o2+6) fun t3 =>
 vIf t3
 (Q (VT #[VS none 0 0,VI .i64 11]) w)
 (dr x0 fun b4 o5 =>
 ldA 2 w b4 (o5+2) fun a6 =>
 Calls Tryz.prog 20 #[ofL a6,VG x1] w fun e8 w7 =>
 ∃ i9:Int,∃ t10:Bool,e8=.returned (VT #[VI .i64 i9,VB t10])/\(
 vIf (!t10)
 (Q (VT #[VS none 0 0,VI .i64 6]) w7)
 (dr x0 fun b11 o12 =>
 ldM w7 b11 (o12+4) fun m13 =>
 drM m13 fun r16 =>
 mlk w7 r16 .i64 i9 fun q14 =>
 lvA [VS none 0 0,VS none 0 0] q14 fun a15 =>
 Calls Tryz.prog 45 #[ofL a15] w7 fun e18 w17 =>
 ∃ (A19:Option Addr) (n20 c21:Nat),e18=.returned (VS A19 n20 c21)/\(
 Q (VT #[VS A19 n20 c21,VI .i64 0]) w17)))))
def F73.an:Ann:=⟨[],[]⟩
theorem F73.of (x0:Option Addr) (x1:ByteArray) (w:World) {Q:QT} (h:F73.vc x0 x1 w Q):Calls Tryz.prog 73 #[VP x0,VG x1] w (fun e w'=>∃ v,e=.returned v/\Q v w'):=vcFn_of (A:=F73.an) noCount mixed h (by kernel_rfl)
def F81.vc (x0A:Option Addr) (x0n x0c:Nat) (w:World) (Q:QT):Prop :=
 vIf x0A.isNone
 (Q (VS none 0 0) w)
 (nw w [] 5 fun b1 w2 =>
 app w2 1 1 [VI .u8 0] 5 (some ⟨b1,0,none⟩) 0 0 (VS x0A x0n x0c) fun A3 n4 c5 w6 =>
 Q (VS A3 n4 c5) w6)
def F81.an:Ann:=⟨[],[]⟩
theorem F81.of (x0A:Option Addr) (x0n x0c:Nat) (w:World) {Q:QT} (h:F81.vc x0A x0n x0c w Q):Calls Tryz.prog 81 #[VS x0A x0n x0c] w (fun e w'=>∃ v,e=.returned v/\Q v w'):=vcFn_of (A:=F81.an) noCount mixed h (by kernel_rfl)
def F82.b5c (Q:QT) (C5:(ST×Int×Int×Int×Int×Unit)->WT) (x0:ST) (x1:Int) (x8:Int) (x23:Int) (x24:Int) (w:World):Prop :=
 vIf (decide (x24 < x23))
 (dr x0.1 fun b4 o5 =>
 gd (decide (0<=(WR .i64 (x1+x24)))) <|
 gd (decide ((WR .i64 (x1+x24)) < (x0.2.1:Int))) <|
 ldI .u8 w b4 (o5+((WR .i64 (x1+x24))).toNat * 1) fun i6 =>
 gd (decide (0<=(WR .i64 (8 * x24)))) <|
 jnC C5 ((x0.1,x0.2.1,x0.2.2),x1,((iOr .u64 x8 (WR .u64 ((WR .u64 i6) * 2 ^ (min ((WR .i64 (8 * x24))).toNat 64))))),x23,((WR .i64 (x24+1))),()) w)
 (Q (VT #[VI .u64 x8,VB true]) w)
def F82.b5 (Q:QT):(ST×Int×Int×Int×Int×Unit)->World->((ST×Int×Int×Int×Int×Unit)->WT)->Prop:=fun s w C5=>∀ _:Nat->Value,F82.b5c Q C5 s.1 s.2.1 s.2.2.1 s.2.2.2.1 s.2.2.2.2.1 w
def F82.l5 (Q:QT):(ST×Int×Int×Int×Int×Unit)->WT:=fun s w=>∃ n,loopC (F82.b5 Q) n s w
def F82.k3c (Q:QT) (x0:ST) (x1:Int) (x2:Int) (w:World):Prop :=
 jnC (F82.l5 Q) ((x0.1,x0.2.1,x0.2.2),x1,(0),x2,(0),()) w
def F82.k3 (Q:QT):(ST×Int×Int×Unit)->WT:=fun s w=>∀ _:Nat->Value,F82.k3c Q s.1 s.2.1 s.2.2.1 w
def F82.vc (x0A:Option Addr) (x0n x0c:Nat) (x1:Int) (x2:Int) (w:World) (Q:QT):Prop :=
 vIf (decide (x2 < 1))
 (Q (VT #[VI .u64 0,VB false]) w)
 (vIf (decide (x2 > 8))
 (Q (VT #[VI .u64 0,VB false]) w)
 (Calls Tryz.prog 106 #[VS x0A x0n x0c,VI .i64 x1,VI .i64 x2] w fun e2 w1 =>
 ∃ t3:Bool,e2=.returned (VB t3)/\(
 vIf (!t3)
 (Q (VT #[VI .u64 0,VB false]) w1)
 (jnC (F82.k3 Q) ((x0A,x0n,x0c),x1,x2,()) w1))))
def F82.an:Ann:=⟨[(5,[(0,.kSl),(1,.kI .i64),(8,.kI .u64),(23,.kI .i64),(24,.kI .i64)])],[(3,[(0,.kSl),(1,.kI .i64),(2,.kI .i64)])]⟩
theorem F82.of (x0A:Option Addr) (x0n x0c:Nat) (x1:Int) (x2:Int) (w:World) {Q:QT} (h:F82.vc x0A x0n x0c x1 x2 w Q):Calls Tryz.prog 82 #[VS x0A x0n x0c,VI .i64 x1,VI .i64 x2] w (fun e w'=>∃ v,e=.returned v/\Q v w'):=vcFn_of (A:=F82.an) noCount mixed h (by kernel_rfl)
def F83.vc (x0A:Option Addr) (x0n x0c:Nat) (w:World) (Q:QT):Prop :=
 Calls Tryz.prog 107 #[VI .u32 0,VS x0A x0n x0c] w fun e2 w1 =>
 ∃ i3:Int,e2=.returned (VI .u32 i3)/\(
 Q (VI .u32 i3) w1)
def F83.an:Ann:=⟨[],[]⟩
theorem F83.of (x0A:Option Addr) (x0n x0c:Nat) (w:World) {Q:QT} (h:F83.vc x0A x0n x0c w Q):Calls Tryz.prog 83 #[VS x0A x0n x0c] w (fun e w'=>∃ v,e=.returned v/\Q v w'):=vcFn_of (A:=F83.an) noCount mixed h (by kernel_rfl)
def F84a.k1c (Q:QT) (x0:Option Addr) (x1:(NT×NT×NT× Unit)) (w:World):Prop :=
 dr x0 fun b4 o5 =>
 ldI .i64 w b4 (o5+1) fun i6 =>
 Calls Tryz.prog 85 #[VI .i64 i6,VP (some ⟨x1.1.1,x1.1.2,none⟩),VP (some ⟨x1.2.1.1,x1.2.1.2,none⟩),VP (some ⟨x1.2.2.1.1,x1.2.2.1.2,none⟩)] w fun e8 w7 =>
 ∃ i9:Int,∃ i10:Int,e8=.returned (VT #[VI .i64 i9,VI .i64 i10])/\(
 vIf (i10 != 0)
 (dr x0 fun b11 o12 =>
 st w7 b11 (o12+2) [VI .i64 i10] fun w13 =>
 Q (VT #[]) w13)
 (dr x0 fun b14 o15 =>
 st w7 b14 (o15+1) [VI .i64 i9] fun w16 =>
 Q (VT #[]) w16))
def F84a.k1 (Q:QT):(Option Addr×(NT×NT×NT× Unit)×Unit)->WT:=fun s w=>∀ _:Nat->Value,F84a.k1c Q s.1 s.2.1 w
def F84a.vc (x0:Option Addr) (x1:NT×NT×NT×Unit) (w:World) (Q:QT):Prop :=
 vIf x0.isNone
 (Q (VT #[]) w)
 (dr x0 fun b1 o2 =>
 ldI .i64 w b1 (o2+2) fun i3 =>
 vIf (i3 != 0)
 (Q (VT #[]) w)
 (jnC (F84a.k1 Q) (x0,((x1.1.1,x1.1.2),(x1.2.1.1,x1.2.1.2),(x1.2.2.1.1,x1.2.2.1.2),()),()) w))
def F84a.an:Ann:=⟨[],[(1,[(0,.kP),(1,.kH 85 3)])]⟩
theorem F84a.of (x0:Option Addr) (x1:NT×NT×NT×Unit) (w:World) {Q:QT} (h:F84a.vc x0 x1 w Q):Calls Tryz.prog 84 #[VP x0,Value.func (.func 85) #[] #[VP (some ⟨x1.1.1,x1.1.2,none⟩),VP (some ⟨x1.2.1.1,x1.2.1.2,none⟩),VP (some ⟨x1.2.2.1.1,x1.2.2.1.2,none⟩)]] w (fun e w'=>∃ v,e=.returned v/\Q v w'):=vcFn_of (A:=F84a.an) noCount mixed h (by kernel_rfl)
def F84b.k1c (Q:QT) (x0:Option Addr) (x1:(NT×NT× Unit)) (w:World):Prop :=
 dr x0 fun b4 o5 =>
 ldI .i64 w b4 (o5+1) fun i6 =>
 Calls Tryz.prog 87 #[VI .i64 i6,VP (some ⟨x1.1.1,x1.1.2,none⟩),VP (some ⟨x1.2.1.1,x1.2.1.2,none⟩)] w fun e8 w7 =>
 ∃ i9:Int,∃ i10:Int,e8=.returned (VT #[VI .i64 i9,VI .i64 i10])/\(
 vIf (i10 != 0)
 (dr x0 fun b11 o12 =>
 st w7 b11 (o12+2) [VI .i64 i10] fun w13 =>
 Q (VT #[]) w13)
 (dr x0 fun b14 o15 =>
 st w7 b14 (o15+1) [VI .i64 i9] fun w16 =>
 Q (VT #[]) w16))
def F84b.k1 (Q:QT):(Option Addr×(NT×NT× Unit)×Unit)->WT:=fun s w=>∀ _:Nat->Value,F84b.k1c Q s.1 s.2.1 w
def F84b.vc (x0:Option Addr) (x1:NT×NT×Unit) (w:World) (Q:QT):Prop :=
 vIf x0.isNone
 (Q (VT #[]) w)
 (dr x0 fun b1 o2 =>
 ldI .i64 w b1 (o2+2) fun i3 =>
 vIf (i3 != 0)
 (Q (VT #[]) w)
 (jnC (F84b.k1 Q) (x0,((x1.1.1,x1.1.2),(x1.2.1.1,x1.2.1.2),()),()) w))
def F84b.an:Ann:=⟨[],[(1,[(0,.kP),(1,.kH 87 2)])]⟩
theorem F84b.of (x0:Option Addr) (x1:NT×NT×Unit) (w:World) {Q:QT} (h:F84b.vc x0 x1 w Q):Calls Tryz.prog 84 #[VP x0,Value.func (.func 87) #[] #[VP (some ⟨x1.1.1,x1.1.2,none⟩),VP (some ⟨x1.2.1.1,x1.2.1.2,none⟩)]] w (fun e w'=>∃ v,e=.returned v/\Q v w'):=vcFn_of (A:=F84b.an) noCount mixed h (by kernel_rfl)
def F84c.k1c (Q:QT) (x0:Option Addr) (x1:(NT×NT× Unit)) (w:World):Prop :=
 dr x0 fun b4 o5 =>
 ldI .i64 w b4 (o5+1) fun i6 =>
 Calls Tryz.prog 108 #[VI .i64 i6,VP (some ⟨x1.1.1,x1.1.2,none⟩),VP (some ⟨x1.2.1.1,x1.2.1.2,none⟩)] w fun e8 w7 =>
 ∃ i9:Int,∃ i10:Int,e8=.returned (VT #[VI .i64 i9,VI .i64 i10])/\(
 vIf (i10 != 0)
 (dr x0 fun b11 o12 =>
 st w7 b11 (o12+2) [VI .i64 i10] fun w13 =>
 Q (VT #[]) w13)
 (dr x0 fun b14 o15 =>
 st w7 b14 (o15+1) [VI .i64 i9] fun w16 =>
 Q (VT #[]) w16))
def F84c.k1 (Q:QT):(Option Addr×(NT×NT× Unit)×Unit)->WT:=fun s w=>∀ _:Nat->Value,F84c.k1c Q s.1 s.2.1 w
def F84c.vc (x0:Option Addr) (x1:NT×NT×Unit) (w:World) (Q:QT):Prop :=
 vIf x0.isNone
 (Q (VT #[]) w)
 (dr x0 fun b1 o2 =>
 ldI .i64 w b1 (o2+2) fun i3 =>
 vIf (i3 != 0)
 (Q (VT #[]) w)
 (jnC (F84c.k1 Q) (x0,((x1.1.1,x1.1.2),(x1.2.1.1,x1.2.1.2),()),()) w))
def F84c.an:Ann:=⟨[],[(1,[(0,.kP),(1,.kH 108 2)])]⟩
theorem F84c.of (x0:Option Addr) (x1:NT×NT×Unit) (w:World) {Q:QT} (h:F84c.vc x0 x1 w Q):Calls Tryz.prog 84 #[VP x0,Value.func (.func 108) #[] #[VP (some ⟨x1.1.1,x1.1.2,none⟩),VP (some ⟨x1.2.1.1,x1.2.1.2,none⟩)]] w (fun e w'=>∃ v,e=.returned v/\Q v w'):=vcFn_of (A:=F84c.an) noCount mixed h (by kernel_rfl)
def F84d.k1c (Q:QT) (x0:Option Addr) (x1:(NT×NT× Unit)) (w:World):Prop :=
 dr x0 fun b4 o5 =>
 ldI .i64 w b4 (o5+1) fun i6 =>
 Calls Tryz.prog 109 #[VI .i64 i6,VP (some ⟨x1.1.1,x1.1.2,none⟩),VP (some ⟨x1.2.1.1,x1.2.1.2,none⟩)] w fun e8 w7 =>
 ∃ i9:Int,∃ i10:Int,e8=.returned (VT #[VI .i64 i9,VI .i64 i10])/\(
 vIf (i10 != 0)
 (dr x0 fun b11 o12 =>
 st w7 b11 (o12+2) [VI .i64 i10] fun w13 =>
 Q (VT #[]) w13)
 (dr x0 fun b14 o15 =>
 st w7 b14 (o15+1) [VI .i64 i9] fun w16 =>
 Q (VT #[]) w16))
def F84d.k1 (Q:QT):(Option Addr×(NT×NT× Unit)×Unit)->WT:=fun s w=>∀ _:Nat->Value,F84d.k1c Q s.1 s.2.1 w
def F84d.vc (x0:Option Addr) (x1:NT×NT×Unit) (w:World) (Q:QT):Prop :=
 vIf x0.isNone
 (Q (VT #[]) w)
 (dr x0 fun b1 o2 =>
 ldI .i64 w b1 (o2+2) fun i3 =>
 vIf (i3 != 0)
 (Q (VT #[]) w)
 (jnC (F84d.k1 Q) (x0,((x1.1.1,x1.1.2),(x1.2.1.1,x1.2.1.2),()),()) w))
def F84d.an:Ann:=⟨[],[(1,[(0,.kP),(1,.kH 109 2)])]⟩
theorem F84d.of (x0:Option Addr) (x1:NT×NT×Unit) (w:World) {Q:QT} (h:F84d.vc x0 x1 w Q):Calls Tryz.prog 84 #[VP x0,Value.func (.func 109) #[] #[VP (some ⟨x1.1.1,x1.1.2,none⟩),VP (some ⟨x1.2.1.1,x1.2.1.2,none⟩)]] w (fun e w'=>∃ v,e=.returned v/\Q v w'):=vcFn_of (A:=F84d.an) noCount mixed h (by kernel_rfl)
def F85.k6c (Q:QT) (x3:NT) (x7:Int) (x8:Int) (w:World):Prop :=
 st w x3.1 x3.2 [VI .i64 (WR .i64 x7)] fun w14 =>
 Q (VT #[VI .i64 x8,VI .i64 0]) w14
def F85.k6 (Q:QT):(NT×Int×Int×Unit)->WT:=fun s w=>∀ _:Nat->Value,F85.k6c Q s.1 s.2.1 s.2.2.1 w
def F85.vc (x0:Int) (x1:Nat×Nat) (x2:Nat×Nat) (x3:Nat×Nat) (w:World) (Q:QT):Prop :=
 ldP w x1.1 x1.2 fun p1 =>
 dr p1 fun b2 o3 =>
 ldSl w b2 o3 fun A4 n5 c6 =>
 Calls Tryz.prog 86 #[VS A4 n5 c6,VI .i64 x0] w fun e8 w7 =>
 ∃ i9:Int,∃ i10:Int,∃ i11:Int,e8=.returned (VT #[VI .u64 i9,VI .i64 i10,VI .i64 i11])/\(
 vIf (i11 != 0)
 (Q (VT #[VI .i64 0,VI .i64 i11]) w7)
 (ldI .i64 w7 x2.1 x2.2 fun i12 =>
 vIf (decide (i12 < 0))
 (Q (VT #[VI .i64 0,VI .i64 20]) w7)
 (ldI .i64 w7 x2.1 x2.2 fun i13 =>
 vIf (decide (i9 > (WR .u64 i13)))
 (Q (VT #[VI .i64 0,VI .i64 20]) w7)
 (jnC (F85.k6 Q) ((x3.1,x3.2),i9,i10,()) w7))))
def F85.an:Ann:=⟨[],[(6,[(3,.kL),(7,.kI .u64),(8,.kI .i64)])]⟩
theorem F85.of (x0:Int) (x1:Nat×Nat) (x2:Nat×Nat) (x3:Nat×Nat) (w:World) {Q:QT} (h:F85.vc x0 x1 x2 x3 w Q):Calls Tryz.prog 85 #[VI .i64 x0,VP (some ⟨x1.1,x1.2,none⟩),VP (some ⟨x2.1,x2.2,none⟩),VP (some ⟨x3.1,x3.2,none⟩)] w (fun e w'=>∃ v,e=.returned v/\Q v w'):=vcFn_of (A:=F85.an) noCount mixed h (by kernel_rfl)
def F86.k17c (Q:QT) (x8:Int) (w:World):Prop :=
 Q (VT #[VI .u64 0,VI .i64 0,VI .i64 x8]) w
def F86.k17 (Q:QT):(Int×Unit)->WT:=fun s w=>∀ _:Nat->Value,F86.k17c Q s.1 w
def F86.k15c (Q:QT) (C6:(Int×Int×Int×ST×Int×Int×Unit)->WT) (x7:Int) (x9:Int) (w:World):Prop :=
 Q (VT #[VI .u64 x7,VI .i64 x9,VI .i64 0]) w
def F86.k15 (Q:QT) (C6:(Int×Int×Int×ST×Int×Int×Unit)->WT):(Int×Int×Unit)->WT:=fun s w=>∀ _:Nat->Value,F86.k15c Q C6 s.1 s.2.1 w
def F86.k11c (Q:QT) (C6:(Int×Int×Int×ST×Int×Int×Unit)->WT) (x7:Int) (x8:Int) (x9:Int) (x10:Int) (x11:Int) (x23:ST) (x24:Int) (x25:Int) (x40:Bool) (w:World):Prop :=
 vIf x40
 (jnC (F86.k17 Q) ((20),()) w)
 (vIf (decide (x11 >= 128))
 (jnC C6 (x7,x8,x9,(x23.1,x23.2.1,x23.2.2),x24,((WR .i64 (x25+1))),()) w)
 (vIf (x11 == 0)
 (vIf (decide (x10 > 0))
 (jnC (F86.k17 Q) ((3),()) w)
 (jnC (F86.k15 Q C6) (x7,x9,()) w))
 (jnC (F86.k15 Q C6) (x7,x9,()) w)))
def F86.k11 (Q:QT) (C6:(Int×Int×Int×ST×Int×Int×Unit)->WT):(Int×Int×Int×Int×Int×ST×Int×Int×Bool×Unit)->WT:=fun s w=>∀ _:Nat->Value,F86.k11c Q C6 s.1 s.2.1 s.2.2.1 s.2.2.2.1 s.2.2.2.2.1 s.2.2.2.2.2.1 s.2.2.2.2.2.2.1 s.2.2.2.2.2.2.2.1 s.2.2.2.2.2.2.2.2.1 w
def F86.b6c (Q:QT) (C6:(Int×Int×Int×ST×Int×Int×Unit)->WT) (x7:Int) (x8:Int) (x9:Int) (x23:ST) (x24:Int) (x25:Int) (w:World):Prop :=
 vIf (decide (x25 < x24))
 (dr x23.1 fun b1 o2 =>
 gd (decide (0<=x25)) <|
 gd (decide (x25 < (x23.2.1:Int))) <|
 ldI .u8 w b1 (o2+(x25).toNat * 1) fun i3 =>
 gd (decide (0<=(WR .i64 (7 * x25)))) <|
 vIf (x25 == 9)
 (jnC (F86.k11 Q C6) (((iOr .u64 x7 (WR .u64 ((WR .u64 (iAnd .u8 i3 127)) * 2 ^ (min ((WR .i64 (7 * x25))).toNat 64))))),x8,((WR .i64 (x9+1))),x25,i3,(x23.1,x23.2.1,x23.2.2),x24,x25,(decide (i3 > 1)),()) w)
 (jnC (F86.k11 Q C6) (((iOr .u64 x7 (WR .u64 ((WR .u64 (iAnd .u8 i3 127)) * 2 ^ (min ((WR .i64 (7 * x25))).toNat 64))))),x8,((WR .i64 (x9+1))),x25,i3,(x23.1,x23.2.1,x23.2.2),x24,x25,false,()) w))
 (jnC (F86.k17 Q) (x8,()) w)
def F86.b6 (Q:QT):(Int×Int×Int×ST×Int×Int×Unit)->World->((Int×Int×Int×ST×Int×Int×Unit)->WT)->Prop:=fun s w C6=>∀ _:Nat->Value,F86.b6c Q C6 s.1 s.2.1 s.2.2.1 s.2.2.2.1 s.2.2.2.2.1 s.2.2.2.2.2.1 w
def F86.l6 (Q:QT):(Int×Int×Int×ST×Int×Int×Unit)->WT:=fun s w=>∃ n,loopC (F86.b6 Q) n s w
def F86.k3c (Q:QT) (x0:ST) (x1:Int) (w:World):Prop :=
 gd (decide (0<=x1)) <|
 gd (decide (x1<=(x0.2.1:Int))) <|
 jnC (F86.l6 Q) ((0),(4),x1,((slA x0.1 x0.2.2 (x1).toNat 1),(x0.2.1 - (x1).toNat),(x0.2.2 - (x1).toNat)),((((x0.2.1 - (x1).toNat):Nat):Int)),(0),()) w
def F86.k3 (Q:QT):(ST×Int×Unit)->WT:=fun s w=>∀ _:Nat->Value,F86.k3c Q s.1 s.2.1 w
def F86.k2c (Q:QT) (x0:ST) (x1:Int) (x19:Bool) (w:World):Prop :=
 vIf x19
 (Q (VT #[VI .u64 0,VI .i64 0,VI .i64 2]) w)
 (jnC (F86.k3 Q) ((x0.1,x0.2.1,x0.2.2),x1,()) w)
def F86.k2 (Q:QT):(ST×Int×Bool×Unit)->WT:=fun s w=>∀ _:Nat->Value,F86.k2c Q s.1 s.2.1 s.2.2.1 w
def F86.vc (x0A:Option Addr) (x0n x0c:Nat) (x1:Int) (w:World) (Q:QT):Prop :=
 vIf (decide (x1 < 0))
 (jnC (F86.k2 Q) ((x0A,x0n,x0c),x1,true,()) w)
 (jnC (F86.k2 Q) ((x0A,x0n,x0c),x1,(decide (x1 > (x0n:Int))),()) w)
def F86.an:Ann:=⟨[(6,[(7,.kI .u64),(8,.kI .i64),(9,.kI .i64),(23,.kSl),(24,.kI .i64),(25,.kI .i64)])],[(2,[(0,.kSl),(1,.kI .i64),(19,.kB)]),(3,[(0,.kSl),(1,.kI .i64)]),(11,[(7,.kI .u64),(8,.kI .i64),(9,.kI .i64),(10,.kI .i64),(11,.kI .u8),(23,.kSl),(24,.kI .i64),(25,.kI .i64),(40,.kB)]),(15,[(7,.kI .u64),(9,.kI .i64)]),(17,[(8,.kI .i64)])]⟩
theorem F86.of (x0A:Option Addr) (x0n x0c:Nat) (x1:Int) (w:World) {Q:QT} (h:F86.vc x0A x0n x0c x1 w Q):Calls Tryz.prog 86 #[VS x0A x0n x0c,VI .i64 x1] w (fun e w'=>∃ v,e=.returned v/\Q v w'):=vcFn_of (A:=F86.an) noCount mixed h (by kernel_rfl)
def F87.vc (x0:Int) (x1:Nat×Nat) (x2:Nat×Nat) (w:World) (Q:QT):Prop :=
 ldP w x1.1 x1.2 fun p1 =>
 dr p1 fun b2 o3 =>
 ldSl w b2 o3 fun A4 n5 c6 =>
 Calls Tryz.prog 86 #[VS A4 n5 c6,VI .i64 x0] w fun e8 w7 =>
 ∃ i9:Int,∃ i10:Int,∃ i11:Int,e8=.returned (VT #[VI .u64 i9,VI .i64 i10,VI .i64 i11])/\(
 st w7 x2.1 x2.2 [VI .u64 i9] fun w12 =>
 Q (VT #[VI .i64 i10,VI .i64 i11]) w12)
def F87.an:Ann:=⟨[],[]⟩
theorem F87.of (x0:Int) (x1:Nat×Nat) (x2:Nat×Nat) (w:World) {Q:QT} (h:F87.vc x0 x1 x2 w Q):Calls Tryz.prog 87 #[VI .i64 x0,VP (some ⟨x1.1,x1.2,none⟩),VP (some ⟨x2.1,x2.2,none⟩)] w (fun e w'=>∃ v,e=.returned v/\Q v w'):=vcFn_of (A:=F87.an) noCount mixed h (by kernel_rfl)
def F88.k9c (Q:QT) (x2:NT) (x4:NT) (w:World):Prop :=
 st w x4.1 x4.2 [VB true] fun w6 =>
 ldA 3 w6 x4.1 x4.2 fun a7 =>
 gd (a7.length == 3) <|
 st w6 x2.1 x2.2 a7 fun w8 =>
 ldA 3 w8 x2.1 x2.2 fun a9 =>
 Q (VT #[ofL a9,VB true]) w8
def F88.k9 (Q:QT):(NT×NT×Unit)->WT:=fun s w=>∀ _:Nat->Value,F88.k9c Q s.1 s.2.1 w
def F88.k12c (Q:QT) (x2:NT) (x4:NT) (w:World):Prop :=
 st w x4.1 (x4.2+1) [VB true] fun w11 =>
 ldA 3 w11 x4.1 x4.2 fun a12 =>
 gd (a12.length == 3) <|
 st w11 x2.1 x2.2 a12 fun w13 =>
 ldA 3 w13 x2.1 x2.2 fun a14 =>
 Q (VT #[ofL a14,VB true]) w13
def F88.k12 (Q:QT):(NT×NT×Unit)->WT:=fun s w=>∀ _:Nat->Value,F88.k12c Q s.1 s.2.1 w
def F88.k14c (Q:QT) (x2:NT) (x4:NT) (w:World):Prop :=
 ldA 3 w x4.1 x4.2 fun a15 =>
 gd (a15.length == 3) <|
 st w x2.1 x2.2 a15 fun w16 =>
 ldA 3 w16 x2.1 x2.2 fun a17 =>
 Q (VT #[ofL a17,VB false]) w16
def F88.k14 (Q:QT):(NT×NT×Unit)->WT:=fun s w=>∀ _:Nat->Value,F88.k14c Q s.1 s.2.1 w
def F88.k5c (Q:QT) (x2:NT) (x4:NT) (x5:Int) (w:World):Prop :=
 vIf (x5 == 5)
 (jnC (F88.k9 Q) ((x2.1,x2.2),(x4.1,x4.2),()) w)
 (vIf (x5 == 3)
 (st w x4.1 x4.2 [VB true] fun w10 =>
 jnC (F88.k12 Q) ((x2.1,x2.2),(x4.1,x4.2),()) w10)
 (vIf (x5 == 4)
 (jnC (F88.k12 Q) ((x2.1,x2.2),(x4.1,x4.2),()) w)
 (jnC (F88.k14 Q) ((x2.1,x2.2),(x4.1,x4.2),()) w)))
def F88.k5 (Q:QT):(NT×NT×Int×Unit)->WT:=fun s w=>∀ _:Nat->Value,F88.k5c Q s.1 s.2.1 s.2.2.1 w
def F88.vc (x0:Int) (w:World) (Q:QT):Prop :=
 nw w [VB false,VB false,VB false] 169 fun b1 w2 =>
 nw w2 [VB false,VB false,VB false] 169 fun b3 w4 =>
 vIf (x0 == 1)
 (vIf (x0 == 1)
 (st w4 b3 (0+2) [VB true] fun w5 =>
 jnC (F88.k9 Q) ((b1,0),(b3,0),()) w5)
 (jnC (F88.k5 Q) ((b1,0),(b3,0),x0,()) w4))
 (vIf (x0 == 2)
 (st w4 b3 (0+2) [VB true] fun w18 =>
 jnC (F88.k9 Q) ((b1,0),(b3,0),()) w18)
 (jnC (F88.k5 Q) ((b1,0),(b3,0),x0,()) w4))
def F88.an:Ann:=⟨[],[(5,[(2,.kL),(4,.kL),(5,.kI .i64)]),(9,[(2,.kL),(4,.kL)]),(12,[(2,.kL),(4,.kL)]),(14,[(2,.kL),(4,.kL)])]⟩
theorem F88.of (x0:Int) (w:World) {Q:QT} (h:F88.vc x0 w Q):Calls Tryz.prog 88 #[VI .i64 x0] w (fun e w'=>∃ v,e=.returned v/\Q v w'):=vcFn_of (A:=F88.an) noCount mixed h (by kernel_rfl)
def F89.vc (x0:Option Addr) (w:World) (Q:QT):Prop :=
 nw w [VP x0] 120 fun b1 w2 =>
 nw w2 Z46 46 fun b3 w4 =>
 nw w4 Z46 46 fun b5 w6 =>
 ldP w6 b1 0 fun p7 =>
 Calls Tryz.prog 84 #[VP p7,Value.func (.func 108) #[] #[VP (some ⟨b1,0,none⟩),VP (some ⟨b5,0,none⟩)]] w6 fun e9 w8 =>
 e9=.returned (VT #[])/\(
 ldA 32 w8 b5 0 fun a10 =>
 gd (a10.length == 32) <|
 st w8 b3 0 a10 fun w11 =>
 ldA 32 w11 b3 0 fun a12 =>
 Q (ofL a12) w11)
def F89.an:Ann:=⟨[],[]⟩
theorem F89.of (x0:Option Addr) (w:World) {Q:QT} (h:F89.vc x0 w Q):Calls Tryz.prog 89 #[VP x0] w (fun e w'=>∃ v,e=.returned v/\Q v w'):=vcFn_of (A:=F89.an) noCount mixed h (by kernel_rfl)
def F90.vc (x0:Option Addr) (w:World) (Q:QT):Prop :=
 nw w [VP x0] 120 fun b1 w2 =>
 nw w2 [VG (⟨#[]⟩:ByteArray)] 9 fun b3 w4 =>
 st w4 b3 0 [VG (⟨#[]⟩:ByteArray)] fun w5 =>
 ldP w5 b1 0 fun p6 =>
 Calls Tryz.prog 84 #[VP p6,Value.func (.func 109) #[] #[VP (some ⟨b1,0,none⟩),VP (some ⟨b3,0,none⟩)]] w5 fun e8 w7 =>
 e8=.returned (VT #[])/\(
 ldS w7 b3 0 fun s9 =>
 Q (VG s9) w7)
def F90.an:Ann:=⟨[],[]⟩
theorem F90.of (x0:Option Addr) (w:World) {Q:QT} (h:F90.vc x0 w Q):Calls Tryz.prog 90 #[VP x0] w (fun e w'=>∃ v,e=.returned v/\Q v w'):=vcFn_of (A:=F90.an) noCount mixed h (by kernel_rfl)
def F91.k8c (Q:QT) (x2:NT) (w:World):Prop :=
 ldS w x2.1 (x2.2+34) fun s18 =>
 Q (VB (s18.toList == (⟨#[]⟩:ByteArray).toList)) w
def F91.k8 (Q:QT):(NT×Unit)->WT:=fun s w=>∀ _:Nat->Value,F91.k8c Q s.1 w
def F91.k5c (Q:QT) (x2:NT) (x5:NT) (x43:Bool) (w:World):Prop :=
 vIf x43
 (Q (VB false) w)
 (ldB w x5.1 (x5.2+1) fun t13 =>
 vIf t13
 (ldS w x2.1 (x2.2+34) fun s14 =>
 Calls Tryz.prog 112 #[VG s14] w fun e16 w15 =>
 ∃ t17:Bool,e16=.returned (VB t17)/\(
 Q (VB t17) w15))
 (jnC (F91.k8 Q) ((x2.1,x2.2),()) w))
def F91.k5 (Q:QT):(NT×NT×Bool×Unit)->WT:=fun s w=>∀ _:Nat->Value,F91.k5c Q s.1 s.2.1 s.2.2.1 w
def F91.k3c (Q:QT) (x2:NT) (x5:NT) (x13:Bool) (w:World):Prop :=
 vIf x13
 (Q (VB false) w)
 (ldB w x5.1 (x5.2+2) fun t11 =>
 vIf (!t11)
 (ldI .i64 w x2.1 (x2.2+35) fun i12 =>
 vIf (i12 != 0)
 (jnC (F91.k5 Q) ((x2.1,x2.2),(x5.1,x5.2),true,()) w)
 (ldB w x5.1 x5.2 fun t19 =>
 vIf (!t19)
 (ldA 32 w x2.1 (x2.2+2) fun a20 =>
 eqAB 32 a20 ([VI .u8 0] ++ ([VI .u8 0] ++ ([VI .u8 0] ++ ([VI .u8 0] ++ ([VI .u8 0] ++ ([VI .u8 0] ++ ([VI .u8 0] ++ ([VI .u8 0] ++ ([VI .u8 0] ++ ([VI .u8 0] ++ ([VI .u8 0] ++ ([VI .u8 0] ++ ([VI .u8 0] ++ ([VI .u8 0] ++ ([VI .u8 0] ++ ([VI .u8 0] ++ ([VI .u8 0] ++ ([VI .u8 0] ++ ([VI .u8 0] ++ ([VI .u8 0] ++ ([VI .u8 0] ++ ([VI .u8 0] ++ ([VI .u8 0] ++ ([VI .u8 0] ++ ([VI .u8 0] ++ ([VI .u8 0] ++ ([VI .u8 0] ++ ([VI .u8 0] ++ ([VI .u8 0] ++ ([VI .u8 0] ++ ([VI .u8 0] ++ ([VI .u8 0] ++ [])))))))))))))))))))))))))))))))) fun t21 =>
 jnC (F91.k5 Q) ((x2.1,x2.2),(x5.1,x5.2),(!t21),()) w)
 (jnC (F91.k5 Q) ((x2.1,x2.2),(x5.1,x5.2),false,()) w)))
 (ldB w x5.1 x5.2 fun t22 =>
 vIf (!t22)
 (ldA 32 w x2.1 (x2.2+2) fun a23 =>
 eqAB 32 a23 ([VI .u8 0] ++ ([VI .u8 0] ++ ([VI .u8 0] ++ ([VI .u8 0] ++ ([VI .u8 0] ++ ([VI .u8 0] ++ ([VI .u8 0] ++ ([VI .u8 0] ++ ([VI .u8 0] ++ ([VI .u8 0] ++ ([VI .u8 0] ++ ([VI .u8 0] ++ ([VI .u8 0] ++ ([VI .u8 0] ++ ([VI .u8 0] ++ ([VI .u8 0] ++ ([VI .u8 0] ++ ([VI .u8 0] ++ ([VI .u8 0] ++ ([VI .u8 0] ++ ([VI .u8 0] ++ ([VI .u8 0] ++ ([VI .u8 0] ++ ([VI .u8 0] ++ ([VI .u8 0] ++ ([VI .u8 0] ++ ([VI .u8 0] ++ ([VI .u8 0] ++ ([VI .u8 0] ++ ([VI .u8 0] ++ ([VI .u8 0] ++ ([VI .u8 0] ++ [])))))))))))))))))))))))))))))))) fun t24 =>
 jnC (F91.k5 Q) ((x2.1,x2.2),(x5.1,x5.2),(!t24),()) w)
 (jnC (F91.k5 Q) ((x2.1,x2.2),(x5.1,x5.2),false,()) w)))
def F91.k3 (Q:QT):(NT×NT×Bool×Unit)->WT:=fun s w=>∀ _:Nat->Value,F91.k3c Q s.1 s.2.1 s.2.2.1 w
def F91.vc (x0:List Value) (x1:Int) (w:World) (Q:QT):Prop :=
 nw w x0 56 fun b1 w2 =>
 ldI .i64 w2 b1 0 fun i3 =>
 Calls Tryz.prog 88 #[VI .i64 i3] w2 fun e5 w4 =>
 ∃ a6:List Value,∃ t7:Bool,e5=.returned (VT #[ofL a6,VB t7])/\(
 nw w4 [VB false,VB false,VB false] 169 fun b8 w9 =>
 gd (a6.length == 3) <|
 st w9 b8 0 a6 fun w10 =>
 vIf (!t7)
 (jnC (F91.k3 Q) ((b1,0),(b8,0),true,()) w10)
 (ldI .i64 w10 b1 (0+36) fun i25 =>
 vIf (i25 != x1)
 (jnC (F91.k3 Q) ((b1,0),(b8,0),true,()) w10)
 (ldI .i64 w10 b1 ((0+36)+1) fun i26 =>
 Calls Tryz.prog 111 #[VI .i64 i26] w10 fun e28 w27 =>
 ∃ t29:Bool,e28=.returned (VB t29)/\(
 vIf (!t29)
 (jnC (F91.k3 Q) ((b1,0),(b8,0),true,()) w27)
 (ldI .i64 w27 b1 ((0+36)+2) fun i30 =>
 Calls Tryz.prog 111 #[VI .i64 i30] w27 fun e32 w31 =>
 ∃ t33:Bool,e32=.returned (VB t33)/\(
 vIf (!t33)
 (jnC (F91.k3 Q) ((b1,0),(b8,0),true,()) w31)
 (ldI .i64 w31 b1 (0+35) fun i34 =>
 Calls Tryz.prog 111 #[VI .i64 i34] w31 fun e36 w35 =>
 ∃ t37:Bool,e36=.returned (VB t37)/\(
 jnC (F91.k3 Q) ((b1,0),(b8,0),(!t37),()) w35))))))))
def F91.an:Ann:=⟨[],[(3,[(2,.kL),(5,.kL),(13,.kB)]),(5,[(2,.kL),(5,.kL),(43,.kB)]),(8,[(2,.kL)])]⟩
theorem F91.of (x0:List Value) (x1:Int) (w:World) {Q:QT} (h:F91.vc x0 x1 w Q):Calls Tryz.prog 91 #[ofL x0,VI .i64 x1] w (fun e w'=>∃ v,e=.returned v/\Q v w'):=vcFn_of (A:=F91.an) noCount mixed h (by kernel_rfl)
def F92.vc (x0A:Option Addr) (x0n x0c:Nat) (x1:Int) (w:World) (Q:QT):Prop :=
 nw w Z48 48 fun b1 w2 =>
 Calls Tryz.prog 113 #[VS x0A x0n x0c,VI .i64 x1] w2 fun e4 w3 =>
 ∃ a5:List Value,∃ i6:Int,e4=.returned (VT #[ofL a5,VI .i64 i6])/\(
 nw w3 Z194 194 fun b7 w8 =>
 gd (a5.length == 4) <|
 st w8 b7 0 a5 fun w9 =>
 vIf (i6 != 0)
 (gd (([VI .i64 0] ++ ([VI .u64 0] ++ ([VI .u8 0,VI .u8 0,VI .u8 0,VI .u8 0,VI .u8 0,VI .u8 0,VI .u8 0,VI .u8 0,VI .u8 0,VI .u8 0,VI .u8 0,VI .u8 0,VI .u8 0,VI .u8 0,VI .u8 0,VI .u8 0,VI .u8 0,VI .u8 0,VI .u8 0,VI .u8 0,VI .u8 0,VI .u8 0,VI .u8 0,VI .u8 0,VI .u8 0,VI .u8 0,VI .u8 0,VI .u8 0,VI .u8 0,VI .u8 0,VI .u8 0,VI .u8 0] ++ ([VG (⟨#[]⟩:ByteArray)] ++ ([VS none 0 0] ++ ([VI .i64 0] ++ ([VI .i64 0] ++ []))))))).length == 38) <|
 st w9 b1 0 ([VI .i64 0] ++ ([VI .u64 0] ++ ([VI .u8 0,VI .u8 0,VI .u8 0,VI .u8 0,VI .u8 0,VI .u8 0,VI .u8 0,VI .u8 0,VI .u8 0,VI .u8 0,VI .u8 0,VI .u8 0,VI .u8 0,VI .u8 0,VI .u8 0,VI .u8 0,VI .u8 0,VI .u8 0,VI .u8 0,VI .u8 0,VI .u8 0,VI .u8 0,VI .u8 0,VI .u8 0,VI .u8 0,VI .u8 0,VI .u8 0,VI .u8 0,VI .u8 0,VI .u8 0,VI .u8 0,VI .u8 0] ++ ([VG (⟨#[]⟩:ByteArray)] ++ ([VS none 0 0] ++ ([VI .i64 0] ++ ([VI .i64 0] ++ []))))))) fun w10 =>
 ldA 38 w10 b1 0 fun a11 =>
 Q (VT #[ofL a11,VI .i64 0,VI .i64 i6]) w10)
 (ldI .i64 w9 b7 0 fun i12 =>
 ldI .u64 w9 b7 (0+1) fun i13 =>
 ldSl w9 b7 (0+2) fun A14 n15 c16 =>
 Calls Tryz.prog 114 #[ofL ([VI .i64 i12] ++ ([VI .u64 i13] ++ ([VI .u8 0,VI .u8 0,VI .u8 0,VI .u8 0,VI .u8 0,VI .u8 0,VI .u8 0,VI .u8 0,VI .u8 0,VI .u8 0,VI .u8 0,VI .u8 0,VI .u8 0,VI .u8 0,VI .u8 0,VI .u8 0,VI .u8 0,VI .u8 0,VI .u8 0,VI .u8 0,VI .u8 0,VI .u8 0,VI .u8 0,VI .u8 0,VI .u8 0,VI .u8 0,VI .u8 0,VI .u8 0,VI .u8 0,VI .u8 0,VI .u8 0,VI .u8 0] ++ ([VG (⟨#[]⟩:ByteArray)] ++ ([VS none 0 0] ++ ([VI .i64 0] ++ ([VI .i64 0] ++ []))))))),VS A14 n15 c16] w9 fun e18 w17 =>
 ∃ a19:List Value,∃ t20:Bool,e18=.returned (VT #[ofL a19,VB t20])/\(
 nw w17 Z48 48 fun b21 w22 =>
 gd (a19.length == 38) <|
 st w22 b21 0 a19 fun w23 =>
 vIf (!t20)
 (gd (([VI .i64 0] ++ ([VI .u64 0] ++ ([VI .u8 0,VI .u8 0,VI .u8 0,VI .u8 0,VI .u8 0,VI .u8 0,VI .u8 0,VI .u8 0,VI .u8 0,VI .u8 0,VI .u8 0,VI .u8 0,VI .u8 0,VI .u8 0,VI .u8 0,VI .u8 0,VI .u8 0,VI .u8 0,VI .u8 0,VI .u8 0,VI .u8 0,VI .u8 0,VI .u8 0,VI .u8 0,VI .u8 0,VI .u8 0,VI .u8 0,VI .u8 0,VI .u8 0,VI .u8 0,VI .u8 0,VI .u8 0] ++ ([VG (⟨#[]⟩:ByteArray)] ++ ([VS none 0 0] ++ ([VI .i64 0] ++ ([VI .i64 0] ++ []))))))).length == 38) <|
 st w23 b1 0 ([VI .i64 0] ++ ([VI .u64 0] ++ ([VI .u8 0,VI .u8 0,VI .u8 0,VI .u8 0,VI .u8 0,VI .u8 0,VI .u8 0,VI .u8 0,VI .u8 0,VI .u8 0,VI .u8 0,VI .u8 0,VI .u8 0,VI .u8 0,VI .u8 0,VI .u8 0,VI .u8 0,VI .u8 0,VI .u8 0,VI .u8 0,VI .u8 0,VI .u8 0,VI .u8 0,VI .u8 0,VI .u8 0,VI .u8 0,VI .u8 0,VI .u8 0,VI .u8 0,VI .u8 0,VI .u8 0,VI .u8 0] ++ ([VG (⟨#[]⟩:ByteArray)] ++ ([VS none 0 0] ++ ([VI .i64 0] ++ ([VI .i64 0] ++ []))))))) fun w24 =>
 ldA 38 w24 b1 0 fun a25 =>
 Q (VT #[ofL a25,VI .i64 0,VI .i64 3]) w24)
 (ldA 38 w23 b21 0 fun a26 =>
 Calls Tryz.prog 115 #[ofL a26] w23 fun e28 w27 =>
 ∃ i29:Int,e28=.returned (VI .i64 i29)/\(
 vIf (i29 != 0)
 (gd (([VI .i64 0] ++ ([VI .u64 0] ++ ([VI .u8 0,VI .u8 0,VI .u8 0,VI .u8 0,VI .u8 0,VI .u8 0,VI .u8 0,VI .u8 0,VI .u8 0,VI .u8 0,VI .u8 0,VI .u8 0,VI .u8 0,VI .u8 0,VI .u8 0,VI .u8 0,VI .u8 0,VI .u8 0,VI .u8 0,VI .u8 0,VI .u8 0,VI .u8 0,VI .u8 0,VI .u8 0,VI .u8 0,VI .u8 0,VI .u8 0,VI .u8 0,VI .u8 0,VI .u8 0,VI .u8 0,VI .u8 0] ++ ([VG (⟨#[]⟩:ByteArray)] ++ ([VS none 0 0] ++ ([VI .i64 0] ++ ([VI .i64 0] ++ []))))))).length == 38) <|
 st w27 b1 0 ([VI .i64 0] ++ ([VI .u64 0] ++ ([VI .u8 0,VI .u8 0,VI .u8 0,VI .u8 0,VI .u8 0,VI .u8 0,VI .u8 0,VI .u8 0,VI .u8 0,VI .u8 0,VI .u8 0,VI .u8 0,VI .u8 0,VI .u8 0,VI .u8 0,VI .u8 0,VI .u8 0,VI .u8 0,VI .u8 0,VI .u8 0,VI .u8 0,VI .u8 0,VI .u8 0,VI .u8 0,VI .u8 0,VI .u8 0,VI .u8 0,VI .u8 0,VI .u8 0,VI .u8 0,VI .u8 0,VI .u8 0] ++ ([VG (⟨#[]⟩:ByteArray)] ++ ([VS none 0 0] ++ ([VI .i64 0] ++ ([VI .i64 0] ++ []))))))) fun w30 =>
 ldA 38 w30 b1 0 fun a31 =>
 Q (VT #[ofL a31,VI .i64 0,VI .i64 i29]) w30)
 (ldA 38 w27.drew b21 0 fun a32 =>
 ldI .i64 w27.drew b7 (0+3) fun i33 =>
 gd (a32.length == 38) <|
 st w27.drew b1 0 a32 fun w34 =>
 kp w27.drew b7 (0+3) 1 w34 <|
 ldA 38 w34 b1 0 fun a35 =>
 Q (VT #[ofL a35,VI .i64 i33,VI .i64 0]) w34))))))
def F92.an:Ann:=⟨[],[]⟩
theorem F92.of (x0A:Option Addr) (x0n x0c:Nat) (x1:Int) (w:World) {Q:QT} (h:F92.vc x0A x0n x0c x1 w Q):Calls Tryz.prog 92 #[VS x0A x0n x0c,VI .i64 x1] w (fun e w'=>∃ v,e=.returned v/\Q v w'):=vcFn_of (A:=F92.an) noCount mixed h (by kernel_rfl)
def F93.vc (x0:Int) (w:World) (Q:QT):Prop :=
 vIf (decide (x0 >= 1))
 (Q (VB (decide (x0<=5))) w)
 (Q (VB false) w)
def F93.an:Ann:=⟨[],[]⟩
theorem F93.of (x0:Int) (w:World) {Q:QT} (h:F93.vc x0 w Q):Calls Tryz.prog 93 #[VI .i64 x0] w (fun e w'=>∃ v,e=.returned v/\Q v w'):=vcFn_of (A:=F93.an) noCount mixed h (by kernel_rfl)
def F94.k5c (Q:QT) (x2:NT) (x4:NT) (x5:NT) (x13:Int) (w:World):Prop :=
 vIf (x13 == 5)
 (ldA 32 w x2.1 (x2.2+2) fun a23 =>
 gd (a23.length == 32) <|
 st w x5.1 (x5.2+2) a23 fun w24 =>
 ldA 39 w24 x5.1 x5.2 fun a25 =>
 gd (a25.length == 39) <|
 st w24 x4.1 x4.2 a25 fun w26 =>
 ldA 39 w26 x4.1 x4.2 fun a27 =>
 Q (ofL a27) w26)
 (vIf (x13 == 3)
 (ldA 32 w x2.1 (x2.2+2) fun a28 =>
 gd (a28.length == 32) <|
 st w x5.1 (x5.2+2) a28 fun w29 =>
 ldS w29 x2.1 (x2.2+34) fun s30 =>
 st w29 x5.1 (x5.2+34) [VG s30] fun w31 =>
 ldA 39 w31 x5.1 x5.2 fun a32 =>
 gd (a32.length == 39) <|
 st w31 x4.1 x4.2 a32 fun w33 =>
 ldA 39 w33 x4.1 x4.2 fun a34 =>
 Q (ofL a34) w33)
 (vIf (x13 == 4)
 (ldS w x2.1 (x2.2+34) fun s35 =>
 st w x5.1 (x5.2+34) [VG s35] fun w36 =>
 ldA 39 w36 x5.1 x5.2 fun a37 =>
 gd (a37.length == 39) <|
 st w36 x4.1 x4.2 a37 fun w38 =>
 ldA 39 w38 x4.1 x4.2 fun a39 =>
 Q (ofL a39) w38)
 (vIf (x13 == 6)
 (vIf (x13 == 6)
 (ldI .i64 w x2.1 (x2.2+37) fun i40 =>
 st w x5.1 (x5.2+35) [VI .i64 i40] fun w41 =>
 ldA 39 w41 x5.1 x5.2 fun a42 =>
 gd (a42.length == 39) <|
 st w41 x4.1 x4.2 a42 fun w43 =>
 ldA 39 w43 x4.1 x4.2 fun a44 =>
 Q (ofL a44) w43)
 (ldA 39 w x5.1 x5.2 fun a45 =>
 gd (a45.length == 39) <|
 st w x4.1 x4.2 a45 fun w46 =>
 ldA 39 w46 x4.1 x4.2 fun a47 =>
 Q (ofL a47) w46))
 (vIf (x13 == 8)
 (ldI .i64 w x2.1 (x2.2+37) fun i48 =>
 st w x5.1 (x5.2+35) [VI .i64 i48] fun w49 =>
 ldA 39 w49 x5.1 x5.2 fun a50 =>
 gd (a50.length == 39) <|
 st w49 x4.1 x4.2 a50 fun w51 =>
 ldA 39 w51 x4.1 x4.2 fun a52 =>
 Q (ofL a52) w51)
 (ldA 39 w x5.1 x5.2 fun a53 =>
 gd (a53.length == 39) <|
 st w x4.1 x4.2 a53 fun w54 =>
 ldA 39 w54 x4.1 x4.2 fun a55 =>
 Q (ofL a55) w54)))))
def F94.k5 (Q:QT):(NT×NT×NT×Int×Unit)->WT:=fun s w=>∀ _:Nat->Value,F94.k5c Q s.1 s.2.1 s.2.2.1 s.2.2.2.1 w
def F94.vc (x0:List Value) (x1:List Value) (w:World) (Q:QT):Prop :=
 nw w x0 48 fun b1 w2 =>
 nw w2 x1 54 fun b3 w4 =>
 nw w4 Z56 56 fun b5 w6 =>
 ldI .i64 w6 b1 0 fun i7 =>
 ldI .u64 w6 b1 (0+1) fun i8 =>
 ldA 3 w6 b3 0 fun a9 =>
 gd (a9.length == 3) <|
 nw w6 Z56 56 fun b10 w11 =>
 gd (([VI .i64 i7] ++ ([VI .u64 i8] ++ ([VI .u8 0,VI .u8 0,VI .u8 0,VI .u8 0,VI .u8 0,VI .u8 0,VI .u8 0,VI .u8 0,VI .u8 0,VI .u8 0,VI .u8 0,VI .u8 0,VI .u8 0,VI .u8 0,VI .u8 0,VI .u8 0,VI .u8 0,VI .u8 0,VI .u8 0,VI .u8 0,VI .u8 0,VI .u8 0,VI .u8 0,VI .u8 0,VI .u8 0,VI .u8 0,VI .u8 0,VI .u8 0,VI .u8 0,VI .u8 0,VI .u8 0,VI .u8 0] ++ ([VG (⟨#[]⟩:ByteArray)] ++ ([VI .i64 0] ++ (a9 ++ [])))))).length == 39) <|
 st w11 b10 0 ([VI .i64 i7] ++ ([VI .u64 i8] ++ ([VI .u8 0,VI .u8 0,VI .u8 0,VI .u8 0,VI .u8 0,VI .u8 0,VI .u8 0,VI .u8 0,VI .u8 0,VI .u8 0,VI .u8 0,VI .u8 0,VI .u8 0,VI .u8 0,VI .u8 0,VI .u8 0,VI .u8 0,VI .u8 0,VI .u8 0,VI .u8 0,VI .u8 0,VI .u8 0,VI .u8 0,VI .u8 0,VI .u8 0,VI .u8 0,VI .u8 0,VI .u8 0,VI .u8 0,VI .u8 0,VI .u8 0,VI .u8 0] ++ ([VG (⟨#[]⟩:ByteArray)] ++ ([VI .i64 0] ++ (a9 ++ [])))))) fun w12 =>
 ldI .i64 w12 b1 0 fun i13 =>
 vIf (i13 == 1)
 (vIf (i13 == 1)
 (ldSl w12 b1 (0+35) fun A14 n15 c16 =>
 st w12 b10 (0+35) [VI .i64 (n15:Int)] fun w17 =>
 ldA 32 w17 b1 (0+2) fun a18 =>
 gd (a18.length == 32) <|
 st w17 b10 (0+2) a18 fun w19 =>
 ldA 39 w19 b10 0 fun a20 =>
 gd (a20.length == 39) <|
 st w19 b5 0 a20 fun w21 =>
 ldA 39 w21 b5 0 fun a22 =>
 Q (ofL a22) w21)
 (jnC (F94.k5 Q) ((b1,0),(b5,0),(b10,0),i13,()) w12))
 (vIf (i13 == 2)
 (ldSl w12 b1 (0+35) fun A56 n57 c58 =>
 st w12 b10 (0+35) [VI .i64 (n57:Int)] fun w59 =>
 ldA 32 w59 b1 (0+2) fun a60 =>
 gd (a60.length == 32) <|
 st w59 b10 (0+2) a60 fun w61 =>
 ldA 39 w61 b10 0 fun a62 =>
 gd (a62.length == 39) <|
 st w61 b5 0 a62 fun w63 =>
 ldA 39 w63 b5 0 fun a64 =>
 Q (ofL a64) w63)
 (jnC (F94.k5 Q) ((b1,0),(b5,0),(b10,0),i13,()) w12))
def F94.an:Ann:=⟨[],[(5,[(2,.kL),(4,.kL),(5,.kL),(13,.kI .i64)])]⟩
theorem F94.of (x0:List Value) (x1:List Value) (w:World) {Q:QT} (h:F94.vc x0 x1 w Q):Calls Tryz.prog 94 #[ofL x0,ofL x1] w (fun e w'=>∃ v,e=.returned v/\Q v w'):=vcFn_of (A:=F94.an) noCount mixed h (by kernel_rfl)
def F62.b4c (Q:QT) (C4:(ST×ST×Int×Unit)->WT) (x0:ST) (x1:ST) (x5:Int) (w:World):Prop :=
 vIf (decide (x5 < (x0.2.1:Int)))
 (dr x0.1 fun b1 o2 =>
 gd (decide (0<=x5)) <|
 gd (decide (x5 < (x0.2.1:Int))) <|
 ldI .u8 w.drew b1 (o2+(x5).toNat * 1) fun i3 =>
 dr x1.1 fun b4 o5 =>
 gd (decide (0<=x5)) <|
 gd (decide (x5 < (x1.2.1:Int))) <|
 ldI .u8 w.drew b4 (o5+(x5).toNat * 1) fun i6 =>
 vIf (i3 != i6)
 (Q (VB false) w.drew)
 (jnC C4 ((x0.1,x0.2.1,x0.2.2),(x1.1,x1.2.1,x1.2.2),((WR .i64 (x5+1))),()) w.drew))
 (Q (VB true) w)
def F62.b4 (Q:QT):(ST×ST×Int×Unit)->World->((ST×ST×Int×Unit)->WT)->Prop:=fun s w C4=>∀ _:Nat->Value,F62.b4c Q C4 s.1 s.2.1 s.2.2.1 w
def F62.l4 (Q:QT):(ST×ST×Int×Unit)->WT:=fun s w=>∃ n,loopC (F62.b4 Q) n s w
def F62.vc (x0A:Option Addr) (x0n x0c:Nat) (x1A:Option Addr) (x1n x1c:Nat) (w:World) (Q:QT):Prop :=
 vIf ((x0n:Int) != (x1n:Int))
 (Q (VB false) w)
 (jnC (F62.l4 Q) ((x0A,x0n,x0c),(x1A,x1n,x1c),(0),()) w)
def F62.an:Ann:=⟨[(4,[(0,.kSl),(1,.kSl),(5,.kI .i64)])],[]⟩
theorem F62.of (x0A:Option Addr) (x0n x0c:Nat) (x1A:Option Addr) (x1n x1c:Nat) (w:World) {Q:QT} (h:F62.vc x0A x0n x0c x1A x1n x1c w Q):Calls Tryz.prog 62 #[VS x0A x0n x0c,VS x1A x1n x1c] w (fun e w'=>∃ v,e=.returned v/\Q v w'):=vcFn_of (A:=F62.an) noCount mixed h (by kernel_rfl)
def F38.k5c (Q:QT) (C3:(Int×Int×ST×Int×Unit)->WT) (x1:Int) (x2:Int) (x7:ST) (x8:Int) (w:World):Prop :=
 nw w ([VI .u8 (WR .u8 (Int.tmod x1 256))] ++ []) 5 fun b5 w6 =>
 app w6 1 1 [VI .u8 0] 5 x7.1 x7.2.1 x7.2.2 (VS (some ⟨b5,0,none⟩) 1 1) fun A7 n8 c9 w10 =>
 jnC C3 (((WR .u64 (Int.tdiv x1 256))),x2,(A7,n8,c9),((WR .i64 (x8+1))),()) w10
def F38.k5 (Q:QT) (C3:(Int×Int×ST×Int×Unit)->WT):(Int×Int×ST×Int×Unit)->WT:=fun s w=>∀ _:Nat->Value,F38.k5c Q C3 s.1 s.2.1 s.2.2.1 s.2.2.2.1 w
def F38.b3c (Q:QT) (C3:(Int×Int×ST×Int×Unit)->WT) (x1:Int) (x2:Int) (x7:ST) (x8:Int) (w:World):Prop :=
 vIf (decide (x8 < x2))
 (vIf (decide (x2<=8))
 (jnC (F38.k5 Q C3) (x1,x2,(x7.1,x7.2.1,x7.2.2),x8,()) w)
 (Q (VS x7.1 x7.2.1 x7.2.2) w))
 (Q (VS x7.1 x7.2.1 x7.2.2) w)
def F38.b3 (Q:QT):(Int×Int×ST×Int×Unit)->World->((Int×Int×ST×Int×Unit)->WT)->Prop:=fun s w C3=>∀ _:Nat->Value,F38.b3c Q C3 s.1 s.2.1 s.2.2.1 s.2.2.2.1 w
def F38.l3 (Q:QT):(Int×Int×ST×Int×Unit)->WT:=fun s w=>∃ n,loopC (F38.b3 Q) n s w
def F38.vc (x0A:Option Addr) (x0n x0c:Nat) (x1:Int) (x2:Int) (w:World) (Q:QT):Prop :=
 app w 1 1 [VI .u8 0] 5 none 0 0 (VS x0A x0n x0c) fun A1 n2 c3 w4 =>
 jnC (F38.l3 Q) (x1,x2,(A1,n2,c3),(0),()) w4
def F38.an:Ann:=⟨[(3,[(1,.kI .u64),(2,.kI .i64),(7,.kSl),(8,.kI .i64)])],[(5,[(1,.kI .u64),(2,.kI .i64),(7,.kSl),(8,.kI .i64)])]⟩
theorem F38.of (x0A:Option Addr) (x0n x0c:Nat) (x1:Int) (x2:Int) (w:World) {Q:QT} (h:F38.vc x0A x0n x0c x1 x2 w Q):Calls Tryz.prog 38 #[VS x0A x0n x0c,VI .u64 x1,VI .i64 x2] w (fun e w'=>∃ v,e=.returned v/\Q v w'):=vcFn_of (A:=F38.an) noCount mixed h (by kernel_rfl)
def F39.b23c (Q:QT) (C23:(Int×Int×Int×Unit)->WT) (x7:Int) (x10:Int) (x11:Int) (w:World):Prop :=
 vIf (decide (x11 < 32))
 (gd (decide (0<=(WR .u64 x11))) <|
 jnC C23 (x7,((WR .u32 ((WR .u32 (x10 * 2))+(Int.tmod (Int.fdiv x7 (2 ^ (min ((WR .u64 x11)).toNat 32))) 2)))),((WR .i64 (x11+1))),()) w)
 (Q (VI .u32 (iXor .u32 4294967295 x10)) w)
def F39.b23 (Q:QT):(Int×Int×Int×Unit)->World->((Int×Int×Int×Unit)->WT)->Prop:=fun s w C23=>∀ _:Nat->Value,F39.b23c Q C23 s.1 s.2.1 s.2.2.1 w
def F39.l23 (Q:QT):(Int×Int×Int×Unit)->WT:=fun s w=>∃ n,loopC (F39.b23 Q) n s w
def F39.b13c (Q:QT) (C13:(ST×Int×Int×Int×Unit)->WT) (x3:ST) (x6:Int) (x7:Int) (x8:Int) (w:World):Prop :=
 vIf (decide (x8 < (x3.2.1:Int)))
 (dr x3.1 fun b18 o19 =>
 gd (decide (0<=x8)) <|
 gd (decide (x8 < (x3.2.1:Int))) <|
 ldB w b18 (o19+(x8).toNat * 1) fun t20 =>
 vIf t20
 (vIf (decide (x7 >= 2147483648))
 (jnC C13 ((x3.1,x3.2.1,x3.2.2),x6,((iXor .u32 (WR .u32 ((WR .u32 (x7 * 2))+1)) x6)),((WR .i64 (x8+1))),()) w)
 (jnC C13 ((x3.1,x3.2.1,x3.2.2),x6,((WR .u32 ((WR .u32 (x7 * 2))+1))),((WR .i64 (x8+1))),()) w))
 (vIf (decide (x7 >= 2147483648))
 (jnC C13 ((x3.1,x3.2.1,x3.2.2),x6,((iXor .u32 (WR .u32 (x7 * 2)) x6)),((WR .i64 (x8+1))),()) w)
 (jnC C13 ((x3.1,x3.2.1,x3.2.2),x6,((WR .u32 (x7 * 2))),((WR .i64 (x8+1))),()) w)))
 (jnC (F39.l23 Q) (x7,(0),(0),()) w)
def F39.b13 (Q:QT):(ST×Int×Int×Int×Unit)->World->((ST×Int×Int×Int×Unit)->WT)->Prop:=fun s w C13=>∀ _:Nat->Value,F39.b13c Q C13 s.1 s.2.1 s.2.2.1 s.2.2.2.1 w
def F39.l13 (Q:QT):(ST×Int×Int×Int×Unit)->WT:=fun s w=>∃ n,loopC (F39.b13 Q) n s w
def F39.b7c (Q:QT) (C7:(ST×Int×Unit)->WT) (x3:ST) (x5:Int) (w:World):Prop :=
 vIf (decide (x5 < 32))
 (dr x3.1 fun b12 o13 =>
 gd (decide (0<=x5)) <|
 gd (decide (x5 < (x3.2.1:Int))) <|
 ldB w b12 (o13+(x5).toNat * 1) fun t14 =>
 dr x3.1 fun b15 o16 =>
 gd (decide (0<=x5)) <|
 gd (decide (x5 < (x3.2.1:Int))) <|
 st w b15 (o16+(x5).toNat * 1) [VB (!t14)] fun w17 =>
 jnC C7 ((x3.1,x3.2.1,x3.2.2),((WR .i64 (x5+1))),()) w17)
 (jnC (F39.l13 Q) ((x3.1,x3.2.1,x3.2.2),(517762881),(0),(0),()) w)
def F39.b7 (Q:QT):(ST×Int×Unit)->World->((ST×Int×Unit)->WT)->Prop:=fun s w C7=>∀ _:Nat->Value,F39.b7c Q C7 s.1 s.2.1 w
def F39.l7 (Q:QT):(ST×Int×Unit)->WT:=fun s w=>∃ n,loopC (F39.b7 Q) n s w
def F39.b3c (Q:QT) (C3:(ST×Int×Unit)->WT) (x3:ST) (x4:Int) (w:World):Prop :=
 vIf (decide (x4 < 32))
 (nw w ([VB false] ++ []) 4 fun b6 w7 =>
 app w7 1 1 [VB false] 4 x3.1 x3.2.1 x3.2.2 (VS (some ⟨b6,0,none⟩) 1 1) fun A8 n9 c10 w11 =>
 jnC C3 ((A8,n9,c10),((WR .i64 (x4+1))),()) w11)
 (jnC (F39.l7 Q) ((x3.1,x3.2.1,x3.2.2),(0),()) w)
def F39.b3 (Q:QT):(ST×Int×Unit)->World->((ST×Int×Unit)->WT)->Prop:=fun s w C3=>∀ _:Nat->Value,F39.b3c Q C3 s.1 s.2.1 w
def F39.l3 (Q:QT):(ST×Int×Unit)->WT:=fun s w=>∃ n,loopC (F39.b3 Q) n s w
def F39.vc (x0A:Option Addr) (x0n x0c:Nat) (w:World) (Q:QT):Prop :=
 Calls Tryz.prog 67 #[VS x0A x0n x0c] w fun e2 w1 =>
 ∃ (A3:Option Addr) (n4 c5:Nat),e2=.returned (VS A3 n4 c5)/\(
 jnC (F39.l3 Q) ((A3,n4,c5),(0),()) w1)
def F39.an:Ann:=⟨[(3,[(3,.kSl),(4,.kI .i64)]),(7,[(3,.kSl),(5,.kI .i64)]),(13,[(3,.kSl),(6,.kI .u32),(7,.kI .u32),(8,.kI .i64)]),(23,[(7,.kI .u32),(10,.kI .u32),(11,.kI .i64)])],[]⟩
theorem F39.of (x0A:Option Addr) (x0n x0c:Nat) (w:World) {Q:QT} (h:F39.vc x0A x0n x0c w Q):Calls Tryz.prog 39 #[VS x0A x0n x0c] w (fun e w'=>∃ v,e=.returned v/\Q v w'):=vcFn_of (A:=F39.an) noCount mixed h (by kernel_rfl)
def F35.b3c (Q:QT) (C3:(ByteArray×ByteArray×Int×Unit)->WT) (x0:ByteArray) (x3:ByteArray) (x4:Int) (w:World):Prop :=
 vIf (decide (x4 < (x0.size:Int)))
 (gd (decide (0<=x4)) <|
 gd (decide (x4 < (x0.size:Int))) <|
 Calls Tryz.prog 66 #[VI .u8 (byteAt x0 (x4).toNat),VG x3] w fun e2 w1 =>
 ∃ t3:Bool,e2=.returned (VB t3)/\(
 vIf (!t3)
 (vIf (x4 == 0)
 (Q (VB false) w1)
 (gd (decide (0<=x4)) <|
 gd (decide (x4 < (x0.size:Int))) <|
 Calls Tryz.prog 66 #[VI .u8 (byteAt x0 (x4).toNat),VG (⟨#[46,95,45]⟩:ByteArray)] w1 fun e5 w4 =>
 ∃ t6:Bool,e5=.returned (VB t6)/\(
 vIf (!t6)
 (Q (VB false) w4)
 (jnC C3 (x0,x3,((WR .i64 (x4+1))),()) w4))))
 (jnC C3 (x0,x3,((WR .i64 (x4+1))),()) w1)))
 (vIf (decide ((x0.size:Int) >= 1))
 (Q (VB (decide ((x0.size:Int)<=32))) w)
 (Q (VB false) w))
def F35.b3 (Q:QT):(ByteArray×ByteArray×Int×Unit)->World->((ByteArray×ByteArray×Int×Unit)->WT)->Prop:=fun s w C3=>∀ _:Nat->Value,F35.b3c Q C3 s.1 s.2.1 s.2.2.1 w
def F35.l3 (Q:QT):(ByteArray×ByteArray×Int×Unit)->WT:=fun s w=>∃ n,loopC (F35.b3 Q) n s w
def F35.vc (x0:ByteArray) (w:World) (Q:QT):Prop :=
 jnC (F35.l3 Q) (x0,(⟨#[97,98,99,100,101,102,103,104,105,106,107,108,109,110,111,112,113,114,115,116,117,118,119,120,121,122,48,49,50,51,52,53,54,55,56,57]⟩:ByteArray),(0),()) w
def F35.an:Ann:=⟨[(3,[(0,.kS),(3,.kS),(4,.kI .i64)])],[]⟩
theorem F35.of (x0:ByteArray) (w:World) {Q:QT} (h:F35.vc x0 w Q):Calls Tryz.prog 35 #[VG x0] w (fun e w'=>∃ v,e=.returned v/\Q v w'):=vcFn_of (A:=F35.an) noCount mixed h (by kernel_rfl)
def F31.k14c (Q:QT) (x1:Int) (x4:NT) (x6:ST) (x7:Int) (x9:Int) (x13:Int) (w:World):Prop :=
 vIf (decide ((WR .i64 ((x6.2.1:Int) - 21)) < (WR .i64 x9)))
 (gd (([VI .i64 0] ++ ([VI .u64 0] ++ ([VS none 0 0] ++ ([VI .i64 0] ++ [])))).length == 4) <|
 st w x4.1 x4.2 ([VI .i64 0] ++ ([VI .u64 0] ++ ([VS none 0 0] ++ ([VI .i64 0] ++ [])))) fun w29 =>
 ldA 4 w29 x4.1 x4.2 fun a30 =>
 Q (VT #[ofL a30,VI .i64 4]) w29)
 (gd (decide (0<=(WR .i64 (17+(WR .i64 x9))))) <|
 gd (decide ((WR .i64 (17+(WR .i64 x9)))<=(x6.2.2:Int))) <|
 gd (decide ((17:Int)<=((((WR .i64 (17+(WR .i64 x9)))).toNat:Nat):Int))) <|
 gd (decide (0<=(WR .i64 (21+(WR .i64 x9))))) <|
 gd (decide ((WR .i64 (21+(WR .i64 x9)))<=(x6.2.2:Int))) <|
 Calls Tryz.prog 63 #[VI .i64 x13,VI .u64 x7,VS (slA x6.1 x6.2.2 17 1) (((WR .i64 (17+(WR .i64 x9)))).toNat - 17) (x6.2.2 - 17)] w.drew fun e32 w31 =>
 ∃ (A33:Option Addr) (n34 c35:Nat),e32=.returned (VS A33 n34 c35)/\(
 Calls Tryz.prog 62 #[VS A33 n34 c35,VS (slA x6.1 x6.2.2 0 1) ((WR .i64 (21+(WR .i64 x9)))).toNat x6.2.2] w31 fun e37 w36 =>
 ∃ t38:Bool,e37=.returned (VB t38)/\(
 vIf (!t38)
 (gd (([VI .i64 0] ++ ([VI .u64 0] ++ ([VS none 0 0] ++ ([VI .i64 0] ++ [])))).length == 4) <|
 st w36 x4.1 x4.2 ([VI .i64 0] ++ ([VI .u64 0] ++ ([VS none 0 0] ++ ([VI .i64 0] ++ [])))) fun w39 =>
 ldA 4 w39 x4.1 x4.2 fun a40 =>
 Q (VT #[ofL a40,VI .i64 5]) w39)
 (gd (decide (0<=(WR .i64 (17+(WR .i64 x9))))) <|
 gd (decide ((WR .i64 (17+(WR .i64 x9)))<=(x6.2.2:Int))) <|
 gd (decide ((17:Int)<=((((WR .i64 (17+(WR .i64 x9)))).toNat:Nat):Int))) <|
 gd (([VI .i64 x13] ++ ([VI .u64 x7] ++ ([VS (slA x6.1 x6.2.2 17 1) (((WR .i64 (17+(WR .i64 x9)))).toNat - 17) (x6.2.2 - 17)] ++ ([VI .i64 (WR .i64 ((WR .i64 (x1+21))+(WR .i64 x9)))] ++ [])))).length == 4) <|
 st w36 x4.1 x4.2 ([VI .i64 x13] ++ ([VI .u64 x7] ++ ([VS (slA x6.1 x6.2.2 17 1) (((WR .i64 (17+(WR .i64 x9)))).toNat - 17) (x6.2.2 - 17)] ++ ([VI .i64 (WR .i64 ((WR .i64 (x1+21))+(WR .i64 x9)))] ++ [])))) fun w41 =>
 ldA 4 w41 x4.1 x4.2 fun a42 =>
 Q (VT #[ofL a42,VI .i64 0]) w41))))
def F31.k14 (Q:QT):(Int×NT×ST×Int×Int×Int×Unit)->WT:=fun s w=>∀ _:Nat->Value,F31.k14c Q s.1 s.2.1 s.2.2.1 s.2.2.2.1 s.2.2.2.2.1 s.2.2.2.2.2.1 w
def F31.k13c (Q:QT) (x1:Int) (x4:NT) (x6:ST) (x7:Int) (x9:Int) (x13:Int) (x66:Bool) (w:World):Prop :=
 vIf x66
 (gd (([VI .i64 0] ++ ([VI .u64 0] ++ ([VS none 0 0] ++ ([VI .i64 0] ++ [])))).length == 4) <|
 st w x4.1 x4.2 ([VI .i64 0] ++ ([VI .u64 0] ++ ([VS none 0 0] ++ ([VI .i64 0] ++ [])))) fun w27 =>
 ldA 4 w27 x4.1 x4.2 fun a28 =>
 Q (VT #[ofL a28,VI .i64 3]) w27)
 (jnC (F31.k14 Q) (x1,(x4.1,x4.2),(x6.1,x6.2.1,x6.2.2),x7,x9,x13,()) w)
def F31.k13 (Q:QT):(Int×NT×ST×Int×Int×Int×Bool×Unit)->WT:=fun s w=>∀ _:Nat->Value,F31.k13c Q s.1 s.2.1 s.2.2.1 s.2.2.2.1 s.2.2.2.2.1 s.2.2.2.2.2.1 s.2.2.2.2.2.2.1 w
def F31.k3c (Q:QT) (x0:ST) (x1:Int) (x4:NT) (w:World):Prop :=
 gd (decide (0<=x1)) <|
 gd (decide (x1<=(x0.2.1:Int))) <|
 vIf (decide ((((x0.2.1 - (x1).toNat):Nat):Int) < 17))
 (gd (([VI .i64 0] ++ ([VI .u64 0] ++ ([VS none 0 0] ++ ([VI .i64 0] ++ [])))).length == 4) <|
 st w x4.1 x4.2 ([VI .i64 0] ++ ([VI .u64 0] ++ ([VS none 0 0] ++ ([VI .i64 0] ++ [])))) fun w5 =>
 ldA 4 w5 x4.1 x4.2 fun a6 =>
 Q (VT #[ofL a6,VI .i64 4]) w5)
 (Calls Tryz.prog 61 #[VS (slA x0.1 x0.2.2 (x1).toNat 1) (x0.2.1 - (x1).toNat) (x0.2.2 - (x1).toNat),VI .i64 1,VI .i64 8] w fun e8 w7 =>
 ∃ i9:Int,∃ t10:Bool,e8=.returned (VT #[VI .u64 i9,VB t10])/\(
 Calls Tryz.prog 61 #[VS (slA x0.1 x0.2.2 (x1).toNat 1) (x0.2.1 - (x1).toNat) (x0.2.2 - (x1).toNat),VI .i64 9,VI .i64 4] w7 fun e12 w11 =>
 ∃ i13:Int,∃ t14:Bool,e12=.returned (VT #[VI .u64 i13,VB t14])/\(
 Calls Tryz.prog 61 #[VS (slA x0.1 x0.2.2 (x1).toNat 1) (x0.2.1 - (x1).toNat) (x0.2.2 - (x1).toNat),VI .i64 13,VI .i64 4] w11 fun e16 w15 =>
 ∃ i17:Int,∃ t18:Bool,e16=.returned (VT #[VI .u64 i17,VB t18])/\(
 gd (decide ((13:Int)<=(((x0.2.2 - (x1).toNat):Nat):Int))) <|
 Calls Tryz.prog 39 #[VS (slA (slA x0.1 x0.2.2 (x1).toNat 1) (x0.2.2 - (x1).toNat) 0 1) 13 (x0.2.2 - (x1).toNat)] w15 fun e20 w19 =>
 ∃ i21:Int,e20=.returned (VI .u32 i21)/\(
 vIf (i17 != (WR .u64 i21))
 (gd (([VI .i64 0] ++ ([VI .u64 0] ++ ([VS none 0 0] ++ ([VI .i64 0] ++ [])))).length == 4) <|
 st w19 x4.1 x4.2 ([VI .i64 0] ++ ([VI .u64 0] ++ ([VS none 0 0] ++ ([VI .i64 0] ++ [])))) fun w22 =>
 ldA 4 w22 x4.1 x4.2 fun a23 =>
 Q (VT #[ofL a23,VI .i64 5]) w22)
 (dr (slA x0.1 x0.2.2 (x1).toNat 1) fun b24 o25 =>
 gd (decide ((0:Int) < (((x0.2.1 - (x1).toNat):Nat):Int))) <|
 ldI .u8 w19 b24 o25 fun i26 =>
 vIf ((WR .i64 i26) == 0)
 (jnC (F31.k13 Q) (x1,(x4.1,x4.2),((slA x0.1 x0.2.2 (x1).toNat 1),(x0.2.1 - (x1).toNat),(x0.2.2 - (x1).toNat)),i9,i13,((WR .i64 i26)),true,()) w19)
 (vIf (decide ((WR .i64 i26) > 8))
 (jnC (F31.k13 Q) (x1,(x4.1,x4.2),((slA x0.1 x0.2.2 (x1).toNat 1),(x0.2.1 - (x1).toNat),(x0.2.2 - (x1).toNat)),i9,i13,((WR .i64 i26)),true,()) w19)
 (jnC (F31.k13 Q) (x1,(x4.1,x4.2),((slA x0.1 x0.2.2 (x1).toNat 1),(x0.2.1 - (x1).toNat),(x0.2.2 - (x1).toNat)),i9,i13,((WR .i64 i26)),(decide (i13 > 65536)),()) w19))))))))
def F31.k3 (Q:QT):(ST×Int×NT×Unit)->WT:=fun s w=>∀ _:Nat->Value,F31.k3c Q s.1 s.2.1 s.2.2.1 w
def F31.k2c (Q:QT) (x0:ST) (x1:Int) (x4:NT) (x22:Bool) (w:World):Prop :=
 vIf x22
 (gd (([VI .i64 0] ++ ([VI .u64 0] ++ ([VS none 0 0] ++ ([VI .i64 0] ++ [])))).length == 4) <|
 st w x4.1 x4.2 ([VI .i64 0] ++ ([VI .u64 0] ++ ([VS none 0 0] ++ ([VI .i64 0] ++ [])))) fun w3 =>
 ldA 4 w3 x4.1 x4.2 fun a4 =>
 Q (VT #[ofL a4,VI .i64 2]) w3)
 (jnC (F31.k3 Q) ((x0.1,x0.2.1,x0.2.2),x1,(x4.1,x4.2),()) w)
def F31.k2 (Q:QT):(ST×Int×NT×Bool×Unit)->WT:=fun s w=>∀ _:Nat->Value,F31.k2c Q s.1 s.2.1 s.2.2.1 s.2.2.2.1 w
def F31.vc (x0A:Option Addr) (x0n x0c:Nat) (x1:Int) (w:World) (Q:QT):Prop :=
 nw w Z95 95 fun b1 w2 =>
 vIf (decide (x1 < 0))
 (jnC (F31.k2 Q) ((x0A,x0n,x0c),x1,(b1,0),true,()) w2)
 (jnC (F31.k2 Q) ((x0A,x0n,x0c),x1,(b1,0),(decide (x1 > (x0n:Int))),()) w2)
def F31.an:Ann:=⟨[],[(2,[(0,.kSl),(1,.kI .i64),(4,.kL),(22,.kB)]),(3,[(0,.kSl),(1,.kI .i64),(4,.kL)]),(13,[(1,.kI .i64),(4,.kL),(6,.kSl),(7,.kI .u64),(9,.kI .u64),(13,.kI .i64),(66,.kB)]),(14,[(1,.kI .i64),(4,.kL),(6,.kSl),(7,.kI .u64),(9,.kI .u64),(13,.kI .i64)])]⟩
theorem F31.of (x0A:Option Addr) (x0n x0c:Nat) (x1:Int) (w:World) {Q:QT} (h:F31.vc x0A x0n x0c x1 w Q):Calls Tryz.prog 31 #[VS x0A x0n x0c,VI .i64 x1] w (fun e w'=>∃ v,e=.returned v/\Q v w'):=vcFn_of (A:=F31.an) noCount mixed h (by kernel_rfl)
def F32.k18c (Q:QT) (x4:NT) (x6:NT) (w:World):Prop :=
 ldA 38 w x6.1 x6.2 fun a29 =>
 gd (a29.length == 38) <|
 st w x4.1 x4.2 a29 fun w30 =>
 ldA 38 w30 x4.1 x4.2 fun a31 =>
 Q (VT #[ofL a31,VB true]) w30
def F32.k18 (Q:QT):(NT×NT×Unit)->WT:=fun s w=>∀ _:Nat->Value,F32.k18c Q s.1 s.2.1 w
def F32.k15c (Q:QT) (x0:Int) (x1:ST) (x4:NT) (x6:NT) (w:World):Prop :=
 Calls Tryz.prog 64 #[VS x1.1 x1.2.1 x1.2.2] w fun e21 w20 =>
 ∃ a22:List Value,e21=.returned (ofL a22)/\(
 gd (a22.length == 32) <|
 st w20 x6.1 (x6.2+2) a22 fun w23 =>
 vIf (decide (x0<=2))
 (gd (decide ((32:Int)<=(x1.2.1:Int))) <|
 app w23 1 1 [VI .u8 0] 5 none 0 0 (VS (slA x1.1 x1.2.2 32 1) (x1.2.1 - 32) (x1.2.2 - 32)) fun A24 n25 c26 w27 =>
 st w27 x6.1 (x6.2+35) [VS A24 n25 c26] fun w28 =>
 jnC (F32.k18 Q) ((x4.1,x4.2),(x6.1,x6.2),()) w28)
 (jnC (F32.k18 Q) ((x4.1,x4.2),(x6.1,x6.2),()) w23))
def F32.k15 (Q:QT):(Int×ST×NT×NT×Unit)->WT:=fun s w=>∀ _:Nat->Value,F32.k15c Q s.1 s.2.1 s.2.2.1 s.2.2.2.1 w
def F32.k14c (Q:QT) (x0:Int) (x1:ST) (x4:NT) (x6:NT) (x72:Bool) (w:World):Prop :=
 vIf x72
 (ldA 38 w x6.1 x6.2 fun a17 =>
 gd (a17.length == 38) <|
 st w x4.1 x4.2 a17 fun w18 =>
 ldA 38 w18 x4.1 x4.2 fun a19 =>
 Q (VT #[ofL a19,VB false]) w18)
 (jnC (F32.k15 Q) (x0,(x1.1,x1.2.1,x1.2.2),(x4.1,x4.2),(x6.1,x6.2),()) w)
def F32.k14 (Q:QT):(Int×ST×NT×NT×Bool×Unit)->WT:=fun s w=>∀ _:Nat->Value,F32.k14c Q s.1 s.2.1 s.2.2.1 s.2.2.2.1 s.2.2.2.2.1 w
def F32.k25c (Q:QT) (x4:NT) (x6:NT) (w:World):Prop :=
 ldA 38 w x6.1 x6.2 fun a40 =>
 gd (a40.length == 38) <|
 st w x4.1 x4.2 a40 fun w41 =>
 ldA 38 w41 x4.1 x4.2 fun a42 =>
 Q (VT #[ofL a42,VB true]) w41
def F32.k25 (Q:QT):(NT×NT×Unit)->WT:=fun s w=>∀ _:Nat->Value,F32.k25c Q s.1 s.2.1 w
def F32.k22c (Q:QT) (x1:ST) (x4:NT) (x6:NT) (w:World):Prop :=
 Calls Tryz.prog 61 #[VS x1.1 x1.2.1 x1.2.2,VI .i64 8,VI .i64 8] w fun e36 w35 =>
 ∃ i37:Int,∃ t38:Bool,e36=.returned (VT #[VI .u64 i37,VB t38])/\(
 vIf (decide (i37 < 4294967296))
 (st w35 x6.1 (x6.2+36) [VI .i64 (WR .i64 i37)] fun w39 =>
 jnC (F32.k25 Q) ((x4.1,x4.2),(x6.1,x6.2),()) w39)
 (jnC (F32.k25 Q) ((x4.1,x4.2),(x6.1,x6.2),()) w35))
def F32.k22 (Q:QT):(ST×NT×NT×Unit)->WT:=fun s w=>∀ _:Nat->Value,F32.k22c Q s.1 s.2.1 s.2.2.1 w
def F32.k21c (Q:QT) (x1:ST) (x4:NT) (x6:NT) (x93:Bool) (w:World):Prop :=
 vIf x93
 (ldA 38 w x6.1 x6.2 fun a32 =>
 gd (a32.length == 38) <|
 st w x4.1 x4.2 a32 fun w33 =>
 ldA 38 w33 x4.1 x4.2 fun a34 =>
 Q (VT #[ofL a34,VB false]) w33)
 (jnC (F32.k22 Q) ((x1.1,x1.2.1,x1.2.2),(x4.1,x4.2),(x6.1,x6.2),()) w)
def F32.k21 (Q:QT):(ST×NT×NT×Bool×Unit)->WT:=fun s w=>∀ _:Nat->Value,F32.k21c Q s.1 s.2.1 s.2.2.1 s.2.2.2.1 w
def F32.k19c (Q:QT) (x0:Int) (x1:ST) (x4:NT) (x6:NT) (x7:Int) (w:World):Prop :=
 vIf (x0 == 7)
 (vIf (x7 != 16)
 (jnC (F32.k21 Q) ((x1.1,x1.2.1,x1.2.2),(x4.1,x4.2),(x6.1,x6.2),true,()) w)
 (gd (decide ((8:Int)<=(x1.2.2:Int))) <|
 b2s w (slA x1.1 x1.2.2 0 1) 8 fun s43 =>
 jnC (F32.k21 Q) ((x1.1,x1.2.1,x1.2.2),(x4.1,x4.2),(x6.1,x6.2),(!(s43.toList == (⟨#[115,116,105,108,108,97,103,101]⟩:ByteArray).toList)),()) w))
 (vIf (x7 != 8)
 (ldA 38 w x6.1 x6.2 fun a44 =>
 gd (a44.length == 38) <|
 st w x4.1 x4.2 a44 fun w45 =>
 ldA 38 w45 x4.1 x4.2 fun a46 =>
 Q (VT #[ofL a46,VB false]) w45)
 (Calls Tryz.prog 61 #[VS x1.1 x1.2.1 x1.2.2,VI .i64 0,VI .i64 4] w fun e48 w47 =>
 ∃ i49:Int,∃ t50:Bool,e48=.returned (VT #[VI .u64 i49,VB t50])/\(
 Calls Tryz.prog 61 #[VS x1.1 x1.2.1 x1.2.2,VI .i64 4,VI .i64 4] w47 fun e52 w51 =>
 ∃ i53:Int,∃ t54:Bool,e52=.returned (VT #[VI .u64 i53,VB t54])/\(
 st w51 x6.1 (x6.2+36) [VI .i64 (WR .i64 i49)] fun w55 =>
 st w55 x6.1 (x6.2+37) [VI .i64 (WR .i64 i53)] fun w56 =>
 ldA 38 w56 x6.1 x6.2 fun a57 =>
 gd (a57.length == 38) <|
 st w56 x4.1 x4.2 a57 fun w58 =>
 ldA 38 w58 x4.1 x4.2 fun a59 =>
 Q (VT #[ofL a59,VB true]) w58))))
def F32.k19 (Q:QT):(Int×ST×NT×NT×Int×Unit)->WT:=fun s w=>∀ _:Nat->Value,F32.k19c Q s.1 s.2.1 s.2.2.1 s.2.2.2.1 s.2.2.2.2.1 w
def F32.k13c (Q:QT) (x0:Int) (x1:ST) (x4:NT) (x6:NT) (x7:Int) (x62:Bool) (w:World):Prop :=
 vIf x62
 (vIf (decide (x7 < 32))
 (jnC (F32.k14 Q) (x0,(x1.1,x1.2.1,x1.2.2),(x4.1,x4.2),(x6.1,x6.2),true,()) w)
 (vIf (decide (x0 > 2))
 (jnC (F32.k14 Q) (x0,(x1.1,x1.2.1,x1.2.2),(x4.1,x4.2),(x6.1,x6.2),(decide (x7 > 32)),()) w)
 (jnC (F32.k14 Q) (x0,(x1.1,x1.2.1,x1.2.2),(x4.1,x4.2),(x6.1,x6.2),false,()) w)))
 (jnC (F32.k19 Q) (x0,(x1.1,x1.2.1,x1.2.2),(x4.1,x4.2),(x6.1,x6.2),x7,()) w)
def F32.k13 (Q:QT):(Int×ST×NT×NT×Int×Bool×Unit)->WT:=fun s w=>∀ _:Nat->Value,F32.k13c Q s.1 s.2.1 s.2.2.1 s.2.2.2.1 s.2.2.2.2.1 s.2.2.2.2.2.1 w
def F32.k12c (Q:QT) (x0:Int) (x1:ST) (x4:NT) (x6:NT) (x7:Int) (w:World):Prop :=
 vIf (decide (x0<=3))
 (jnC (F32.k13 Q) (x0,(x1.1,x1.2.1,x1.2.2),(x4.1,x4.2),(x6.1,x6.2),x7,true,()) w)
 (jnC (F32.k13 Q) (x0,(x1.1,x1.2.1,x1.2.2),(x4.1,x4.2),(x6.1,x6.2),x7,(x0 == 5),()) w)
def F32.k12 (Q:QT):(Int×ST×NT×NT×Int×Unit)->WT:=fun s w=>∀ _:Nat->Value,F32.k12c Q s.1 s.2.1 s.2.2.1 s.2.2.2.1 s.2.2.2.2.1 w
def F32.k6c (Q:QT) (x0:Int) (x1:ST) (x4:NT) (x6:NT) (w:World):Prop :=
 dr x1.1 fun b9 o10 =>
 gd (decide ((0:Int) < (x1.2.1:Int))) <|
 ldI .u8 w b9 o10 fun i11 =>
 gd (decide (0<=(WR .i64 (1+(WR .i64 i11))))) <|
 gd (decide ((WR .i64 (1+(WR .i64 i11)))<=(x1.2.2:Int))) <|
 gd (decide ((1:Int)<=((((WR .i64 (1+(WR .i64 i11)))).toNat:Nat):Int))) <|
 b2s w (slA x1.1 x1.2.2 1 1) (((WR .i64 (1+(WR .i64 i11)))).toNat - 1) fun s12 =>
 st w x6.1 (x6.2+34) [VG s12] fun w13 =>
 gd (decide (0<=(WR .i64 (1+(WR .i64 i11))))) <|
 gd (decide ((WR .i64 (1+(WR .i64 i11)))<=(x1.2.1:Int))) <|
 vIf (x0 == 4)
 (ldA 38 w13 x6.1 x6.2 fun a14 =>
 gd (a14.length == 38) <|
 st w13 x4.1 x4.2 a14 fun w15 =>
 ldA 38 w15 x4.1 x4.2 fun a16 =>
 Q (VT #[ofL a16,VB ((((x1.2.1 - ((WR .i64 (1+(WR .i64 i11)))).toNat):Nat):Int) == 0)]) w15)
 (jnC (F32.k12 Q) (x0,((slA x1.1 x1.2.2 ((WR .i64 (1+(WR .i64 i11)))).toNat 1),(x1.2.1 - ((WR .i64 (1+(WR .i64 i11)))).toNat),(x1.2.2 - ((WR .i64 (1+(WR .i64 i11)))).toNat)),(x4.1,x4.2),(x6.1,x6.2),((((x1.2.1 - ((WR .i64 (1+(WR .i64 i11)))).toNat):Nat):Int)),()) w13)
def F32.k6 (Q:QT):(Int×ST×NT×NT×Unit)->WT:=fun s w=>∀ _:Nat->Value,F32.k6c Q s.1 s.2.1 s.2.2.1 s.2.2.2.1 w
def F32.k5c (Q:QT) (x0:Int) (x1:ST) (x4:NT) (x6:NT) (x35:Bool) (w:World):Prop :=
 vIf x35
 (ldA 38 w x6.1 x6.2 fun a6 =>
 gd (a6.length == 38) <|
 st w x4.1 x4.2 a6 fun w7 =>
 ldA 38 w7 x4.1 x4.2 fun a8 =>
 Q (VT #[ofL a8,VB false]) w7)
 (jnC (F32.k6 Q) (x0,(x1.1,x1.2.1,x1.2.2),(x4.1,x4.2),(x6.1,x6.2),()) w)
def F32.k5 (Q:QT):(Int×ST×NT×NT×Bool×Unit)->WT:=fun s w=>∀ _:Nat->Value,F32.k5c Q s.1 s.2.1 s.2.2.1 s.2.2.2.1 s.2.2.2.2.1 w
def F32.k4c (Q:QT) (x0:Int) (x1:ST) (x4:NT) (x6:NT) (x7:Int) (x24:Bool) (w:World):Prop :=
 vIf x24
 (vIf (x7 == 0)
 (jnC (F32.k5 Q) (x0,(x1.1,x1.2.1,x1.2.2),(x4.1,x4.2),(x6.1,x6.2),true,()) w)
 (dr x1.1 fun b60 o61 =>
 gd (decide ((0:Int) < (x1.2.1:Int))) <|
 ldI .u8 w b60 o61 fun i62 =>
 jnC (F32.k5 Q) (x0,(x1.1,x1.2.1,x1.2.2),(x4.1,x4.2),(x6.1,x6.2),(decide (x7 < (WR .i64 (1+(WR .i64 i62))))),()) w))
 (jnC (F32.k12 Q) (x0,(x1.1,x1.2.1,x1.2.2),(x4.1,x4.2),(x6.1,x6.2),x7,()) w)
def F32.k4 (Q:QT):(Int×ST×NT×NT×Int×Bool×Unit)->WT:=fun s w=>∀ _:Nat->Value,F32.k4c Q s.1 s.2.1 s.2.2.1 s.2.2.2.1 s.2.2.2.2.1 s.2.2.2.2.2.1 w
def F32.vc (x0:Int) (x1A:Option Addr) (x1n x1c:Nat) (w:World) (Q:QT):Prop :=
 nw w Z48 48 fun b1 w2 =>
 nw w2 Z48 48 fun b3 w4 =>
 gd (([VI .i64 x0] ++ ([VI .u64 0] ++ ([VI .u8 0,VI .u8 0,VI .u8 0,VI .u8 0,VI .u8 0,VI .u8 0,VI .u8 0,VI .u8 0,VI .u8 0,VI .u8 0,VI .u8 0,VI .u8 0,VI .u8 0,VI .u8 0,VI .u8 0,VI .u8 0,VI .u8 0,VI .u8 0,VI .u8 0,VI .u8 0,VI .u8 0,VI .u8 0,VI .u8 0,VI .u8 0,VI .u8 0,VI .u8 0,VI .u8 0,VI .u8 0,VI .u8 0,VI .u8 0,VI .u8 0,VI .u8 0] ++ ([VG (⟨#[]⟩:ByteArray)] ++ ([VS none 0 0] ++ ([VI .i64 0] ++ ([VI .i64 0] ++ []))))))).length == 38) <|
 st w4 b3 0 ([VI .i64 x0] ++ ([VI .u64 0] ++ ([VI .u8 0,VI .u8 0,VI .u8 0,VI .u8 0,VI .u8 0,VI .u8 0,VI .u8 0,VI .u8 0,VI .u8 0,VI .u8 0,VI .u8 0,VI .u8 0,VI .u8 0,VI .u8 0,VI .u8 0,VI .u8 0,VI .u8 0,VI .u8 0,VI .u8 0,VI .u8 0,VI .u8 0,VI .u8 0,VI .u8 0,VI .u8 0,VI .u8 0,VI .u8 0,VI .u8 0,VI .u8 0,VI .u8 0,VI .u8 0,VI .u8 0,VI .u8 0] ++ ([VG (⟨#[]⟩:ByteArray)] ++ ([VS none 0 0] ++ ([VI .i64 0] ++ ([VI .i64 0] ++ []))))))) fun w5 =>
 vIf (x0 == 3)
 (jnC (F32.k4 Q) (x0,(x1A,x1n,x1c),(b1,0),(b3,0),((x1n:Int)),true,()) w5)
 (jnC (F32.k4 Q) (x0,(x1A,x1n,x1c),(b1,0),(b3,0),((x1n:Int)),(x0 == 4),()) w5)
def F32.an:Ann:=⟨[],[(4,[(0,.kI .i64),(1,.kSl),(4,.kL),(6,.kL),(7,.kI .i64),(24,.kB)]),(5,[(0,.kI .i64),(1,.kSl),(4,.kL),(6,.kL),(35,.kB)]),(6,[(0,.kI .i64),(1,.kSl),(4,.kL),(6,.kL)]),(12,[(0,.kI .i64),(1,.kSl),(4,.kL),(6,.kL),(7,.kI .i64)]),(13,[(0,.kI .i64),(1,.kSl),(4,.kL),(6,.kL),(7,.kI .i64),(62,.kB)]),(14,[(0,.kI .i64),(1,.kSl),(4,.kL),(6,.kL),(72,.kB)]),(15,[(0,.kI .i64),(1,.kSl),(4,.kL),(6,.kL)]),(18,[(4,.kL),(6,.kL)]),(19,[(0,.kI .i64),(1,.kSl),(4,.kL),(6,.kL),(7,.kI .i64)]),(21,[(1,.kSl),(4,.kL),(6,.kL),(93,.kB)]),(22,[(1,.kSl),(4,.kL),(6,.kL)]),(25,[(4,.kL),(6,.kL)])]⟩
theorem F32.of (x0:Int) (x1A:Option Addr) (x1n x1c:Nat) (w:World) {Q:QT} (h:F32.vc x0 x1A x1n x1c w Q):Calls Tryz.prog 32 #[VI .i64 x0,VS x1A x1n x1c] w (fun e w'=>∃ v,e=.returned v/\Q v w'):=vcFn_of (A:=F32.an) noCount mixed h (by kernel_rfl)
def F33.k10c (Q:QT) (x1:NT) (x3:Int) (w:World):Prop :=
 vIf (x3 == 7)
 (ldI .i64 w x1.1 (x1.2+36) fun i15 =>
 vIf (decide (i15 < 1))
 (Q (VI .i64 20) w)
 (ldI .i64 w x1.1 (x1.2+36) fun i16 =>
 vIf (decide (i16 > 99999999))
 (Q (VI .i64 20) w)
 (Q (VI .i64 0) w)))
 (Q (VI .i64 0) w)
def F33.k10 (Q:QT):(NT×Int×Unit)->WT:=fun s w=>∀ _:Nat->Value,F33.k10c Q s.1 s.2.1 w
def F33.k8c (Q:QT) (x1:NT) (x3:Int) (w:World):Prop :=
 vIf (x3 == 6)
 (ldI .i64 w x1.1 (x1.2+36) fun i11 =>
 vIf (decide (i11 < 0))
 (Q (VI .i64 20) w)
 (ldI .i64 w x1.1 (x1.2+37) fun i12 =>
 vIf (decide (i12 < 0))
 (Q (VI .i64 20) w)
 (ldI .i64 w x1.1 (x1.2+36) fun i13 =>
 vIf (decide (i13 >= 4294967296))
 (Q (VI .i64 20) w)
 (ldI .i64 w x1.1 (x1.2+37) fun i14 =>
 vIf (decide (i14 >= 4294967296))
 (Q (VI .i64 20) w)
 (jnC (F33.k10 Q) ((x1.1,x1.2),x3,()) w)))))
 (vIf (x3 == 8)
 (ldI .i64 w x1.1 (x1.2+36) fun i17 =>
 vIf (decide (i17 < 0))
 (Q (VI .i64 20) w)
 (ldI .i64 w x1.1 (x1.2+37) fun i18 =>
 vIf (decide (i18 < 0))
 (Q (VI .i64 20) w)
 (ldI .i64 w x1.1 (x1.2+36) fun i19 =>
 vIf (decide (i19 >= 4294967296))
 (Q (VI .i64 20) w)
 (ldI .i64 w x1.1 (x1.2+37) fun i20 =>
 vIf (decide (i20 >= 4294967296))
 (Q (VI .i64 20) w)
 (jnC (F33.k10 Q) ((x1.1,x1.2),x3,()) w)))))
 (jnC (F33.k10 Q) ((x1.1,x1.2),x3,()) w))
def F33.k8 (Q:QT):(NT×Int×Unit)->WT:=fun s w=>∀ _:Nat->Value,F33.k8c Q s.1 s.2.1 w
def F33.k6c (Q:QT) (x1:NT) (x3:Int) (w:World):Prop :=
 vIf (x3 == 3)
 (ldS w x1.1 (x1.2+34) fun s7 =>
 Calls Tryz.prog 35 #[VG s7] w fun e9 w8 =>
 ∃ t10:Bool,e9=.returned (VB t10)/\(
 vIf (!t10)
 (Q (VI .i64 12) w8)
 (jnC (F33.k8 Q) ((x1.1,x1.2),x3,()) w8)))
 (vIf (x3 == 4)
 (ldS w x1.1 (x1.2+34) fun s21 =>
 Calls Tryz.prog 35 #[VG s21] w fun e23 w22 =>
 ∃ t24:Bool,e23=.returned (VB t24)/\(
 vIf (!t24)
 (Q (VI .i64 12) w22)
 (jnC (F33.k8 Q) ((x1.1,x1.2),x3,()) w22)))
 (jnC (F33.k8 Q) ((x1.1,x1.2),x3,()) w))
def F33.k6 (Q:QT):(NT×Int×Unit)->WT:=fun s w=>∀ _:Nat->Value,F33.k6c Q s.1 s.2.1 w
def F33.k4c (Q:QT) (x1:NT) (x3:Int) (w:World):Prop :=
 vIf (decide (x3<=2))
 (ldSl w x1.1 (x1.2+35) fun A4 n5 c6 =>
 vIf (decide ((n5:Int) > 65504))
 (Q (VI .i64 18) w)
 (jnC (F33.k6 Q) ((x1.1,x1.2),x3,()) w))
 (jnC (F33.k6 Q) ((x1.1,x1.2),x3,()) w)
def F33.k4 (Q:QT):(NT×Int×Unit)->WT:=fun s w=>∀ _:Nat->Value,F33.k4c Q s.1 s.2.1 w
def F33.vc (x0:List Value) (w:World) (Q:QT):Prop :=
 nw w x0 48 fun b1 w2 =>
 ldI .i64 w2 b1 0 fun i3 =>
 vIf (decide (i3 < 1))
 (Q (VI .i64 2) w2)
 (vIf (decide (i3 > 8))
 (Q (VI .i64 2) w2)
 (jnC (F33.k4 Q) ((b1,0),i3,()) w2))
def F33.an:Ann:=⟨[],[(4,[(1,.kL),(3,.kI .i64)]),(6,[(1,.kL),(3,.kI .i64)]),(8,[(1,.kL),(3,.kI .i64)]),(10,[(1,.kL),(3,.kI .i64)])]⟩
theorem F33.of (x0:List Value) (w:World) {Q:QT} (h:F33.vc x0 w Q):Calls Tryz.prog 33 #[ofL x0] w (fun e w'=>∃ v,e=.returned v/\Q v w'):=vcFn_of (A:=F33.an) noCount mixed h (by kernel_rfl)
def F34.k4c (Q:QT) (x2:NT) (x4:NT) (x5:NT) (w:World):Prop :=
 ldA 38 w x2.1 x2.2 fun a21 =>
 Calls Tryz.prog 65 #[ofL a21] w fun e23 w22 =>
 ∃ a24:List Value,e23=.returned (ofL a24)/\(
 nw w22 Z48 48 fun b25 w26 =>
 gd (a24.length == 38) <|
 st w26 b25 0 a24 fun w27 =>
 ldA 32 w27 b25 (0+2) fun a28 =>
 gd (a28.length == 32) <|
 st w27 x5.1 (x5.2+2) a28 fun w29 =>
 ldS w29 b25 (0+34) fun s30 =>
 st w29 x5.1 (x5.2+34) [VG s30] fun w31 =>
 ldSl w31 b25 (0+35) fun A32 n33 c34 =>
 ldI .i64 w31 b25 (0+37) fun i35 =>
 st w31 x5.1 (x5.2+35) [VI .i64 (WR .i64 ((n33:Int)+i35))] fun w36 =>
 ldA 39 w36 x5.1 x5.2 fun a37 =>
 gd (a37.length == 39) <|
 st w36 x4.1 x4.2 a37 fun w38 =>
 ldA 39 w38 x4.1 x4.2 fun a39 =>
 Q (ofL a39) w38)
def F34.k4 (Q:QT):(NT×NT×NT×Unit)->WT:=fun s w=>∀ _:Nat->Value,F34.k4c Q s.1 s.2.1 s.2.2.1 w
def F34.vc (x0:List Value) (x1:List Value) (w:World) (Q:QT):Prop :=
 nw w x0 48 fun b1 w2 =>
 nw w2 x1 54 fun b3 w4 =>
 nw w4 Z56 56 fun b5 w6 =>
 ldI .i64 w6 b1 0 fun i7 =>
 ldI .u64 w6 b1 (0+1) fun i8 =>
 ldA 3 w6 b3 0 fun a9 =>
 gd (a9.length == 3) <|
 nw w6 Z56 56 fun b10 w11 =>
 gd (([VI .i64 i7] ++ ([VI .u64 i8] ++ ([VI .u8 0,VI .u8 0,VI .u8 0,VI .u8 0,VI .u8 0,VI .u8 0,VI .u8 0,VI .u8 0,VI .u8 0,VI .u8 0,VI .u8 0,VI .u8 0,VI .u8 0,VI .u8 0,VI .u8 0,VI .u8 0,VI .u8 0,VI .u8 0,VI .u8 0,VI .u8 0,VI .u8 0,VI .u8 0,VI .u8 0,VI .u8 0,VI .u8 0,VI .u8 0,VI .u8 0,VI .u8 0,VI .u8 0,VI .u8 0,VI .u8 0,VI .u8 0] ++ ([VG (⟨#[]⟩:ByteArray)] ++ ([VI .i64 0] ++ (a9 ++ [])))))).length == 39) <|
 st w11 b10 0 ([VI .i64 i7] ++ ([VI .u64 i8] ++ ([VI .u8 0,VI .u8 0,VI .u8 0,VI .u8 0,VI .u8 0,VI .u8 0,VI .u8 0,VI .u8 0,VI .u8 0,VI .u8 0,VI .u8 0,VI .u8 0,VI .u8 0,VI .u8 0,VI .u8 0,VI .u8 0,VI .u8 0,VI .u8 0,VI .u8 0,VI .u8 0,VI .u8 0,VI .u8 0,VI .u8 0,VI .u8 0,VI .u8 0,VI .u8 0,VI .u8 0,VI .u8 0,VI .u8 0,VI .u8 0,VI .u8 0,VI .u8 0] ++ ([VG (⟨#[]⟩:ByteArray)] ++ ([VI .i64 0] ++ (a9 ++ [])))))) fun w12 =>
 ldI .i64 w12 b1 0 fun i13 =>
 vIf (decide (i13 < 1))
 (ldA 39 w12 b10 0 fun a14 =>
 gd (a14.length == 39) <|
 st w12 b5 0 a14 fun w15 =>
 ldA 39 w15 b5 0 fun a16 =>
 Q (ofL a16) w15)
 (ldI .i64 w12 b1 0 fun i17 =>
 vIf (decide (i17 > 8))
 (ldA 39 w12 b10 0 fun a18 =>
 gd (a18.length == 39) <|
 st w12 b5 0 a18 fun w19 =>
 ldA 39 w19 b5 0 fun a20 =>
 Q (ofL a20) w19)
 (jnC (F34.k4 Q) ((b1,0),(b5,0),(b10,0),()) w12))
def F34.an:Ann:=⟨[],[(4,[(2,.kL),(4,.kL),(5,.kL)])]⟩
theorem F34.of (x0:List Value) (x1:List Value) (w:World) {Q:QT} (h:F34.vc x0 x1 w Q):Calls Tryz.prog 34 #[ofL x0,ofL x1] w (fun e w'=>∃ v,e=.returned v/\Q v w'):=vcFn_of (A:=F34.an) noCount mixed h (by kernel_rfl)
def F63.vc (x0:Int) (x1:Int) (x2A:Option Addr) (x2n x2c:Nat) (w:World) (Q:QT):Prop :=
 nw w ([VI .u8 (WR .u8 x0)] ++ []) 5 fun b1 w2 =>
 app w2 1 1 [VI .u8 0] 5 none 0 0 (VS (some ⟨b1,0,none⟩) 1 1) fun A3 n4 c5 w6 =>
 Calls Tryz.prog 38 #[VS A3 n4 c5,VI .u64 x1,VI .i64 8] w6 fun e8 w7 =>
 ∃ (A9:Option Addr) (n10 c11:Nat),e8=.returned (VS A9 n10 c11)/\(
 Calls Tryz.prog 38 #[VS A9 n10 c11,VI .u64 (WR .u64 (x2n:Int)),VI .i64 4] w7 fun e13 w12 =>
 ∃ (A14:Option Addr) (n15 c16:Nat),e13=.returned (VS A14 n15 c16)/\(
 Calls Tryz.prog 39 #[VS A14 n15 c16] w12 fun e18 w17 =>
 ∃ i19:Int,e18=.returned (VI .u32 i19)/\(
 Calls Tryz.prog 38 #[VS A14 n15 c16,VI .u64 (WR .u64 i19),VI .i64 4] w17 fun e21 w20 =>
 ∃ (A22:Option Addr) (n23 c24:Nat),e21=.returned (VS A22 n23 c24)/\(
 app w20 1 1 [VI .u8 0] 5 A22 n23 c24 (VS x2A x2n x2c) fun A25 n26 c27 w28 =>
 Calls Tryz.prog 39 #[VS A25 n26 c27] w28 fun e30 w29 =>
 ∃ i31:Int,e30=.returned (VI .u32 i31)/\(
 Calls Tryz.prog 38 #[VS A25 n26 c27,VI .u64 (WR .u64 i31),VI .i64 4] w29 fun e33 w32 =>
 ∃ (A34:Option Addr) (n35 c36:Nat),e33=.returned (VS A34 n35 c36)/\(
 Q (VS A34 n35 c36) w32))))))
def F63.an:Ann:=⟨[],[]⟩
theorem F63.of (x0:Int) (x1:Int) (x2A:Option Addr) (x2n x2c:Nat) (w:World) {Q:QT} (h:F63.vc x0 x1 x2A x2n x2c w Q):Calls Tryz.prog 63 #[VI .i64 x0,VI .u64 x1,VS x2A x2n x2c] w (fun e w'=>∃ v,e=.returned v/\Q v w'):=vcFn_of (A:=F63.an) noCount mixed h (by kernel_rfl)
def F68.k12c (Q:QT) (x1:NT) (x3:Int) (x4:ST) (w:World):Prop :=
 vIf (x3 == 7)
 (nw w ([VI .u8 115] ++ ([VI .u8 116] ++ ([VI .u8 105] ++ ([VI .u8 108] ++ ([VI .u8 108] ++ ([VI .u8 97] ++ ([VI .u8 103] ++ ([VI .u8 101] ++ [])))))))) 5 fun b39 w40 =>
 mkS w40 b39 fun w41 =>
 ldI .i64 w41 x1.1 (x1.2+36) fun i42 =>
 Calls Tryz.prog 38 #[VS (some ⟨b39,0,none⟩) 8 8,VI .u64 (WR .u64 i42),VI .i64 8] w41 fun e44 w43 =>
 ∃ (A45:Option Addr) (n46 c47:Nat),e44=.returned (VS A45 n46 c47)/\(
 Q (VS A45 n46 c47) w43))
 (Q (VS x4.1 x4.2.1 x4.2.2) w)
def F68.k12 (Q:QT):(NT×Int×ST×Unit)->WT:=fun s w=>∀ _:Nat->Value,F68.k12c Q s.1 s.2.1 s.2.2.1 w
def F68.k11c (Q:QT) (x1:NT) (x3:Int) (x4:ST) (x57:Bool) (w:World):Prop :=
 vIf x57
 (ldI .i64 w.drew x1.1 (x1.2+36) fun i27 =>
 ldI .i64 w.drew x1.1 (x1.2+37) fun i28 =>
 Calls Tryz.prog 38 #[VS x4.1 x4.2.1 x4.2.2,VI .u64 (WR .u64 i27),VI .i64 4] w.drew fun e30 w29 =>
 ∃ (A31:Option Addr) (n32 c33:Nat),e30=.returned (VS A31 n32 c33)/\(
 kp w.drew x1.1 (x1.2+37) 1 w29 <|
 Calls Tryz.prog 38 #[VS A31 n32 c33,VI .u64 (WR .u64 i28),VI .i64 4] w29 fun e35 w34 =>
 ∃ (A36:Option Addr) (n37 c38:Nat),e35=.returned (VS A36 n37 c38)/\(
 jnC (F68.k12 Q) ((x1.1,x1.2),x3,(A36,n37,c38),()) w34)))
 (jnC (F68.k12 Q) ((x1.1,x1.2),x3,(x4.1,x4.2.1,x4.2.2),()) w)
def F68.k11 (Q:QT):(NT×Int×ST×Bool×Unit)->WT:=fun s w=>∀ _:Nat->Value,F68.k11c Q s.1 s.2.1 s.2.2.1 s.2.2.2.1 w
def F68.k10c (Q:QT) (x1:NT) (x3:Int) (x4:ST) (w:World):Prop :=
 vIf (x3 == 6)
 (jnC (F68.k11 Q) ((x1.1,x1.2),x3,(x4.1,x4.2.1,x4.2.2),true,()) w)
 (jnC (F68.k11 Q) ((x1.1,x1.2),x3,(x4.1,x4.2.1,x4.2.2),(x3 == 8),()) w)
def F68.k10 (Q:QT):(NT×Int×ST×Unit)->WT:=fun s w=>∀ _:Nat->Value,F68.k10c Q s.1 s.2.1 s.2.2.1 w
def F68.k8c (Q:QT) (x1:NT) (x3:Int) (x4:ST) (w:World):Prop :=
 vIf (x3 == 1)
 (ldSl w x1.1 (x1.2+35) fun A20 n21 c22 =>
 app w 1 1 [VI .u8 0] 5 x4.1 x4.2.1 x4.2.2 (VS A20 n21 c22) fun A23 n24 c25 w26 =>
 jnC (F68.k10 Q) ((x1.1,x1.2),x3,(A23,n24,c25),()) w26)
 (vIf (x3 == 2)
 (ldSl w x1.1 (x1.2+35) fun A48 n49 c50 =>
 app w 1 1 [VI .u8 0] 5 x4.1 x4.2.1 x4.2.2 (VS A48 n49 c50) fun A51 n52 c53 w54 =>
 jnC (F68.k10 Q) ((x1.1,x1.2),x3,(A51,n52,c53),()) w54)
 (jnC (F68.k10 Q) ((x1.1,x1.2),x3,(x4.1,x4.2.1,x4.2.2),()) w))
def F68.k8 (Q:QT):(NT×Int×ST×Unit)->WT:=fun s w=>∀ _:Nat->Value,F68.k8c Q s.1 s.2.1 s.2.2.1 w
def F68.k6c (Q:QT) (x1:NT) (x3:Int) (x4:ST) (w:World):Prop :=
 vIf (x3 == 1)
 (app w 1 1 [VI .u8 0] 5 x4.1 x4.2.1 x4.2.2 (VS (some ⟨x1.1,(x1.2+2),none⟩) 32 32) fun A16 n17 c18 w19 =>
 jnC (F68.k8 Q) ((x1.1,x1.2),x3,(A16,n17,c18),()) w19)
 (vIf (x3 == 2)
 (app w 1 1 [VI .u8 0] 5 x4.1 x4.2.1 x4.2.2 (VS (some ⟨x1.1,(x1.2+2),none⟩) 32 32) fun A55 n56 c57 w58 =>
 jnC (F68.k8 Q) ((x1.1,x1.2),x3,(A55,n56,c57),()) w58)
 (vIf (x3 == 3)
 (app w 1 1 [VI .u8 0] 5 x4.1 x4.2.1 x4.2.2 (VS (some ⟨x1.1,(x1.2+2),none⟩) 32 32) fun A59 n60 c61 w62 =>
 jnC (F68.k8 Q) ((x1.1,x1.2),x3,(A59,n60,c61),()) w62)
 (vIf (x3 == 5)
 (app w 1 1 [VI .u8 0] 5 x4.1 x4.2.1 x4.2.2 (VS (some ⟨x1.1,(x1.2+2),none⟩) 32 32) fun A63 n64 c65 w66 =>
 jnC (F68.k8 Q) ((x1.1,x1.2),x3,(A63,n64,c65),()) w66)
 (jnC (F68.k8 Q) ((x1.1,x1.2),x3,(x4.1,x4.2.1,x4.2.2),()) w))))
def F68.k6 (Q:QT):(NT×Int×ST×Unit)->WT:=fun s w=>∀ _:Nat->Value,F68.k6c Q s.1 s.2.1 s.2.2.1 w
def F68.k4c (Q:QT) (x1:NT) (x3:Int) (x4:ST) (x12:Bool) (w:World):Prop :=
 vIf x12
 (ldS w x1.1 (x1.2+34) fun s4 =>
 nw w ([VI .u8 (WR .u8 (s4.size:Int))] ++ []) 5 fun b5 w6 =>
 app w6 1 1 [VI .u8 0] 5 x4.1 x4.2.1 x4.2.2 (VS (some ⟨b5,0,none⟩) 1 1) fun A7 n8 c9 w10 =>
 ldS w10 x1.1 (x1.2+34) fun s11 =>
 app w10 1 1 [VI .u8 0] 5 A7 n8 c9 (VG s11) fun A12 n13 c14 w15 =>
 jnC (F68.k6 Q) ((x1.1,x1.2),x3,(A12,n13,c14),()) w15)
 (jnC (F68.k6 Q) ((x1.1,x1.2),x3,(x4.1,x4.2.1,x4.2.2),()) w)
def F68.k4 (Q:QT):(NT×Int×ST×Bool×Unit)->WT:=fun s w=>∀ _:Nat->Value,F68.k4c Q s.1 s.2.1 s.2.2.1 s.2.2.2.1 w
def F68.vc (x0:List Value) (w:World) (Q:QT):Prop :=
 nw w x0 48 fun b1 w2 =>
 ldI .i64 w2 b1 0 fun i3 =>
 vIf (i3 == 3)
 (jnC (F68.k4 Q) ((b1,0),i3,(none,0,0),true,()) w2)
 (jnC (F68.k4 Q) ((b1,0),i3,(none,0,0),(i3 == 4),()) w2)
def F68.an:Ann:=⟨[],[(4,[(1,.kL),(3,.kI .i64),(4,.kSl),(12,.kB)]),(6,[(1,.kL),(3,.kI .i64),(4,.kSl)]),(8,[(1,.kL),(3,.kI .i64),(4,.kSl)]),(10,[(1,.kL),(3,.kI .i64),(4,.kSl)]),(11,[(1,.kL),(3,.kI .i64),(4,.kSl),(57,.kB)]),(12,[(1,.kL),(3,.kI .i64),(4,.kSl)])]⟩
theorem F68.of (x0:List Value) (w:World) {Q:QT} (h:F68.vc x0 w Q):Calls Tryz.prog 68 #[ofL x0] w (fun e w'=>∃ v,e=.returned v/\Q v w'):=vcFn_of (A:=F68.an) noCount mixed h (by kernel_rfl)
def F69.b9c (Q:QT) (C9:(ST×Int×Unit)->WT) (x0:ST) (x4:Int) (w:World):Prop :=
 vIf (decide (x4 < (x0.2.1:Int)))
 (dr x0.1 fun b7 o8 =>
 gd (decide (0<=x4)) <|
 gd (decide (x4 < (x0.2.1:Int))) <|
 ldA 38 w b7 (o8+(x4).toNat * 38) fun a9 =>
 Calls Tryz.prog 33 #[ofL a9] w fun e11 w10 =>
 ∃ i12:Int,e11=.returned (VI .i64 i12)/\(
 vIf (i12 != 0)
 (dr x0.1 fun b13 o14 =>
 gd (decide (0<=x4)) <|
 gd (decide (x4 < (x0.2.1:Int))) <|
 ldA 38 w10 b13 (o14+(x4).toNat * 38) fun a15 =>
 Calls Tryz.prog 33 #[ofL a15] w10 fun e17 w16 =>
 ∃ i18:Int,e17=.returned (VI .i64 i18)/\(
 Q (VI .i64 i18) w16))
 (jnC C9 ((x0.1,x0.2.1,x0.2.2),((WR .i64 (x4+1))),()) w10)))
 (Q (VI .i64 0) w)
def F69.b9 (Q:QT):(ST×Int×Unit)->World->((ST×Int×Unit)->WT)->Prop:=fun s w C9=>∀ _:Nat->Value,F69.b9c Q C9 s.1 s.2.1 w
def F69.l9 (Q:QT):(ST×Int×Unit)->WT:=fun s w=>∃ n,loopC (F69.b9 Q) n s w
def F69.b4c (Q:QT) (C4:(ST×Int×Unit)->WT) (x0:ST) (x3:Int) (w:World):Prop :=
 vIf (decide (x3 < (x0.2.1:Int)))
 (dr x0.1 fun b1 o2 =>
 gd (decide (0<=x3)) <|
 gd (decide (x3 < (x0.2.1:Int))) <|
 ldI .i64 w b1 (o2+(x3).toNat * 38) fun i3 =>
 vIf (decide (i3 < 1))
 (Q (VI .i64 2) w)
 (dr x0.1 fun b4 o5 =>
 gd (decide (0<=x3)) <|
 gd (decide (x3 < (x0.2.1:Int))) <|
 ldI .i64 w b4 (o5+(x3).toNat * 38) fun i6 =>
 vIf (decide (i6 > 5))
 (Q (VI .i64 2) w)
 (jnC C4 ((x0.1,x0.2.1,x0.2.2),((WR .i64 (x3+1))),()) w)))
 (jnC (F69.l9 Q) ((x0.1,x0.2.1,x0.2.2),(0),()) w)
def F69.b4 (Q:QT):(ST×Int×Unit)->World->((ST×Int×Unit)->WT)->Prop:=fun s w C4=>∀ _:Nat->Value,F69.b4c Q C4 s.1 s.2.1 w
def F69.l4 (Q:QT):(ST×Int×Unit)->WT:=fun s w=>∃ n,loopC (F69.b4 Q) n s w
def F69.vc (x0A:Option Addr) (x0n x0c:Nat) (w:World) (Q:QT):Prop :=
 vIf ((x0n:Int) == 0)
 (Q (VI .i64 2) w)
 (jnC (F69.l4 Q) ((x0A,x0n,x0c),(0),()) w)
def F69.an:Ann:=⟨[(4,[(0,.kSl),(3,.kI .i64)]),(9,[(0,.kSl),(4,.kI .i64)])],[]⟩
theorem F69.of (x0A:Option Addr) (x0n x0c:Nat) (w:World) {Q:QT} (h:F69.vc x0A x0n x0c w Q):Calls Tryz.prog 69 #[VS x0A x0n x0c] w (fun e w'=>∃ v,e=.returned v/\Q v w'):=vcFn_of (A:=F69.an) noCount mixed h (by kernel_rfl)
def F97.vc (x0:ByteArray) (x1:ByteArray) (w:World) (Q:QT):Prop :=
 extC Tryz.prog 123 #[VG x0,VG x1] w fun v3 w1 =>
 ∃ i4:Int,v3=VI .i64 i4/\(
 Q (VI .i64 i4) w1)
def F97.an:Ann:=⟨[],[]⟩
theorem F97.of (x0:ByteArray) (x1:ByteArray) (w:World) {Q:QT} (h:F97.vc x0 x1 w Q):Calls Tryz.prog 97 #[VG x0,VG x1] w (fun e w'=>∃ v,e=.returned v/\Q v w'):=vcFn_of (A:=F97.an) noCount mixed h (by kernel_rfl)
def F98a.b3c (Q:QT) (C3:(Unit×ST×ST×Int×Int×Unit)->WT) (x2:Unit) (x7:ST) (x14:ST) (x15:Int) (x16:Int) (w:World):Prop :=
 vIf (decide (x16 < x15))
 (dr x14.1 fun b6 o7 =>
 gd (decide (0<=x16)) <|
 gd (decide (x16 < (x14.2.1:Int))) <|
 ldA 3 w b6 (o7+(x16).toNat * 3) fun a8 =>
 nw w [VB false,VI .i64 0,VS none 0 0] 182 fun b9 w10 =>
 gd (a8.length == 3) <|
 st w10 b9 0 a8 fun w11 =>
 ldA 3 w11 b9 0 fun a12 =>
 Calls Tryz.prog 99 #[VI .i64 x16,ofL a12] w11 fun e14 w13 =>
 ∃ a15:List Value,∃ t16:Bool,e14=.returned (VT #[ofL a15,VB t16])/\(
 nw w13 [VB false,VI .i64 0,VS none 0 0] 182 fun b17 w18 =>
 gd (a15.length == 3) <|
 st w18 b17 0 a15 fun w19 =>
 vIf t16
 (ldA 3 w19 b17 0 fun a20 =>
 Calls Tryz.prog 124 #[VS x7.1 x7.2.1 x7.2.2,ofL a20] w19 fun e22 w21 =>
 ∃ (A23:Option Addr) (n24 c25:Nat),e22=.returned (VS A23 n24 c25)/\(
 jnC C3 ((),(A23,n24,c25),(x14.1,x14.2.1,x14.2.2),x15,((WR .i64 (x16+1))),()) w21))
 (jnC C3 ((),(x7.1,x7.2.1,x7.2.2),(x14.1,x14.2.1,x14.2.2),x15,((WR .i64 (x16+1))),()) w19)))
 (Q (VS x7.1 x7.2.1 x7.2.2) w)
def F98a.b3 (Q:QT):(Unit×ST×ST×Int×Int×Unit)->World->((Unit×ST×ST×Int×Int×Unit)->WT)->Prop:=fun s w C3=>∀ _:Nat->Value,F98a.b3c Q C3 s.1 s.2.1 s.2.2.1 s.2.2.2.1 s.2.2.2.2.1 w
def F98a.l3 (Q:QT):(Unit×ST×ST×Int×Int×Unit)->WT:=fun s w=>∃ n,loopC (F98a.b3 Q) n s w
def F98a.vc (x0A:Option Addr) (x0n x0c:Nat) (x1A:Option Addr) (x1n x1c:Nat) (w:World) (Q:QT):Prop :=
 Calls Tryz.prog 81 #[VS x0A x0n x0c] w fun e2 w1 =>
 ∃ (A3:Option Addr) (n4 c5:Nat),e2=.returned (VS A3 n4 c5)/\(
 jnC (F98a.l3 Q) ((),(A3,n4,c5),(x1A,x1n,x1c),((x1n:Int)),(0),()) w1)
def F98a.an:Ann:=⟨[(3,[(2,.kF 99),(7,.kSl),(14,.kSl),(15,.kI .i64),(16,.kI .i64)])],[]⟩
theorem F98a.of (x0A:Option Addr) (x0n x0c:Nat) (x1A:Option Addr) (x1n x1c:Nat) (w:World) {Q:QT} (h:F98a.vc x0A x0n x0c x1A x1n x1c w Q):Calls Tryz.prog 98 #[VS x0A x0n x0c,VS x1A x1n x1c,Value.func (.func 99) #[] #[]] w (fun e w'=>∃ v,e=.returned v/\Q v w'):=vcFn_of (A:=F98a.an) noCount mixed h (by kernel_rfl)
def F99.vc (x0:Int) (x1:List Value) (w:World) (Q:QT):Prop :=
 nw w x1 182 fun b1 w2 =>
 nw w2 [VB false,VI .i64 0,VS none 0 0] 182 fun b3 w4 =>
 ldA 3 w4 b1 0 fun a5 =>
 gd (a5.length == 3) <|
 st w4 b3 0 a5 fun w6 =>
 ldA 3 w6 b3 0 fun a7 =>
 Q (VT #[ofL a7,VB true]) w6
def F99.an:Ann:=⟨[],[]⟩
theorem F99.of (x0:Int) (x1:List Value) (w:World) {Q:QT} (h:F99.vc x0 x1 w Q):Calls Tryz.prog 99 #[VI .i64 x0,ofL x1] w (fun e w'=>∃ v,e=.returned v/\Q v w'):=vcFn_of (A:=F99.an) noCount mixed h (by kernel_rfl)
def F116.vc (x0A:Option Addr) (x0n x0c:Nat) (w:World) (Q:QT):Prop :=
 vIf x0A.isNone
 (Q (VS none 0 0) w)
 (nw w [] 80 fun b1 w2 =>
 app w2 2 24 [VG (⟨#[]⟩:ByteArray),VI .i64 0] 80 (some ⟨b1,0,none⟩) 0 0 (VS x0A x0n x0c) fun A3 n4 c5 w6 =>
 Q (VS A3 n4 c5) w6)
def F116.an:Ann:=⟨[],[]⟩
theorem F116.of (x0A:Option Addr) (x0n x0c:Nat) (w:World) {Q:QT} (h:F116.vc x0A x0n x0c w Q):Calls Tryz.prog 116 #[VS x0A x0n x0c] w (fun e w'=>∃ v,e=.returned v/\Q v w'):=vcFn_of (A:=F116.an) noCount mixed h (by kernel_rfl)
def F117s.vc (x0A:Option Addr) (x0n x0c:Nat) (w:World) (Q:QT):Prop :=
 Calls Tryz.prog 137 #[VS x0A x0n x0c,VI .i64 (x0n:Int),Value.func (.func 118) #[] #[]] w fun e2 w1 =>
 e2=.returned (VT #[])/\(
 Q (VT #[]) w1)
def F117s.an:Ann:=⟨[],[]⟩
theorem F117s.of (x0A:Option Addr) (x0n x0c:Nat) (w:World) {Q:QT} (h:F117s.vc x0A x0n x0c w Q):Calls Tryz.prog 117 #[VS x0A x0n x0c,Value.func (.func 118) #[] #[]] w (fun e w'=>∃ v,e=.returned v/\Q v w'):=vcFn_of (A:=F117s.an) noCount mixed h (by kernel_rfl)
def F118.vc (x0:List Value) (x1:List Value) (w:World) (Q:QT):Prop :=
 nw w x0 80 fun b1 w2 =>
 nw w2 x1 80 fun b3 w4 =>
 ldS w4 b1 0 fun s5 =>
 ldS w4 b3 0 fun s6 =>
 Calls Tryz.prog 71 #[VG s5,VG s6] w4 fun e8 w7 =>
 ∃ i9:Int,e8=.returned (VI .i64 i9)/\(
 Q (VI .i64 i9) w7)
def F118.an:Ann:=⟨[],[]⟩
theorem F118.of (x0:List Value) (x1:List Value) (w:World) {Q:QT} (h:F118.vc x0 x1 w Q):Calls Tryz.prog 118 #[ofL x0,ofL x1] w (fun e w'=>∃ v,e=.returned v/\Q v w'):=vcFn_of (A:=F118.an) noCount mixed h (by kernel_rfl)
def F119s.k15c (Q:QT) (C4:(ST×Unit×Int×Unit)->WT) (x0:ST) (x5:Int) (w:World):Prop :=
 gd (decide (0<=x5)) <|
 gd (decide (x5<=(x0.2.2:Int))) <|
 Q (VS (slA x0.1 x0.2.2 0 2) (x5).toNat x0.2.2) w
def F119s.k15 (Q:QT) (C4:(ST×Unit×Int×Unit)->WT):(ST×Int×Unit)->WT:=fun s w=>∀ _:Nat->Value,F119s.k15c Q C4 s.1 s.2.1 w
def F119s.b9c (Q:QT) (C4:(ST×Unit×Int×Unit)->WT) (C9:(ST×Unit×Int×ST×Int×Unit)->WT) (x0:ST) (x1:Unit) (x5:Int) (x6:ST) (x7:Int) (w:World):Prop :=
 vIf (decide (x7 < (x6.2.1:Int)))
 (dr x6.1 fun b10 o11 =>
 gd (decide (0<=x7)) <|
 gd (decide (x7 < (x6.2.1:Int))) <|
 ldA 2 w.drew b10 (o11+(x7).toNat * 2) fun a12 =>
 dr x6.1 fun b13 o14 =>
 gd (decide (0<=(WR .i64 (x7 - 1)))) <|
 gd (decide ((WR .i64 (x7 - 1)) < (x6.2.1:Int))) <|
 ldA 2 w.drew b13 (o14+((WR .i64 (x7 - 1))).toNat * 2) fun a15 =>
 Calls Tryz.prog 120 #[ofL a12,ofL a15] w.drew fun e17 w16 =>
 ∃ t18:Bool,e17=.returned (VB t18)/\(
 vIf (!t18)
 (dr x6.1 fun b19 o20 =>
 gd (decide (0<=x7)) <|
 gd (decide (x7 < (x6.2.1:Int))) <|
 ldA 2 w16 b19 (o20+(x7).toNat * 2) fun a21 =>
 dr x0.1 fun b22 o23 =>
 gd (decide (0<=x5)) <|
 gd (decide (x5 < (x0.2.1:Int))) <|
 gd (a21.length == 2) <|
 st w16 b22 (o23+(x5).toNat * 2) a21 fun w24 =>
 jnC C9 ((x0.1,x0.2.1,x0.2.2),(),((WR .i64 (x5+1))),(x6.1,x6.2.1,x6.2.2),((WR .i64 (x7+1))),()) w24)
 (jnC C9 ((x0.1,x0.2.1,x0.2.2),(),x5,(x6.1,x6.2.1,x6.2.2),((WR .i64 (x7+1))),()) w16)))
 (gd (decide (0<=x5)) <|
 gd (decide (x5<=(x0.2.1:Int))) <|
 vIf ((x0.2.1 - (x5).toNat) == 0)
 (jnC (F119s.k15 Q C4) ((x0.1,x0.2.1,x0.2.2),x5,()) w)
 (dr (slA x0.1 x0.2.2 (x5).toNat 2) fun b26 o27 =>
 st w b26 o27 (zeros (x0.2.1 - (x5).toNat) [VG (⟨#[]⟩:ByteArray),VI .i64 0]) fun w25 =>
 jnC (F119s.k15 Q C4) ((x0.1,x0.2.1,x0.2.2),x5,()) w25))
def F119s.b9 (Q:QT) (C4:(ST×Unit×Int×Unit)->WT):(ST×Unit×Int×ST×Int×Unit)->World->((ST×Unit×Int×ST×Int×Unit)->WT)->Prop:=fun s w C9=>∀ _:Nat->Value,F119s.b9c Q C4 C9 s.1 s.2.1 s.2.2.1 s.2.2.2.1 s.2.2.2.2.1 w
def F119s.l9 (Q:QT) (C4:(ST×Unit×Int×Unit)->WT):(ST×Unit×Int×ST×Int×Unit)->WT:=fun s w=>∃ n,loopC (F119s.b9 Q C4) n s w
def F119s.b4c (Q:QT) (C4:(ST×Unit×Int×Unit)->WT) (x0:ST) (x1:Unit) (x5:Int) (w:World):Prop :=
 vIf (decide (x5 < (x0.2.1:Int)))
 (dr x0.1 fun b1 o2 =>
 gd (decide (0<=x5)) <|
 gd (decide (x5 < (x0.2.1:Int))) <|
 ldA 2 w.drew b1 (o2+(x5).toNat * 2) fun a3 =>
 dr x0.1 fun b4 o5 =>
 gd (decide (0<=(WR .i64 (x5 - 1)))) <|
 gd (decide ((WR .i64 (x5 - 1)) < (x0.2.1:Int))) <|
 ldA 2 w.drew b4 (o5+((WR .i64 (x5 - 1))).toNat * 2) fun a6 =>
 Calls Tryz.prog 120 #[ofL a3,ofL a6] w.drew fun e8 w7 =>
 ∃ t9:Bool,e8=.returned (VB t9)/\(
 vIf t9
 (gd (decide (0<=x5)) <|
 gd (decide (x5<=(x0.2.1:Int))) <|
 jnC (F119s.l9 Q C4) ((x0.1,x0.2.1,x0.2.2),(),x5,((slA x0.1 x0.2.2 (x5).toNat 2),(x0.2.1 - (x5).toNat),(x0.2.2 - (x5).toNat)),(1),()) w7)
 (jnC C4 ((x0.1,x0.2.1,x0.2.2),(),((WR .i64 (x5+1))),()) w7)))
 (Q (VS x0.1 x0.2.1 x0.2.2) w)
def F119s.b4 (Q:QT):(ST×Unit×Int×Unit)->World->((ST×Unit×Int×Unit)->WT)->Prop:=fun s w C4=>∀ _:Nat->Value,F119s.b4c Q C4 s.1 s.2.1 s.2.2.1 w
def F119s.l4 (Q:QT):(ST×Unit×Int×Unit)->WT:=fun s w=>∃ n,loopC (F119s.b4 Q) n s w
def F119s.vc (x0A:Option Addr) (x0n x0c:Nat) (w:World) (Q:QT):Prop :=
 vIf (decide ((x0n:Int) < 2))
 (Q (VS x0A x0n x0c) w)
 (jnC (F119s.l4 Q) ((x0A,x0n,x0c),(),(1),()) w)
def F119s.an:Ann:=⟨[(4,[(0,.kSl),(1,.kF 120),(5,.kI .i64)]),(9,[(0,.kSl),(1,.kF 120),(5,.kI .i64),(6,.kSl),(7,.kI .i64)])],[(15,[(0,.kSl),(5,.kI .i64)])]⟩
theorem F119s.of (x0A:Option Addr) (x0n x0c:Nat) (w:World) {Q:QT} (h:F119s.vc x0A x0n x0c w Q):Calls Tryz.prog 119 #[VS x0A x0n x0c,Value.func (.func 120) #[] #[]] w (fun e w'=>∃ v,e=.returned v/\Q v w'):=vcFn_of (A:=F119s.an) noCount mixed h (by kernel_rfl)
def F120.vc (x0:List Value) (x1:List Value) (w:World) (Q:QT):Prop :=
 nw w x0 80 fun b1 w2 =>
 nw w2 x1 80 fun b3 w4 =>
 ldS w4 b1 0 fun s5 =>
 ldS w4 b3 0 fun s6 =>
 Q (VB (s5.toList == s6.toList)) w4
def F120.an:Ann:=⟨[],[]⟩
theorem F120.of (x0:List Value) (x1:List Value) (w:World) {Q:QT} (h:F120.vc x0 x1 w Q):Calls Tryz.prog 120 #[ofL x0,ofL x1] w (fun e w'=>∃ v,e=.returned v/\Q v w'):=vcFn_of (A:=F120.an) noCount mixed h (by kernel_rfl)
def F121.vc (x0A:Option Addr) (x0n x0c:Nat) (x1:ByteArray) (x2:Int) (w:World) (Q:QT):Prop :=
 Calls Tryz.prog 43 #[VS x0A x0n x0c,VG x1,Value.func (.func 44) #[] #[]] w fun e2 w1 =>
 ∃ i3:Int,∃ t4:Bool,e2=.returned (VT #[VI .i64 i3,VB t4])/\(
 vIf t4
 (dr x0A fun b5 o6 =>
 gd (decide (0<=i3)) <|
 gd (decide (i3 < (x0n:Int))) <|
 st w1 b5 ((o6+(i3).toNat * 2)+1) [VI .i64 x2] fun w7 =>
 Q (VS x0A x0n x0c) w7)
 (gd (([VG x1] ++ ([VI .i64 x2] ++ [])).length == 2) <|
 nw w1 (([VG x1] ++ ([VI .i64 x2] ++ [])) ++ []) 80 fun b8 w9 =>
 Calls Tryz.prog 138 #[VS x0A x0n x0c,VI .i64 i3,VS (some ⟨b8,0,none⟩) 1 1] w9 fun e11 w10 =>
 ∃ (A12:Option Addr) (n13 c14:Nat),e11=.returned (VS A12 n13 c14)/\(
 Q (VS A12 n13 c14) w10)))
def F121.an:Ann:=⟨[],[]⟩
theorem F121.of (x0A:Option Addr) (x0n x0c:Nat) (x1:ByteArray) (x2:Int) (w:World) {Q:QT} (h:F121.vc x0A x0n x0c x1 x2 w Q):Calls Tryz.prog 121 #[VS x0A x0n x0c,VG x1,VI .i64 x2] w (fun e w'=>∃ v,e=.returned v/\Q v w'):=vcFn_of (A:=F121.an) noCount mixed h (by kernel_rfl)
def F122.vc (x0A:Option Addr) (x0n x0c:Nat) (x1:ByteArray) (w:World) (Q:QT):Prop :=
 Calls Tryz.prog 43 #[VS x0A x0n x0c,VG x1,Value.func (.func 44) #[] #[]] w fun e2 w1 =>
 ∃ i3:Int,∃ t4:Bool,e2=.returned (VT #[VI .i64 i3,VB t4])/\(
 vIf (!t4)
 (Q (VT #[VS x0A x0n x0c,VI .i64 0,VB false]) w1)
 (dr x0A fun b5 o6 =>
 gd (decide (0<=i3)) <|
 gd (decide (i3 < (x0n:Int))) <|
 ldI .i64 w1 b5 ((o6+(i3).toNat * 2)+1) fun i7 =>
 Calls Tryz.prog 139 #[VS x0A x0n x0c,VI .i64 i3,VI .i64 (WR .i64 (i3+1))] w1 fun e9 w8 =>
 ∃ (A10:Option Addr) (n11 c12:Nat),e9=.returned (VS A10 n11 c12)/\(
 Q (VT #[VS A10 n11 c12,VI .i64 i7,VB true]) w8)))
def F122.an:Ann:=⟨[],[]⟩
theorem F122.of (x0A:Option Addr) (x0n x0c:Nat) (x1:ByteArray) (w:World) {Q:QT} (h:F122.vc x0A x0n x0c x1 w Q):Calls Tryz.prog 122 #[VS x0A x0n x0c,VG x1] w (fun e w'=>∃ v,e=.returned v/\Q v w'):=vcFn_of (A:=F122.an) noCount mixed h (by kernel_rfl)
def F106.vc (x0A:Option Addr) (x0n x0c:Nat) (x1:Int) (x2:Int) (w:World) (Q:QT):Prop :=
 vIf (decide (x1 >= 0))
 (vIf (decide (x1<=(x0n:Int)))
 (Q (VB (decide (x2<=(WR .i64 ((x0n:Int) - x1))))) w)
 (Q (VB false) w))
 (Q (VB false) w)
def F106.an:Ann:=⟨[],[]⟩
theorem F106.of (x0A:Option Addr) (x0n x0c:Nat) (x1:Int) (x2:Int) (w:World) {Q:QT} (h:F106.vc x0A x0n x0c x1 x2 w Q):Calls Tryz.prog 106 #[VS x0A x0n x0c,VI .i64 x1,VI .i64 x2] w (fun e w'=>∃ v,e=.returned v/\Q v w'):=vcFn_of (A:=F106.an) noCount mixed h (by kernel_rfl)
def F107.b4c (Q:QT) (C4:(NT×Int×ST×Int×Int×Unit)->WT) (x5:NT) (x6:Int) (x12:ST) (x13:Int) (x14:Int) (w:World):Prop :=
 vIf (decide (x14 < x13))
 (dr x12.1 fun b7 o8 =>
 gd (decide (0<=x14)) <|
 gd (decide (x14 < (x12.2.1:Int))) <|
 ldI .u8 w b7 (o8+(x14).toNat * 1) fun i9 =>
 gd (decide (0<=(iXor .u8 (iAnd .u8 (WR .u8 x6) 15) (iAnd .u8 i9 15)))) <|
 gd (decide ((iXor .u8 (iAnd .u8 (WR .u8 x6) 15) (iAnd .u8 i9 15)) < 16)) <|
 ldI .u32 w x5.1 (x5.2+((iXor .u8 (iAnd .u8 (WR .u8 x6) 15) (iAnd .u8 i9 15))).toNat * 1) fun i10 =>
 gd (decide (0<=(iXor .u8 (iAnd .u8 (WR .u8 (iXor .u32 (Int.fdiv x6 (2 ^ 4)) i10)) 15) (Int.fdiv i9 (2 ^ 4))))) <|
 gd (decide ((iXor .u8 (iAnd .u8 (WR .u8 (iXor .u32 (Int.fdiv x6 (2 ^ 4)) i10)) 15) (Int.fdiv i9 (2 ^ 4))) < 16)) <|
 ldI .u32 w x5.1 (x5.2+((iXor .u8 (iAnd .u8 (WR .u8 (iXor .u32 (Int.fdiv x6 (2 ^ 4)) i10)) 15) (Int.fdiv i9 (2 ^ 4)))).toNat * 1) fun i11 =>
 jnC C4 ((x5.1,x5.2),((iXor .u32 (Int.fdiv (iXor .u32 (Int.fdiv x6 (2 ^ 4)) i10) (2 ^ 4)) i11)),(x12.1,x12.2.1,x12.2.2),x13,((WR .i64 (x14+1))),()) w)
 (Q (VI .u32 (iXor .u32 4294967295 x6)) w)
def F107.b4 (Q:QT):(NT×Int×ST×Int×Int×Unit)->World->((NT×Int×ST×Int×Int×Unit)->WT)->Prop:=fun s w C4=>∀ _:Nat->Value,F107.b4c Q C4 s.1 s.2.1 s.2.2.1 s.2.2.2.1 s.2.2.2.2.1 w
def F107.l4 (Q:QT):(NT×Int×ST×Int×Int×Unit)->WT:=fun s w=>∃ n,loopC (F107.b4 Q) n s w
def F107.vc (x0:Int) (x1A:Option Addr) (x1n x1c:Nat) (w:World) (Q:QT):Prop :=
 Calls Tryz.prog 131 #[] w fun e2 w1 =>
 ∃ a3:List Value,e2=.returned (ofL a3)/\(
 nw w1 Z217 217 fun b4 w5 =>
 gd (a3.length == 16) <|
 st w5 b4 0 a3 fun w6 =>
 jnC (F107.l4 Q) ((b4,0),((iXor .u32 4294967295 x0)),(x1A,x1n,x1c),((x1n:Int)),(0),()) w6)
def F107.an:Ann:=⟨[(4,[(5,.kL),(6,.kI .u32),(12,.kSl),(13,.kI .i64),(14,.kI .i64)])],[]⟩
theorem F107.of (x0:Int) (x1A:Option Addr) (x1n x1c:Nat) (w:World) {Q:QT} (h:F107.vc x0 x1A x1n x1c w Q):Calls Tryz.prog 107 #[VI .u32 x0,VS x1A x1n x1c] w (fun e w'=>∃ v,e=.returned v/\Q v w'):=vcFn_of (A:=F107.an) noCount mixed h (by kernel_rfl)
def F108.vc (x0:Int) (x1:Nat×Nat) (x2:Nat×Nat) (w:World) (Q:QT):Prop :=
 ldP w x1.1 x1.2 fun p1 =>
 dr p1 fun b2 o3 =>
 ldSl w b2 o3 fun A4 n5 c6 =>
 vIf (decide ((WR .i64 ((n5:Int) - x0)) < 32))
 (Q (VT #[VI .i64 0,VI .i64 4]) w)
 (ldP w.drew x1.1 x1.2 fun p7 =>
 dr p7 fun b8 o9 =>
 ldSl w.drew b8 o9 fun A10 n11 c12 =>
 gd (decide (0<=x0)) <|
 gd (decide (x0<=(n11:Int))) <|
 cpy w.drew 1 (some ⟨x2.1,x2.2,none⟩) 32 (VS (slA A10 c12 (x0).toNat 1) (n11 - (x0).toNat) (c12 - (x0).toNat)) fun n13 w14 =>
 Q (VT #[VI .i64 (WR .i64 (x0+(n13:Int))),VI .i64 0]) w14)
def F108.an:Ann:=⟨[],[]⟩
theorem F108.of (x0:Int) (x1:Nat×Nat) (x2:Nat×Nat) (w:World) {Q:QT} (h:F108.vc x0 x1 x2 w Q):Calls Tryz.prog 108 #[VI .i64 x0,VP (some ⟨x1.1,x1.2,none⟩),VP (some ⟨x2.1,x2.2,none⟩)] w (fun e w'=>∃ v,e=.returned v/\Q v w'):=vcFn_of (A:=F108.an) noCount mixed h (by kernel_rfl)
def F109.vc (x0:Int) (x1:Nat×Nat) (x2:Nat×Nat) (w:World) (Q:QT):Prop :=
 ldP w x1.1 x1.2 fun p1 =>
 dr p1 fun b2 o3 =>
 ldSl w b2 o3 fun A4 n5 c6 =>
 Calls Tryz.prog 110 #[VS A4 n5 c6,VI .i64 x0] w fun e8 w7 =>
 ∃ s9:ByteArray,∃ i10:Int,∃ t11:Bool,e8=.returned (VT #[VG s9,VI .i64 i10,VB t11])/\(
 vIf (!t11)
 (Q (VT #[VI .i64 0,VI .i64 4]) w7)
 (st w7 x2.1 x2.2 [VG s9] fun w12 =>
 Q (VT #[VI .i64 i10,VI .i64 0]) w12))
def F109.an:Ann:=⟨[],[]⟩
theorem F109.of (x0:Int) (x1:Nat×Nat) (x2:Nat×Nat) (w:World) {Q:QT} (h:F109.vc x0 x1 x2 w Q):Calls Tryz.prog 109 #[VI .i64 x0,VP (some ⟨x1.1,x1.2,none⟩),VP (some ⟨x2.1,x2.2,none⟩)] w (fun e w'=>∃ v,e=.returned v/\Q v w'):=vcFn_of (A:=F109.an) noCount mixed h (by kernel_rfl)
def F110.k4c (Q:QT) (x0:ST) (x1:Int) (x7:Int) (w:World):Prop :=
 gd (decide (0<=(WR .i64 ((WR .i64 (x1+1))+(WR .i64 x7))))) <|
 gd (decide ((WR .i64 ((WR .i64 (x1+1))+(WR .i64 x7)))<=(x0.2.2:Int))) <|
 gd (decide (0<=(WR .i64 (x1+1)))) <|
 gd (decide ((WR .i64 (x1+1))<=((((WR .i64 ((WR .i64 (x1+1))+(WR .i64 x7)))).toNat:Nat):Int))) <|
 b2s w (slA x0.1 x0.2.2 ((WR .i64 (x1+1))).toNat 1) (((WR .i64 ((WR .i64 (x1+1))+(WR .i64 x7)))).toNat - ((WR .i64 (x1+1))).toNat) fun s5 =>
 Q (VT #[VG s5,VI .i64 (WR .i64 ((WR .i64 (x1+1))+(WR .i64 x7))),VB true]) w
def F110.k4 (Q:QT):(ST×Int×Int×Unit)->WT:=fun s w=>∀ _:Nat->Value,F110.k4c Q s.1 s.2.1 s.2.2.1 w
def F110.k3c (Q:QT) (x0:ST) (x1:Int) (x7:Int) (x26:Bool) (w:World):Prop :=
 vIf x26
 (Q (VT #[VG (⟨#[]⟩:ByteArray),VI .i64 0,VB false]) w)
 (jnC (F110.k4 Q) ((x0.1,x0.2.1,x0.2.2),x1,x7,()) w)
def F110.k3 (Q:QT):(ST×Int×Int×Bool×Unit)->WT:=fun s w=>∀ _:Nat->Value,F110.k3c Q s.1 s.2.1 s.2.2.1 s.2.2.2.1 w
def F110.vc (x0A:Option Addr) (x0n x0c:Nat) (x1:Int) (w:World) (Q:QT):Prop :=
 Calls Tryz.prog 82 #[VS x0A x0n x0c,VI .i64 x1,VI .i64 1] w fun e2 w1 =>
 ∃ i3:Int,∃ t4:Bool,e2=.returned (VT #[VI .u64 i3,VB t4])/\(
 vIf (!t4)
 (jnC (F110.k3 Q) ((x0A,x0n,x0c),x1,i3,true,()) w1)
 (Calls Tryz.prog 106 #[VS x0A x0n x0c,VI .i64 (WR .i64 (x1+1)),VI .i64 (WR .i64 i3)] w1 fun e7 w6 =>
 ∃ t8:Bool,e7=.returned (VB t8)/\(
 jnC (F110.k3 Q) ((x0A,x0n,x0c),x1,i3,(!t8),()) w6)))
def F110.an:Ann:=⟨[],[(3,[(0,.kSl),(1,.kI .i64),(7,.kI .u64),(26,.kB)]),(4,[(0,.kSl),(1,.kI .i64),(7,.kI .u64)])]⟩
theorem F110.of (x0A:Option Addr) (x0n x0c:Nat) (x1:Int) (w:World) {Q:QT} (h:F110.vc x0A x0n x0c x1 w Q):Calls Tryz.prog 110 #[VS x0A x0n x0c,VI .i64 x1] w (fun e w'=>∃ v,e=.returned v/\Q v w'):=vcFn_of (A:=F110.an) noCount mixed h (by kernel_rfl)
def F111.vc (x0:Int) (w:World) (Q:QT):Prop :=
 vIf (decide (x0 >= 0))
 (Q (VB (decide (x0<=1048576))) w)
 (Q (VB false) w)
def F111.an:Ann:=⟨[],[]⟩
theorem F111.of (x0:Int) (w:World) {Q:QT} (h:F111.vc x0 w Q):Calls Tryz.prog 111 #[VI .i64 x0] w (fun e w'=>∃ v,e=.returned v/\Q v w'):=vcFn_of (A:=F111.an) noCount mixed h (by kernel_rfl)
def F112.b4c (Q:QT) (C4:(ByteArray×Int×Int×Unit)->WT) (x0:ByteArray) (x19:Int) (x20:Int) (w:World):Prop :=
 vIf (decide (x20 < x19))
 (gd (decide (0<=x20)) <|
 gd (decide (x20 < (x0.size:Int))) <|
 Calls Tryz.prog 132 #[VI .u8 (byteAt x0 (x20).toNat)] w fun e5 w4 =>
 ∃ t6:Bool,e5=.returned (VB t6)/\(
 vIf (!t6)
 (vIf ((byteAt x0 (x20).toNat) != 46)
 (vIf ((byteAt x0 (x20).toNat) != 95)
 (vIf ((byteAt x0 (x20).toNat) != 45)
 (Q (VB false) w4)
 (jnC C4 (x0,x19,((WR .i64 (x20+1))),()) w4))
 (jnC C4 (x0,x19,((WR .i64 (x20+1))),()) w4))
 (jnC C4 (x0,x19,((WR .i64 (x20+1))),()) w4))
 (jnC C4 (x0,x19,((WR .i64 (x20+1))),()) w4)))
 (Q (VB true) w)
def F112.b4 (Q:QT):(ByteArray×Int×Int×Unit)->World->((ByteArray×Int×Int×Unit)->WT)->Prop:=fun s w C4=>∀ _:Nat->Value,F112.b4c Q C4 s.1 s.2.1 s.2.2.1 w
def F112.l4 (Q:QT):(ByteArray×Int×Int×Unit)->WT:=fun s w=>∃ n,loopC (F112.b4 Q) n s w
def F112.k3c (Q:QT) (x0:ByteArray) (w:World):Prop :=
 jnC (F112.l4 Q) (x0,((x0.size:Int)),(0),()) w
def F112.k3 (Q:QT):(ByteArray×Unit)->WT:=fun s w=>∀ _:Nat->Value,F112.k3c Q s.1 w
def F112.vc (x0:ByteArray) (w:World) (Q:QT):Prop :=
 vIf (x0.toList == (⟨#[]⟩:ByteArray).toList)
 (Q (VB false) w)
 (vIf (decide ((x0.size:Int) > 32))
 (Q (VB false) w)
 (gd (decide ((0:Int) < (x0.size:Int))) <|
 Calls Tryz.prog 132 #[VI .u8 (byteAt x0 0)] w fun e2 w1 =>
 ∃ t3:Bool,e2=.returned (VB t3)/\(
 vIf (!t3)
 (Q (VB false) w1)
 (jnC (F112.k3 Q) (x0,()) w1))))
def F112.an:Ann:=⟨[(4,[(0,.kS),(19,.kI .i64),(20,.kI .i64)])],[(3,[(0,.kS)])]⟩
theorem F112.of (x0:ByteArray) (w:World) {Q:QT} (h:F112.vc x0 w Q):Calls Tryz.prog 112 #[VG x0] w (fun e w'=>∃ v,e=.returned v/\Q v w'):=vcFn_of (A:=F112.an) noCount mixed h (by kernel_rfl)
def F113.k3c (Q:QT) (x0:ST) (x1:Int) (x4:NT) (w:World):Prop :=
 gd (decide (0<=x1)) <|
 gd (decide (x1<=(x0.2.1:Int))) <|
 Calls Tryz.prog 133 #[VS (slA x0.1 x0.2.2 (x1).toNat 1) (x0.2.1 - (x1).toNat) (x0.2.2 - (x1).toNat)] w fun e6 w5 =>
 ∃ a7:List Value,∃ i8:Int,e6=.returned (VT #[ofL a7,VI .i64 i8])/\(
 nw w5 Z221 221 fun b9 w10 =>
 gd (a7.length == 5) <|
 st w10 b9 0 a7 fun w11 =>
 vIf (i8 != 0)
 (gd (([VI .i64 0] ++ ([VI .u64 0] ++ ([VS none 0 0] ++ ([VI .i64 0] ++ [])))).length == 4) <|
 st w11 x4.1 x4.2 ([VI .i64 0] ++ ([VI .u64 0] ++ ([VS none 0 0] ++ ([VI .i64 0] ++ [])))) fun w12 =>
 ldA 4 w12 x4.1 x4.2 fun a13 =>
 Q (VT #[ofL a13,VI .i64 i8]) w12)
 (ldI .i64 w11 b9 (0+4) fun i14 =>
 Calls Tryz.prog 134 #[VI .i64 i14] w11 fun e16 w15 =>
 ∃ i17:Int,e16=.returned (VI .i64 i17)/\(
 vIf (decide ((((x0.2.1 - (x1).toNat):Nat):Int) < i17))
 (gd (([VI .i64 0] ++ ([VI .u64 0] ++ ([VS none 0 0] ++ ([VI .i64 0] ++ [])))).length == 4) <|
 st w15 x4.1 x4.2 ([VI .i64 0] ++ ([VI .u64 0] ++ ([VS none 0 0] ++ ([VI .i64 0] ++ [])))) fun w18 =>
 ldA 4 w18 x4.1 x4.2 fun a19 =>
 Q (VT #[ofL a19,VI .i64 4]) w18)
 (ldI .i64 w15 b9 (0+4) fun i20 =>
 Calls Tryz.prog 134 #[VI .i64 i20] w15 fun e22 w21 =>
 ∃ i23:Int,e22=.returned (VI .i64 i23)/\(
 gd (decide (0<=i23)) <|
 gd (decide (i23<=(((x0.2.2 - (x1).toNat):Nat):Int))) <|
 Calls Tryz.prog 135 #[VS (slA (slA x0.1 x0.2.2 (x1).toNat 1) (x0.2.2 - (x1).toNat) 0 1) (i23).toNat (x0.2.2 - (x1).toNat)] w21 fun e25 w24 =>
 ∃ t26:Bool,e25=.returned (VB t26)/\(
 vIf (!t26)
 (gd (([VI .i64 0] ++ ([VI .u64 0] ++ ([VS none 0 0] ++ ([VI .i64 0] ++ [])))).length == 4) <|
 st w24 x4.1 x4.2 ([VI .i64 0] ++ ([VI .u64 0] ++ ([VS none 0 0] ++ ([VI .i64 0] ++ [])))) fun w27 =>
 ldA 4 w27 x4.1 x4.2 fun a28 =>
 Q (VT #[ofL a28,VI .i64 5]) w27)
 (ldI .i64 w24 b9 (0+4) fun i29 =>
 gd (decide (0<=(WR .i64 (17+i29)))) <|
 gd (decide ((WR .i64 (17+i29))<=(((x0.2.2 - (x1).toNat):Nat):Int))) <|
 gd (decide ((17:Int)<=((((WR .i64 (17+i29))).toNat:Nat):Int))) <|
 Calls Tryz.prog 81 #[VS (slA (slA (slA x0.1 x0.2.2 (x1).toNat 1) (x0.2.2 - (x1).toNat) 0 1) (x0.2.2 - (x1).toNat) 17 1) (((WR .i64 (17+i29))).toNat - 17) ((x0.2.2 - (x1).toNat) - 17)] w24 fun e31 w30 =>
 ∃ (A32:Option Addr) (n33 c34:Nat),e31=.returned (VS A32 n33 c34)/\(
 st w30 b9 (0+2) [VS A32 n33 c34] fun w35 =>
 st w35 b9 (0+3) [VI .i64 (WR .i64 (x1+(((i23).toNat:Nat):Int)))] fun w36 =>
 ldA 4 w36 b9 0 fun a37 =>
 gd (a37.length == 4) <|
 st w36 x4.1 x4.2 a37 fun w38 =>
 ldA 4 w38 x4.1 x4.2 fun a39 =>
 Q (VT #[ofL a39,VI .i64 0]) w38))))))))
def F113.k3 (Q:QT):(ST×Int×NT×Unit)->WT:=fun s w=>∀ _:Nat->Value,F113.k3c Q s.1 s.2.1 s.2.2.1 w
def F113.k2c (Q:QT) (x0:ST) (x1:Int) (x4:NT) (x15:Bool) (w:World):Prop :=
 vIf x15
 (gd (([VI .i64 0] ++ ([VI .u64 0] ++ ([VS none 0 0] ++ ([VI .i64 0] ++ [])))).length == 4) <|
 st w x4.1 x4.2 ([VI .i64 0] ++ ([VI .u64 0] ++ ([VS none 0 0] ++ ([VI .i64 0] ++ [])))) fun w3 =>
 ldA 4 w3 x4.1 x4.2 fun a4 =>
 Q (VT #[ofL a4,VI .i64 2]) w3)
 (jnC (F113.k3 Q) ((x0.1,x0.2.1,x0.2.2),x1,(x4.1,x4.2),()) w)
def F113.k2 (Q:QT):(ST×Int×NT×Bool×Unit)->WT:=fun s w=>∀ _:Nat->Value,F113.k2c Q s.1 s.2.1 s.2.2.1 s.2.2.2.1 w
def F113.vc (x0A:Option Addr) (x0n x0c:Nat) (x1:Int) (w:World) (Q:QT):Prop :=
 nw w Z194 194 fun b1 w2 =>
 vIf (decide (x1 < 0))
 (jnC (F113.k2 Q) ((x0A,x0n,x0c),x1,(b1,0),true,()) w2)
 (jnC (F113.k2 Q) ((x0A,x0n,x0c),x1,(b1,0),(decide (x1 > (x0n:Int))),()) w2)
def F113.an:Ann:=⟨[],[(2,[(0,.kSl),(1,.kI .i64),(4,.kL),(15,.kB)]),(3,[(0,.kSl),(1,.kI .i64),(4,.kL)])]⟩
theorem F113.of (x0A:Option Addr) (x0n x0c:Nat) (x1:Int) (w:World) {Q:QT} (h:F113.vc x0A x0n x0c x1 w Q):Calls Tryz.prog 113 #[VS x0A x0n x0c,VI .i64 x1] w (fun e w'=>∃ v,e=.returned v/\Q v w'):=vcFn_of (A:=F113.an) noCount mixed h (by kernel_rfl)
def F114.k14c (Q:QT) (x1:ST) (x2:NT) (x4:NT) (w:World):Prop :=
 cpy w 1 (some ⟨x2.1,(x2.2+2),none⟩) 32 (VS x1.1 x1.2.1 x1.2.2) fun n19 w20 =>
 ldA 38 w20 x2.1 x2.2 fun a21 =>
 gd (a21.length == 38) <|
 st w20 x4.1 x4.2 a21 fun w22 =>
 ldA 38 w22 x4.1 x4.2 fun a23 =>
 Q (VT #[ofL a23,VB ((x1.2.1:Int) == 32)]) w22
def F114.k14 (Q:QT):(ST×NT×NT×Unit)->WT:=fun s w=>∀ _:Nat->Value,F114.k14c Q s.1 s.2.1 s.2.2.1 w
def F114.k8c (Q:QT) (x1:ST) (x2:NT) (x4:NT) (w:World):Prop :=
 Calls Tryz.prog 110 #[VS x1.1 x1.2.1 x1.2.2,VI .i64 0] w fun e7 w6 =>
 ∃ s8:ByteArray,∃ i9:Int,∃ t10:Bool,e7=.returned (VT #[VG s8,VI .i64 i9,VB t10])/\(
 vIf (!t10)
 (ldA 38 w6 x2.1 x2.2 fun a11 =>
 gd (a11.length == 38) <|
 st w6 x4.1 x4.2 a11 fun w12 =>
 ldA 38 w12 x4.1 x4.2 fun a13 =>
 Q (VT #[ofL a13,VB false]) w12)
 (gd (decide (0<=i9)) <|
 gd (decide (i9<=(x1.2.1:Int))) <|
 st w6.drew x2.1 (x2.2+34) [VG s8] fun w14 =>
 ldI .i64 w14 x2.1 x2.2 fun i15 =>
 vIf (i15 == 4)
 (ldA 38 w14 x2.1 x2.2 fun a16 =>
 gd (a16.length == 38) <|
 st w14 x4.1 x4.2 a16 fun w17 =>
 ldA 38 w17 x4.1 x4.2 fun a18 =>
 Q (VT #[ofL a18,VB ((((x1.2.1 - (i9).toNat):Nat):Int) == 0)]) w17)
 (jnC (F114.k14 Q) (((slA x1.1 x1.2.2 (i9).toNat 1),(x1.2.1 - (i9).toNat),(x1.2.2 - (i9).toNat)),(x2.1,x2.2),(x4.1,x4.2),()) w14)))
def F114.k8 (Q:QT):(ST×NT×NT×Unit)->WT:=fun s w=>∀ _:Nat->Value,F114.k8c Q s.1 s.2.1 s.2.2.1 w
def F114.k16c (Q:QT) (x1:ST) (x2:NT) (x4:NT) (w:World):Prop :=
 cpy w 1 (some ⟨x2.1,(x2.2+2),none⟩) 32 (VS x1.1 x1.2.1 x1.2.2) fun n24 w25 =>
 gd (decide (0<=(n24:Int))) <|
 gd (decide ((n24:Int)<=(x1.2.1:Int))) <|
 Calls Tryz.prog 81 #[VS (slA x1.1 x1.2.2 ((n24:Int)).toNat 1) (x1.2.1 - ((n24:Int)).toNat) (x1.2.2 - ((n24:Int)).toNat)] w25 fun e27 w26 =>
 ∃ (A28:Option Addr) (n29 c30:Nat),e27=.returned (VS A28 n29 c30)/\(
 st w26 x2.1 (x2.2+35) [VS A28 n29 c30] fun w31 =>
 ldA 38 w31 x2.1 x2.2 fun a32 =>
 gd (a32.length == 38) <|
 st w31 x4.1 x4.2 a32 fun w33 =>
 ldA 38 w33 x4.1 x4.2 fun a34 =>
 Q (VT #[ofL a34,VB ((n24:Int) == 32)]) w33)
def F114.k16 (Q:QT):(ST×NT×NT×Unit)->WT:=fun s w=>∀ _:Nat->Value,F114.k16c Q s.1 s.2.1 s.2.2.1 w
def F114.k21c (Q:QT) (x1:ST) (x2:NT) (x4:NT) (w:World):Prop :=
 Calls Tryz.prog 136 #[VS x1.1 x1.2.1 x1.2.2,VI .i64 8,VI .i64 8] w fun e39 w38 =>
 ∃ i40:Int,e39=.returned (VI .i64 i40)/\(
 st w38 x2.1 (x2.2+36) [VI .i64 i40] fun w41 =>
 ldA 38 w41 x2.1 x2.2 fun a42 =>
 gd (a42.length == 38) <|
 st w41 x4.1 x4.2 a42 fun w43 =>
 ldA 38 w43 x4.1 x4.2 fun a44 =>
 Q (VT #[ofL a44,VB true]) w43)
def F114.k21 (Q:QT):(ST×NT×NT×Unit)->WT:=fun s w=>∀ _:Nat->Value,F114.k21c Q s.1 s.2.1 s.2.2.1 w
def F114.k20c (Q:QT) (x1:ST) (x2:NT) (x4:NT) (x71:Bool) (w:World):Prop :=
 vIf x71
 (ldA 38 w x2.1 x2.2 fun a35 =>
 gd (a35.length == 38) <|
 st w x4.1 x4.2 a35 fun w36 =>
 ldA 38 w36 x4.1 x4.2 fun a37 =>
 Q (VT #[ofL a37,VB false]) w36)
 (jnC (F114.k21 Q) ((x1.1,x1.2.1,x1.2.2),(x2.1,x2.2),(x4.1,x4.2),()) w)
def F114.k20 (Q:QT):(ST×NT×NT×Bool×Unit)->WT:=fun s w=>∀ _:Nat->Value,F114.k20c Q s.1 s.2.1 s.2.2.1 s.2.2.2.1 w
def F114.k19c (Q:QT) (x1:ST) (x2:NT) (x4:NT) (w:World):Prop :=
 vIf ((x1.2.1:Int) != 16)
 (jnC (F114.k20 Q) ((x1.1,x1.2.1,x1.2.2),(x2.1,x2.2),(x4.1,x4.2),true,()) w)
 (gd (decide ((8:Int)<=(x1.2.2:Int))) <|
 b2s w (slA x1.1 x1.2.2 0 1) 8 fun s45 =>
 jnC (F114.k20 Q) ((x1.1,x1.2.1,x1.2.2),(x2.1,x2.2),(x4.1,x4.2),(!(s45.toList == (⟨#[115,116,105,108,108,97,103,101]⟩:ByteArray).toList)),()) w)
def F114.k19 (Q:QT):(ST×NT×NT×Unit)->WT:=fun s w=>∀ _:Nat->Value,F114.k19c Q s.1 s.2.1 s.2.2.1 w
def F114.k23c (Q:QT) (x1:ST) (x2:NT) (x4:NT) (w:World):Prop :=
 Calls Tryz.prog 136 #[VS x1.1 x1.2.1 x1.2.2,VI .i64 0,VI .i64 4] w fun e47 w46 =>
 ∃ i48:Int,e47=.returned (VI .i64 i48)/\(
 Calls Tryz.prog 136 #[VS x1.1 x1.2.1 x1.2.2,VI .i64 4,VI .i64 4] w46 fun e50 w49 =>
 ∃ i51:Int,e50=.returned (VI .i64 i51)/\(
 st w49 x2.1 (x2.2+36) [VI .i64 i48] fun w52 =>
 st w52 x2.1 (x2.2+37) [VI .i64 i51] fun w53 =>
 ldA 38 w53 x2.1 x2.2 fun a54 =>
 gd (a54.length == 38) <|
 st w53 x4.1 x4.2 a54 fun w55 =>
 ldA 38 w55 x4.1 x4.2 fun a56 =>
 Q (VT #[ofL a56,VB ((x1.2.1:Int) == 8)]) w55))
def F114.k23 (Q:QT):(ST×NT×NT×Unit)->WT:=fun s w=>∀ _:Nat->Value,F114.k23c Q s.1 s.2.1 s.2.2.1 w
def F114.k4c (Q:QT) (x1:ST) (x2:NT) (x4:NT) (x11:Int) (w:World):Prop :=
 vIf (x11 == 5)
 (jnC (F114.k14 Q) ((x1.1,x1.2.1,x1.2.2),(x2.1,x2.2),(x4.1,x4.2),()) w)
 (vIf (x11 == 1)
 (vIf (x11 == 1)
 (jnC (F114.k16 Q) ((x1.1,x1.2.1,x1.2.2),(x2.1,x2.2),(x4.1,x4.2),()) w)
 (vIf (x11 == 7)
 (jnC (F114.k19 Q) ((x1.1,x1.2.1,x1.2.2),(x2.1,x2.2),(x4.1,x4.2),()) w)
 (jnC (F114.k23 Q) ((x1.1,x1.2.1,x1.2.2),(x2.1,x2.2),(x4.1,x4.2),()) w)))
 (vIf (x11 == 2)
 (jnC (F114.k16 Q) ((x1.1,x1.2.1,x1.2.2),(x2.1,x2.2),(x4.1,x4.2),()) w)
 (vIf (x11 == 7)
 (jnC (F114.k19 Q) ((x1.1,x1.2.1,x1.2.2),(x2.1,x2.2),(x4.1,x4.2),()) w)
 (jnC (F114.k23 Q) ((x1.1,x1.2.1,x1.2.2),(x2.1,x2.2),(x4.1,x4.2),()) w))))
def F114.k4 (Q:QT):(ST×NT×NT×Int×Unit)->WT:=fun s w=>∀ _:Nat->Value,F114.k4c Q s.1 s.2.1 s.2.2.1 s.2.2.2.1 w
def F114.vc (x0:List Value) (x1A:Option Addr) (x1n x1c:Nat) (w:World) (Q:QT):Prop :=
 nw w x0 48 fun b1 w2 =>
 nw w2 Z48 48 fun b3 w4 =>
 ldI .i64 w4 b1 0 fun i5 =>
 vIf (i5 == 3)
 (vIf (i5 == 3)
 (jnC (F114.k8 Q) ((x1A,x1n,x1c),(b1,0),(b3,0),()) w4)
 (jnC (F114.k4 Q) ((x1A,x1n,x1c),(b1,0),(b3,0),i5,()) w4))
 (vIf (i5 == 4)
 (jnC (F114.k8 Q) ((x1A,x1n,x1c),(b1,0),(b3,0),()) w4)
 (jnC (F114.k4 Q) ((x1A,x1n,x1c),(b1,0),(b3,0),i5,()) w4))
def F114.an:Ann:=⟨[],[(4,[(1,.kSl),(2,.kL),(4,.kL),(11,.kI .i64)]),(8,[(1,.kSl),(2,.kL),(4,.kL)]),(14,[(1,.kSl),(2,.kL),(4,.kL)]),(16,[(1,.kSl),(2,.kL),(4,.kL)]),(19,[(1,.kSl),(2,.kL),(4,.kL)]),(20,[(1,.kSl),(2,.kL),(4,.kL),(71,.kB)]),(21,[(1,.kSl),(2,.kL),(4,.kL)]),(23,[(1,.kSl),(2,.kL),(4,.kL)])]⟩
theorem F114.of (x0:List Value) (x1A:Option Addr) (x1n x1c:Nat) (w:World) {Q:QT} (h:F114.vc x0 x1A x1n x1c w Q):Calls Tryz.prog 114 #[ofL x0,VS x1A x1n x1c] w (fun e w'=>∃ v,e=.returned v/\Q v w'):=vcFn_of (A:=F114.an) noCount mixed h (by kernel_rfl)
def F115.k14c (Q:QT) (x1:NT) (x3:Int) (x5:Int) (x20:Bool) (w:World):Prop :=
 vIf x20
 (ldI .i64 w x1.1 (x1.2+36) fun i11 =>
 vIf (decide (i11 < 0))
 (Q (VI .i64 20) w)
 (ldI .i64 w x1.1 (x1.2+36) fun i12 =>
 vIf (decide (i12 > x3))
 (Q (VI .i64 20) w)
 (ldI .i64 w x1.1 (x1.2+37) fun i13 =>
 vIf (decide (i13 < 0))
 (Q (VI .i64 20) w)
 (ldI .i64 w x1.1 (x1.2+37) fun i14 =>
 vIf (decide (i14 > x3))
 (Q (VI .i64 20) w)
 (Q (VI .i64 0) w)))))
 (vIf (x5 == 7)
 (ldI .i64 w x1.1 (x1.2+36) fun i15 =>
 vIf (decide (i15 < 1))
 (Q (VI .i64 20) w)
 (ldI .i64 w x1.1 (x1.2+36) fun i16 =>
 vIf (decide (i16 > 99999999))
 (Q (VI .i64 20) w)
 (Q (VI .i64 0) w)))
 (vIf (x5 == 5)
 (Q (VI .i64 0) w)
 (Q (VI .i64 2) w)))
def F115.k14 (Q:QT):(NT×Int×Int×Bool×Unit)->WT:=fun s w=>∀ _:Nat->Value,F115.k14c Q s.1 s.2.1 s.2.2.1 s.2.2.2.1 w
def F115.k10c (Q:QT) (x1:NT) (x3:Int) (x5:Int) (x13:Bool) (w:World):Prop :=
 vIf x13
 (ldS w x1.1 (x1.2+34) fun s7 =>
 Calls Tryz.prog 112 #[VG s7] w fun e9 w8 =>
 ∃ t10:Bool,e9=.returned (VB t10)/\(
 vIf (!t10)
 (Q (VI .i64 12) w8)
 (Q (VI .i64 0) w8)))
 (vIf (x5 == 6)
 (jnC (F115.k14 Q) ((x1.1,x1.2),x3,x5,(x5 == 6),()) w)
 (jnC (F115.k14 Q) ((x1.1,x1.2),x3,x5,(x5 == 8),()) w))
def F115.k10 (Q:QT):(NT×Int×Int×Bool×Unit)->WT:=fun s w=>∀ _:Nat->Value,F115.k10c Q s.1 s.2.1 s.2.2.1 s.2.2.2.1 w
def F115.k6c (Q:QT) (x1:NT) (x3:Int) (x5:Int) (x6:Bool) (w:World):Prop :=
 vIf x6
 (ldSl w x1.1 (x1.2+35) fun A4 n5 c6 =>
 vIf (decide ((n5:Int) > 65504))
 (Q (VI .i64 18) w)
 (Q (VI .i64 0) w))
 (vIf (x5 == 3)
 (jnC (F115.k10 Q) ((x1.1,x1.2),x3,x5,(x5 == 3),()) w)
 (jnC (F115.k10 Q) ((x1.1,x1.2),x3,x5,(x5 == 4),()) w))
def F115.k6 (Q:QT):(NT×Int×Int×Bool×Unit)->WT:=fun s w=>∀ _:Nat->Value,F115.k6c Q s.1 s.2.1 s.2.2.1 s.2.2.2.1 w
def F115.vc (x0:List Value) (w:World) (Q:QT):Prop :=
 nw w x0 48 fun b1 w2 =>
 ldI .i64 w2 b1 0 fun i3 =>
 vIf (i3 == 1)
 (jnC (F115.k6 Q) ((b1,0),(4294967295),i3,(i3 == 1),()) w2)
 (jnC (F115.k6 Q) ((b1,0),(4294967295),i3,(i3 == 2),()) w2)
def F115.an:Ann:=⟨[],[(6,[(1,.kL),(3,.kI .i64),(5,.kI .i64),(6,.kB)]),(10,[(1,.kL),(3,.kI .i64),(5,.kI .i64),(13,.kB)]),(14,[(1,.kL),(3,.kI .i64),(5,.kI .i64),(20,.kB)])]⟩
theorem F115.of (x0:List Value) (w:World) {Q:QT} (h:F115.vc x0 w Q):Calls Tryz.prog 115 #[ofL x0] w (fun e w'=>∃ v,e=.returned v/\Q v w'):=vcFn_of (A:=F115.an) noCount mixed h (by kernel_rfl)
def F67.b6c (Q:QT) (C3:(ST×ST×Int×Unit)->WT) (C6:(ST×ST×Int×Int×Unit)->WT) (x0:ST) (x3:ST) (x4:Int) (x5:Int) (w:World):Prop :=
 vIf (decide (x5 < 8))
 (dr x0.1 fun b1 o2 =>
 gd (decide (0<=x4)) <|
 gd (decide (x4 < (x0.2.1:Int))) <|
 ldI .u8 w b1 (o2+(x4).toNat * 1) fun i3 =>
 gd (decide (0<=(WR .u64 x5))) <|
 nw w ([VB ((Int.tmod (Int.fdiv i3 (2 ^ (min ((WR .u64 x5)).toNat 8))) 2) == 1)] ++ []) 4 fun b4 w5 =>
 app w5 1 1 [VB false] 4 x3.1 x3.2.1 x3.2.2 (VS (some ⟨b4,0,none⟩) 1 1) fun A6 n7 c8 w9 =>
 jnC C6 ((x0.1,x0.2.1,x0.2.2),(A6,n7,c8),x4,((WR .i64 (x5+1))),()) w9)
 (jnC C3 ((x0.1,x0.2.1,x0.2.2),(x3.1,x3.2.1,x3.2.2),((WR .i64 (x4+1))),()) w)
def F67.b6 (Q:QT) (C3:(ST×ST×Int×Unit)->WT):(ST×ST×Int×Int×Unit)->World->((ST×ST×Int×Int×Unit)->WT)->Prop:=fun s w C6=>∀ _:Nat->Value,F67.b6c Q C3 C6 s.1 s.2.1 s.2.2.1 s.2.2.2.1 w
def F67.l6 (Q:QT) (C3:(ST×ST×Int×Unit)->WT):(ST×ST×Int×Int×Unit)->WT:=fun s w=>∃ n,loopC (F67.b6 Q C3) n s w
def F67.b3c (Q:QT) (C3:(ST×ST×Int×Unit)->WT) (x0:ST) (x3:ST) (x4:Int) (w:World):Prop :=
 vIf (decide (x4 < (x0.2.1:Int)))
 (jnC (F67.l6 Q C3) ((x0.1,x0.2.1,x0.2.2),(x3.1,x3.2.1,x3.2.2),x4,(0),()) w)
 (Q (VS x3.1 x3.2.1 x3.2.2) w)
def F67.b3 (Q:QT):(ST×ST×Int×Unit)->World->((ST×ST×Int×Unit)->WT)->Prop:=fun s w C3=>∀ _:Nat->Value,F67.b3c Q C3 s.1 s.2.1 s.2.2.1 w
def F67.l3 (Q:QT):(ST×ST×Int×Unit)->WT:=fun s w=>∃ n,loopC (F67.b3 Q) n s w
def F67.vc (x0A:Option Addr) (x0n x0c:Nat) (w:World) (Q:QT):Prop :=
 jnC (F67.l3 Q) ((x0A,x0n,x0c),(none,0,0),(0),()) w
def F67.an:Ann:=⟨[(3,[(0,.kSl),(3,.kSl),(4,.kI .i64)]),(6,[(0,.kSl),(3,.kSl),(4,.kI .i64),(5,.kI .i64)])],[]⟩
theorem F67.of (x0A:Option Addr) (x0n x0c:Nat) (w:World) {Q:QT} (h:F67.vc x0A x0n x0c w Q):Calls Tryz.prog 67 #[VS x0A x0n x0c] w (fun e w'=>∃ v,e=.returned v/\Q v w'):=vcFn_of (A:=F67.an) noCount mixed h (by kernel_rfl)
def F66.b2c (Q:QT) (C2:(Int×ByteArray×Int×Unit)->WT) (x0:Int) (x1:ByteArray) (x5:Int) (w:World):Prop :=
 vIf (decide (x5 < (x1.size:Int)))
 (gd (decide (0<=x5)) <|
 gd (decide (x5 < (x1.size:Int))) <|
 vIf ((byteAt x1 (x5).toNat) == x0)
 (Q (VB true) w)
 (jnC C2 (x0,x1,((WR .i64 (x5+1))),()) w))
 (Q (VB false) w)
def F66.b2 (Q:QT):(Int×ByteArray×Int×Unit)->World->((Int×ByteArray×Int×Unit)->WT)->Prop:=fun s w C2=>∀ _:Nat->Value,F66.b2c Q C2 s.1 s.2.1 s.2.2.1 w
def F66.l2 (Q:QT):(Int×ByteArray×Int×Unit)->WT:=fun s w=>∃ n,loopC (F66.b2 Q) n s w
def F66.vc (x0:Int) (x1:ByteArray) (w:World) (Q:QT):Prop :=
 jnC (F66.l2 Q) (x0,x1,(0),()) w
def F66.an:Ann:=⟨[(2,[(0,.kI .u8),(1,.kS),(5,.kI .i64)])],[]⟩
theorem F66.of (x0:Int) (x1:ByteArray) (w:World) {Q:QT} (h:F66.vc x0 x1 w Q):Calls Tryz.prog 66 #[VI .u8 x0,VG x1] w (fun e w'=>∃ v,e=.returned v/\Q v w'):=vcFn_of (A:=F66.an) noCount mixed h (by kernel_rfl)
def F61.b5c (Q:QT) (C5:(ST×Int×Int×Int×Unit)->WT) (x0:ST) (x1:Int) (x8:Int) (x9:Int) (w:World):Prop :=
 vIf (decide (x9 >= 0))
 (dr x0.1 fun b1 o2 =>
 gd (decide (0<=(WR .i64 (x1+x9)))) <|
 gd (decide ((WR .i64 (x1+x9)) < (x0.2.1:Int))) <|
 ldI .u8 w b1 (o2+((WR .i64 (x1+x9))).toNat * 1) fun i3 =>
 jnC C5 ((x0.1,x0.2.1,x0.2.2),x1,((WR .u64 ((WR .u64 (x8 * 256))+(WR .u64 i3)))),((WR .i64 (x9 - 1))),()) w)
 (Q (VT #[VI .u64 x8,VB true]) w)
def F61.b5 (Q:QT):(ST×Int×Int×Int×Unit)->World->((ST×Int×Int×Int×Unit)->WT)->Prop:=fun s w C5=>∀ _:Nat->Value,F61.b5c Q C5 s.1 s.2.1 s.2.2.1 s.2.2.2.1 w
def F61.l5 (Q:QT):(ST×Int×Int×Int×Unit)->WT:=fun s w=>∃ n,loopC (F61.b5 Q) n s w
def F61.k3c (Q:QT) (x0:ST) (x1:Int) (x2:Int) (w:World):Prop :=
 jnC (F61.l5 Q) ((x0.1,x0.2.1,x0.2.2),x1,(0),((WR .i64 (x2 - 1))),()) w
def F61.k3 (Q:QT):(ST×Int×Int×Unit)->WT:=fun s w=>∀ _:Nat->Value,F61.k3c Q s.1 s.2.1 s.2.2.1 w
def F61.vc (x0A:Option Addr) (x0n x0c:Nat) (x1:Int) (x2:Int) (w:World) (Q:QT):Prop :=
 vIf (decide (x2 < 1))
 (Q (VT #[VI .u64 0,VB false]) w)
 (vIf (decide (x2 > 8))
 (Q (VT #[VI .u64 0,VB false]) w)
 (vIf (decide (x1 < 0))
 (Q (VT #[VI .u64 0,VB false]) w)
 (vIf (decide ((WR .i64 ((x0n:Int) - x2)) < x1))
 (Q (VT #[VI .u64 0,VB false]) w)
 (jnC (F61.k3 Q) ((x0A,x0n,x0c),x1,x2,()) w))))
def F61.an:Ann:=⟨[(5,[(0,.kSl),(1,.kI .i64),(8,.kI .u64),(9,.kI .i64)])],[(3,[(0,.kSl),(1,.kI .i64),(2,.kI .i64)])]⟩
theorem F61.of (x0A:Option Addr) (x0n x0c:Nat) (x1:Int) (x2:Int) (w:World) {Q:QT} (h:F61.vc x0A x0n x0c x1 x2 w Q):Calls Tryz.prog 61 #[VS x0A x0n x0c,VI .i64 x1,VI .i64 x2] w (fun e w'=>∃ v,e=.returned v/\Q v w'):=vcFn_of (A:=F61.an) noCount mixed h (by kernel_rfl)
def F64.b3c (Q:QT) (C3:(ST×NT×NT×Int×Unit)->WT) (x0:ST) (x2:NT) (x3:NT) (x4:Int) (w:World):Prop :=
 vIf (decide (x4 < 32))
 (dr x0.1 fun b5 o6 =>
 gd (decide (0<=x4)) <|
 gd (decide (x4 < (x0.2.1:Int))) <|
 ldI .u8 w b5 (o6+(x4).toNat * 1) fun i7 =>
 gd (decide (0<=x4)) <|
 gd (decide (x4 < 32)) <|
 st w x3.1 (x3.2+(x4).toNat * 1) [VI .u8 i7] fun w8 =>
 jnC C3 ((x0.1,x0.2.1,x0.2.2),(x2.1,x2.2),(x3.1,x3.2),((WR .i64 (x4+1))),()) w8)
 (ldA 32 w x3.1 x3.2 fun a9 =>
 gd (a9.length == 32) <|
 st w x2.1 x2.2 a9 fun w10 =>
 ldA 32 w10 x2.1 x2.2 fun a11 =>
 Q (ofL a11) w10)
def F64.b3 (Q:QT):(ST×NT×NT×Int×Unit)->World->((ST×NT×NT×Int×Unit)->WT)->Prop:=fun s w C3=>∀ _:Nat->Value,F64.b3c Q C3 s.1 s.2.1 s.2.2.1 s.2.2.2.1 w
def F64.l3 (Q:QT):(ST×NT×NT×Int×Unit)->WT:=fun s w=>∃ n,loopC (F64.b3 Q) n s w
def F64.vc (x0A:Option Addr) (x0n x0c:Nat) (w:World) (Q:QT):Prop :=
 nw w Z46 46 fun b1 w2 =>
 nw w2 Z46 46 fun b3 w4 =>
 jnC (F64.l3 Q) ((x0A,x0n,x0c),(b1,0),(b3,0),(0),()) w4
def F64.an:Ann:=⟨[(3,[(0,.kSl),(2,.kL),(3,.kL),(4,.kI .i64)])],[]⟩
theorem F64.of (x0A:Option Addr) (x0n x0c:Nat) (w:World) {Q:QT} (h:F64.vc x0A x0n x0c w Q):Calls Tryz.prog 64 #[VS x0A x0n x0c] w (fun e w'=>∃ v,e=.returned v/\Q v w'):=vcFn_of (A:=F64.an) noCount mixed h (by kernel_rfl)
def F65.k11c (Q:QT) (x1:NT) (x2:NT) (x3:Int) (x4:NT) (w:World):Prop :=
 vIf (x3 == 6)
 (ldI .i64 w x1.1 (x1.2+37) fun i20 =>
 st w x4.1 (x4.2+37) [VI .i64 i20] fun w21 =>
 ldA 38 w21 x4.1 x4.2 fun a22 =>
 gd (a22.length == 38) <|
 st w21 x2.1 x2.2 a22 fun w23 =>
 ldA 38 w23 x2.1 x2.2 fun a24 =>
 Q (ofL a24) w23)
 (vIf (x3 == 8)
 (ldI .i64 w x1.1 (x1.2+37) fun i25 =>
 st w x4.1 (x4.2+37) [VI .i64 i25] fun w26 =>
 ldA 38 w26 x4.1 x4.2 fun a27 =>
 gd (a27.length == 38) <|
 st w26 x2.1 x2.2 a27 fun w28 =>
 ldA 38 w28 x2.1 x2.2 fun a29 =>
 Q (ofL a29) w28)
 (ldA 38 w x4.1 x4.2 fun a30 =>
 gd (a30.length == 38) <|
 st w x2.1 x2.2 a30 fun w31 =>
 ldA 38 w31 x2.1 x2.2 fun a32 =>
 Q (ofL a32) w31))
def F65.k11 (Q:QT):(NT×NT×Int×NT×Unit)->WT:=fun s w=>∀ _:Nat->Value,F65.k11c Q s.1 s.2.1 s.2.2.1 s.2.2.2.1 w
def F65.k9c (Q:QT) (x1:NT) (x2:NT) (x3:Int) (x4:NT) (w:World):Prop :=
 vIf (decide (x3 >= 6))
 (ldI .i64 w x1.1 (x1.2+36) fun i18 =>
 st w x4.1 (x4.2+36) [VI .i64 i18] fun w19 =>
 jnC (F65.k11 Q) ((x1.1,x1.2),(x2.1,x2.2),x3,(x4.1,x4.2),()) w19)
 (jnC (F65.k11 Q) ((x1.1,x1.2),(x2.1,x2.2),x3,(x4.1,x4.2),()) w)
def F65.k9 (Q:QT):(NT×NT×Int×NT×Unit)->WT:=fun s w=>∀ _:Nat->Value,F65.k9c Q s.1 s.2.1 s.2.2.1 s.2.2.2.1 w
def F65.k7c (Q:QT) (x1:NT) (x2:NT) (x3:Int) (x4:NT) (w:World):Prop :=
 vIf (x3 == 3)
 (ldS w x1.1 (x1.2+34) fun s16 =>
 st w x4.1 (x4.2+34) [VG s16] fun w17 =>
 jnC (F65.k9 Q) ((x1.1,x1.2),(x2.1,x2.2),x3,(x4.1,x4.2),()) w17)
 (vIf (x3 == 4)
 (ldS w x1.1 (x1.2+34) fun s33 =>
 st w x4.1 (x4.2+34) [VG s33] fun w34 =>
 jnC (F65.k9 Q) ((x1.1,x1.2),(x2.1,x2.2),x3,(x4.1,x4.2),()) w34)
 (jnC (F65.k9 Q) ((x1.1,x1.2),(x2.1,x2.2),x3,(x4.1,x4.2),()) w))
def F65.k7 (Q:QT):(NT×NT×Int×NT×Unit)->WT:=fun s w=>∀ _:Nat->Value,F65.k7c Q s.1 s.2.1 s.2.2.1 s.2.2.2.1 w
def F65.k5c (Q:QT) (x1:NT) (x2:NT) (x3:Int) (x4:NT) (w:World):Prop :=
 vIf (decide (x3<=2))
 (ldSl w x1.1 (x1.2+35) fun A12 n13 c14 =>
 st w x4.1 (x4.2+35) [VS A12 n13 c14] fun w15 =>
 jnC (F65.k7 Q) ((x1.1,x1.2),(x2.1,x2.2),x3,(x4.1,x4.2),()) w15)
 (jnC (F65.k7 Q) ((x1.1,x1.2),(x2.1,x2.2),x3,(x4.1,x4.2),()) w)
def F65.k5 (Q:QT):(NT×NT×Int×NT×Unit)->WT:=fun s w=>∀ _:Nat->Value,F65.k5c Q s.1 s.2.1 s.2.2.1 s.2.2.2.1 w
def F65.vc (x0:List Value) (w:World) (Q:QT):Prop :=
 nw w x0 48 fun b1 w2 =>
 nw w2 Z48 48 fun b3 w4 =>
 ldI .i64 w4 b1 0 fun i5 =>
 ldI .u64 w4 b1 (0+1) fun i6 =>
 nw w4 Z48 48 fun b7 w8 =>
 gd (([VI .i64 i5] ++ ([VI .u64 i6] ++ ([VI .u8 0,VI .u8 0,VI .u8 0,VI .u8 0,VI .u8 0,VI .u8 0,VI .u8 0,VI .u8 0,VI .u8 0,VI .u8 0,VI .u8 0,VI .u8 0,VI .u8 0,VI .u8 0,VI .u8 0,VI .u8 0,VI .u8 0,VI .u8 0,VI .u8 0,VI .u8 0,VI .u8 0,VI .u8 0,VI .u8 0,VI .u8 0,VI .u8 0,VI .u8 0,VI .u8 0,VI .u8 0,VI .u8 0,VI .u8 0,VI .u8 0,VI .u8 0] ++ ([VG (⟨#[]⟩:ByteArray)] ++ ([VS none 0 0] ++ ([VI .i64 0] ++ ([VI .i64 0] ++ []))))))).length == 38) <|
 st w8 b7 0 ([VI .i64 i5] ++ ([VI .u64 i6] ++ ([VI .u8 0,VI .u8 0,VI .u8 0,VI .u8 0,VI .u8 0,VI .u8 0,VI .u8 0,VI .u8 0,VI .u8 0,VI .u8 0,VI .u8 0,VI .u8 0,VI .u8 0,VI .u8 0,VI .u8 0,VI .u8 0,VI .u8 0,VI .u8 0,VI .u8 0,VI .u8 0,VI .u8 0,VI .u8 0,VI .u8 0,VI .u8 0,VI .u8 0,VI .u8 0,VI .u8 0,VI .u8 0,VI .u8 0,VI .u8 0,VI .u8 0,VI .u8 0] ++ ([VG (⟨#[]⟩:ByteArray)] ++ ([VS none 0 0] ++ ([VI .i64 0] ++ ([VI .i64 0] ++ []))))))) fun w9 =>
 vIf (decide (i5<=3))
 (ldA 32 w9 b1 (0+2) fun a10 =>
 gd (a10.length == 32) <|
 st w9 b7 (0+2) a10 fun w11 =>
 jnC (F65.k5 Q) ((b1,0),(b3,0),i5,(b7,0),()) w11)
 (vIf (i5 == 5)
 (ldA 32 w9 b1 (0+2) fun a35 =>
 gd (a35.length == 32) <|
 st w9 b7 (0+2) a35 fun w36 =>
 jnC (F65.k5 Q) ((b1,0),(b3,0),i5,(b7,0),()) w36)
 (jnC (F65.k5 Q) ((b1,0),(b3,0),i5,(b7,0),()) w9))
def F65.an:Ann:=⟨[],[(5,[(1,.kL),(2,.kL),(3,.kI .i64),(4,.kL)]),(7,[(1,.kL),(2,.kL),(3,.kI .i64),(4,.kL)]),(9,[(1,.kL),(2,.kL),(3,.kI .i64),(4,.kL)]),(11,[(1,.kL),(2,.kL),(3,.kI .i64),(4,.kL)])]⟩
theorem F65.of (x0:List Value) (w:World) {Q:QT} (h:F65.vc x0 w Q):Calls Tryz.prog 65 #[ofL x0] w (fun e w'=>∃ v,e=.returned v/\Q v w'):=vcFn_of (A:=F65.an) noCount mixed h (by kernel_rfl)
def F124.k5c (Q:QT) (x0:ST) (x3:NT) (w:World):Prop :=
 ldI .i64 w x3.1 (x3.2+1) fun i19 =>
 ldSl w x3.1 (x3.2+2) fun A20 n21 c22 =>
 gd (decide (0<=(if (x0.2.1:Int) < (WR .i64 (i19+(n21:Int))) then (WR .i64 (i19+(n21:Int))) else (x0.2.1:Int)))) <|
 gd (decide ((if (x0.2.1:Int) < (WR .i64 (i19+(n21:Int))) then (WR .i64 (i19+(n21:Int))) else (x0.2.1:Int))<=(if (x0.2.1:Int) < (WR .i64 (i19+(n21:Int))) then (WR .i64 (i19+(n21:Int))) else (x0.2.1:Int)))) <|
 gd (decide ((if (x0.2.1:Int) < (WR .i64 (i19+(n21:Int))) then (WR .i64 (i19+(n21:Int))) else (x0.2.1:Int)) * 1<=281474976710656/\(if (x0.2.1:Int) < (WR .i64 (i19+(n21:Int))) then (WR .i64 (i19+(n21:Int))) else (x0.2.1:Int))<=9223372036854775807)) <|
 nw w (zeros ((if (x0.2.1:Int) < (WR .i64 (i19+(n21:Int))) then (WR .i64 (i19+(n21:Int))) else (x0.2.1:Int))).toNat [VI .u8 0]) 5 fun b23 w24 =>
 cpy w24 1 (some ⟨b23,0,none⟩) (((if (x0.2.1:Int) < (WR .i64 (i19+(n21:Int))) then (WR .i64 (i19+(n21:Int))) else (x0.2.1:Int))).toNat) (VS x0.1 x0.2.1 x0.2.2) fun n25 w26 =>
 ldI .i64 w26.drew x3.1 (x3.2+1) fun i27 =>
 gd (decide (0<=i27)) <|
 gd (decide (i27<=((((if (x0.2.1:Int) < (WR .i64 (i19+(n21:Int))) then (WR .i64 (i19+(n21:Int))) else (x0.2.1:Int))).toNat:Nat):Int))) <|
 ldSl w26.drew x3.1 (x3.2+2) fun A28 n29 c30 =>
 cpy w26.drew 1 (slA (some ⟨b23,0,none⟩) ((if (x0.2.1:Int) < (WR .i64 (i19+(n21:Int))) then (WR .i64 (i19+(n21:Int))) else (x0.2.1:Int))).toNat (i27).toNat 1) (((if (x0.2.1:Int) < (WR .i64 (i19+(n21:Int))) then (WR .i64 (i19+(n21:Int))) else (x0.2.1:Int))).toNat - (i27).toNat) (VS A28 n29 c30) fun n31 w32 =>
 Q (VS (some ⟨b23,0,none⟩) ((if (x0.2.1:Int) < (WR .i64 (i19+(n21:Int))) then (WR .i64 (i19+(n21:Int))) else (x0.2.1:Int))).toNat ((if (x0.2.1:Int) < (WR .i64 (i19+(n21:Int))) then (WR .i64 (i19+(n21:Int))) else (x0.2.1:Int))).toNat) w32
def F124.k5 (Q:QT):(ST×NT×Unit)->WT:=fun s w=>∀ _:Nat->Value,F124.k5c Q s.1 s.2.1 w
def F124.k2c (Q:QT) (x0:ST) (x3:NT) (x6:Bool) (w:World):Prop :=
 vIf x6
 (Calls Tryz.prog 81 #[VS x0.1 x0.2.1 x0.2.2] w fun e8 w7 =>
 ∃ (A9:Option Addr) (n10 c11:Nat),e8=.returned (VS A9 n10 c11)/\(
 Q (VS A9 n10 c11) w7))
 (ldB w x3.1 x3.2 fun t12 =>
 vIf t12
 (ldI .i64 w x3.1 (x3.2+1) fun i13 =>
 gd (decide (0<=(if (x0.2.1:Int) < i13 then (x0.2.1:Int) else i13))) <|
 gd (decide ((if (x0.2.1:Int) < i13 then (x0.2.1:Int) else i13)<=(x0.2.2:Int))) <|
 Calls Tryz.prog 81 #[VS (slA x0.1 x0.2.2 0 1) ((if (x0.2.1:Int) < i13 then (x0.2.1:Int) else i13)).toNat x0.2.2] w fun e15 w14 =>
 ∃ (A16:Option Addr) (n17 c18:Nat),e15=.returned (VS A16 n17 c18)/\(
 Q (VS A16 n17 c18) w14))
 (jnC (F124.k5 Q) ((x0.1,x0.2.1,x0.2.2),(x3.1,x3.2),()) w))
def F124.k2 (Q:QT):(ST×NT×Bool×Unit)->WT:=fun s w=>∀ _:Nat->Value,F124.k2c Q s.1 s.2.1 s.2.2.1 w
def F124.vc (x0A:Option Addr) (x0n x0c:Nat) (x1:List Value) (w:World) (Q:QT):Prop :=
 nw w x1 182 fun b1 w2 =>
 ldA 3 w2 b1 0 fun a3 =>
 Calls Tryz.prog 140 #[ofL a3] w2 fun e5 w4 =>
 ∃ t6:Bool,e5=.returned (VB t6)/\(
 vIf (!t6)
 (jnC (F124.k2 Q) ((x0A,x0n,x0c),(b1,0),true,()) w4)
 (ldB w4 b1 0 fun t33 =>
 vIf (!t33)
 (ldSl w4 b1 (0+2) fun A34 n35 c36 =>
 jnC (F124.k2 Q) ((x0A,x0n,x0c),(b1,0),((n35:Int) == 0),()) w4)
 (jnC (F124.k2 Q) ((x0A,x0n,x0c),(b1,0),false,()) w4)))
def F124.an:Ann:=⟨[],[(2,[(0,.kSl),(3,.kL),(6,.kB)]),(5,[(0,.kSl),(3,.kL)])]⟩
theorem F124.of (x0A:Option Addr) (x0n x0c:Nat) (x1:List Value) (w:World) {Q:QT} (h:F124.vc x0A x0n x0c x1 w Q):Calls Tryz.prog 124 #[VS x0A x0n x0c,ofL x1] w (fun e w'=>∃ v,e=.returned v/\Q v w'):=vcFn_of (A:=F124.an) noCount mixed h (by kernel_rfl)
def F137s.b9c (Q:QT) (C7:(ST×Int×Unit×Int×Unit)->WT) (C9:(ST×Int×Unit×Int×Int×Int×Unit)->WT) (x0:ST) (x1:Int) (x2:Unit) (x6:Int) (x7:Int) (x8:Int) (w:World):Prop :=
 vIf (decide (x8<=x1))
 (Calls Tryz.prog 147 #[VS x0.1 x0.2.1 x0.2.2,VI .i64 x7,VI .i64 (WR .i64 (x7+x6)),VI .i64 x8,Value.func (.func 118) #[] #[]] w fun e6 w5 =>
 e6=.returned (VT #[])/\(
 jnC C9 ((x0.1,x0.2.1,x0.2.2),x1,(),x6,x8,((WR .i64 (x8+(WR .i64 (2 * x6))))),()) w5))
 (vIf (decide ((WR .i64 (x7+x6)) < x1))
 (Calls Tryz.prog 147 #[VS x0.1 x0.2.1 x0.2.2,VI .i64 x7,VI .i64 (WR .i64 (x7+x6)),VI .i64 x1,Value.func (.func 118) #[] #[]] w fun e8 w7 =>
 e8=.returned (VT #[])/\(
 jnC C7 ((x0.1,x0.2.1,x0.2.2),x1,(),((WR .i64 (x6 * 2))),()) w7))
 (jnC C7 ((x0.1,x0.2.1,x0.2.2),x1,(),((WR .i64 (x6 * 2))),()) w))
def F137s.b9 (Q:QT) (C7:(ST×Int×Unit×Int×Unit)->WT):(ST×Int×Unit×Int×Int×Int×Unit)->World->((ST×Int×Unit×Int×Int×Int×Unit)->WT)->Prop:=fun s w C9=>∀ _:Nat->Value,F137s.b9c Q C7 C9 s.1 s.2.1 s.2.2.1 s.2.2.2.1 s.2.2.2.2.1 s.2.2.2.2.2.1 w
def F137s.l9 (Q:QT) (C7:(ST×Int×Unit×Int×Unit)->WT):(ST×Int×Unit×Int×Int×Int×Unit)->WT:=fun s w=>∃ n,loopC (F137s.b9 Q C7) n s w
def F137s.b7c (Q:QT) (C7:(ST×Int×Unit×Int×Unit)->WT) (x0:ST) (x1:Int) (x2:Unit) (x6:Int) (w:World):Prop :=
 vIf (decide (x6 < x1))
 (jnC (F137s.l9 Q C7) ((x0.1,x0.2.1,x0.2.2),x1,(),x6,(0),((WR .i64 (2 * x6))),()) w)
 (Q (VT #[]) w)
def F137s.b7 (Q:QT):(ST×Int×Unit×Int×Unit)->World->((ST×Int×Unit×Int×Unit)->WT)->Prop:=fun s w C7=>∀ _:Nat->Value,F137s.b7c Q C7 s.1 s.2.1 s.2.2.1 s.2.2.2.1 w
def F137s.l7 (Q:QT):(ST×Int×Unit×Int×Unit)->WT:=fun s w=>∃ n,loopC (F137s.b7 Q) n s w
def F137s.b2c (Q:QT) (C2:(ST×Int×Unit×Int×Int×Int×Unit)->WT) (x0:ST) (x1:Int) (x2:Unit) (x6:Int) (x7:Int) (x8:Int) (w:World):Prop :=
 vIf (decide (x8<=x1))
 (Calls Tryz.prog 146 #[VS x0.1 x0.2.1 x0.2.2,VI .i64 x7,VI .i64 x8,Value.func (.func 118) #[] #[]] w fun e2 w1 =>
 e2=.returned (VT #[])/\(
 jnC C2 ((x0.1,x0.2.1,x0.2.2),x1,(),x6,x8,((WR .i64 (x8+x6))),()) w1))
 (Calls Tryz.prog 146 #[VS x0.1 x0.2.1 x0.2.2,VI .i64 x7,VI .i64 x1,Value.func (.func 118) #[] #[]] w fun e4 w3 =>
 e4=.returned (VT #[])/\(
 jnC (F137s.l7 Q) ((x0.1,x0.2.1,x0.2.2),x1,(),x6,()) w3))
def F137s.b2 (Q:QT):(ST×Int×Unit×Int×Int×Int×Unit)->World->((ST×Int×Unit×Int×Int×Int×Unit)->WT)->Prop:=fun s w C2=>∀ _:Nat->Value,F137s.b2c Q C2 s.1 s.2.1 s.2.2.1 s.2.2.2.1 s.2.2.2.2.1 s.2.2.2.2.2.1 w
def F137s.l2 (Q:QT):(ST×Int×Unit×Int×Int×Int×Unit)->WT:=fun s w=>∃ n,loopC (F137s.b2 Q) n s w
def F137s.vc (x0A:Option Addr) (x0n x0c:Nat) (x1:Int) (w:World) (Q:QT):Prop :=
 jnC (F137s.l2 Q) ((x0A,x0n,x0c),x1,(),(20),(0),(20),()) w
def F137s.an:Ann:=⟨[(2,[(0,.kSl),(1,.kI .i64),(2,.kF 118),(6,.kI .i64),(7,.kI .i64),(8,.kI .i64)]),(7,[(0,.kSl),(1,.kI .i64),(2,.kF 118),(6,.kI .i64)]),(9,[(0,.kSl),(1,.kI .i64),(2,.kF 118),(6,.kI .i64),(7,.kI .i64),(8,.kI .i64)])],[]⟩
theorem F137s.of (x0A:Option Addr) (x0n x0c:Nat) (x1:Int) (w:World) {Q:QT} (h:F137s.vc x0A x0n x0c x1 w Q):Calls Tryz.prog 137 #[VS x0A x0n x0c,VI .i64 x1,Value.func (.func 118) #[] #[]] w (fun e w'=>∃ v,e=.returned v/\Q v w'):=vcFn_of (A:=F137s.an) noCount mixed h (by kernel_rfl)
def F138.vc (x0A:Option Addr) (x0n x0c:Nat) (x1:Int) (x2A:Option Addr) (x2n x2c:Nat) (w:World) (Q:QT):Prop :=
 gd (decide (0<=x1)) <|
 gd (decide (x1<=(x0n:Int))) <|
 vIf ((x2n:Int) == 0)
 (Q (VS x0A x0n x0c) w)
 (vIf (x1 == (x0n:Int))
 (app w 2 24 [VG (⟨#[]⟩:ByteArray),VI .i64 0] 80 x0A x0n x0c (VS x2A x2n x2c) fun A1 n2 c3 w4 =>
 Q (VS A1 n2 c3) w4)
 (vIf (decide ((WR .i64 ((x0n:Int)+(x2n:Int))) > (x0c:Int)))
 (gd (decide (0<=x1)) <|
 gd (decide (x1<=(x0c:Int))) <|
 appZ w 2 24 [VG (⟨#[]⟩:ByteArray),VI .i64 0] 80 (slA x0A x0c 0 2) ((x1).toNat) x0c (WR .i64 ((WR .i64 ((x0n:Int)+(x2n:Int))) - x1)) fun A5 n6 c7 w8 =>
 gd (decide (0<=x1)) <|
 gd (decide (x1<=(n6:Int))) <|
 cpy w8 2 (slA A5 c7 (x1).toNat 2) (n6 - (x1).toNat) (VS x2A x2n x2c) fun n9 w10 =>
 gd (decide (0<=(WR .i64 (x1+(x2n:Int))))) <|
 gd (decide ((WR .i64 (x1+(x2n:Int)))<=(n6:Int))) <|
 gd (decide (0<=x1)) <|
 gd (decide (x1<=(x0n:Int))) <|
 cpy w10.drew 2 (slA A5 c7 ((WR .i64 (x1+(x2n:Int)))).toNat 2) (n6 - ((WR .i64 (x1+(x2n:Int)))).toNat) (VS (slA x0A x0c (x1).toNat 2) (x0n - (x1).toNat) (x0c - (x1).toNat)) fun n11 w12 =>
 Q (VS A5 n6 c7) w12)
 (gd (decide (0<=(WR .i64 ((x0n:Int)+(x2n:Int))))) <|
 gd (decide ((WR .i64 ((x0n:Int)+(x2n:Int)))<=(x0c:Int))) <|
 gd (decide (0<=(WR .i64 (x1+(x2n:Int))))) <|
 gd (decide ((WR .i64 (x1+(x2n:Int)))<=((((WR .i64 ((x0n:Int)+(x2n:Int)))).toNat:Nat):Int))) <|
 extC Tryz.prog 148 #[VS x2A x2n x2c,VS (slA (slA x0A x0c 0 2) x0c ((WR .i64 (x1+(x2n:Int)))).toNat 2) (((WR .i64 ((x0n:Int)+(x2n:Int)))).toNat - ((WR .i64 (x1+(x2n:Int)))).toNat) (x0c - ((WR .i64 (x1+(x2n:Int)))).toNat)] w fun v15 w13 =>
 ∃ t16:Bool,v15=VB t16/\(
 vIf (!t16)
 (gd (decide (0<=(WR .i64 (x1+(x2n:Int))))) <|
 gd (decide ((WR .i64 (x1+(x2n:Int)))<=((((WR .i64 ((x0n:Int)+(x2n:Int)))).toNat:Nat):Int))) <|
 gd (decide (0<=x1)) <|
 gd (decide (x1<=((((WR .i64 ((x0n:Int)+(x2n:Int)))).toNat:Nat):Int))) <|
 cpy w13.drew 2 (slA (slA x0A x0c 0 2) x0c ((WR .i64 (x1+(x2n:Int)))).toNat 2) (((WR .i64 ((x0n:Int)+(x2n:Int)))).toNat - ((WR .i64 (x1+(x2n:Int)))).toNat) (VS (slA (slA x0A x0c 0 2) x0c (x1).toNat 2) (((WR .i64 ((x0n:Int)+(x2n:Int)))).toNat - (x1).toNat) (x0c - (x1).toNat)) fun n17 w18 =>
 gd (decide (0<=x1)) <|
 gd (decide (x1<=((((WR .i64 ((x0n:Int)+(x2n:Int)))).toNat:Nat):Int))) <|
 cpy w18 2 (slA (slA x0A x0c 0 2) x0c (x1).toNat 2) (((WR .i64 ((x0n:Int)+(x2n:Int)))).toNat - (x1).toNat) (VS x2A x2n x2c) fun n19 w20 =>
 Q (VS (slA x0A x0c 0 2) ((WR .i64 ((x0n:Int)+(x2n:Int)))).toNat x0c) w20)
 (gd (decide (0<=(x0n:Int))) <|
 gd (decide ((x0n:Int)<=((((WR .i64 ((x0n:Int)+(x2n:Int)))).toNat:Nat):Int))) <|
 cpy w13 2 (slA (slA x0A x0c 0 2) x0c ((x0n:Int)).toNat 2) (((WR .i64 ((x0n:Int)+(x2n:Int)))).toNat - ((x0n:Int)).toNat) (VS x2A x2n x2c) fun n21 w22 =>
 gd (decide (0<=x1)) <|
 gd (decide (x1<=((((WR .i64 ((x0n:Int)+(x2n:Int)))).toNat:Nat):Int))) <|
 Calls Tryz.prog 149 #[VS (slA (slA x0A x0c 0 2) x0c (x1).toNat 2) (((WR .i64 ((x0n:Int)+(x2n:Int)))).toNat - (x1).toNat) (x0c - (x1).toNat),VI .i64 (x2n:Int)] w22 fun e24 w23 =>
 e24=.returned (VT #[])/\(
 Q (VS (slA x0A x0c 0 2) ((WR .i64 ((x0n:Int)+(x2n:Int)))).toNat x0c) w23))))))
def F138.an:Ann:=⟨[],[]⟩
theorem F138.of (x0A:Option Addr) (x0n x0c:Nat) (x1:Int) (x2A:Option Addr) (x2n x2c:Nat) (w:World) {Q:QT} (h:F138.vc x0A x0n x0c x1 x2A x2n x2c w Q):Calls Tryz.prog 138 #[VS x0A x0n x0c,VI .i64 x1,VS x2A x2n x2c] w (fun e w'=>∃ v,e=.returned v/\Q v w'):=vcFn_of (A:=F138.an) noCount mixed h (by kernel_rfl)
def F139.vc (x0A:Option Addr) (x0n x0c:Nat) (x1:Int) (x2:Int) (w:World) (Q:QT):Prop :=
 gd (decide (0<=(x0n:Int))) <|
 gd (decide ((x0n:Int)<=(x0c:Int))) <|
 gd (decide (0<=x2)) <|
 gd (decide (x2<=((((x0n:Int)).toNat:Nat):Int))) <|
 gd (decide (0<=x1)) <|
 gd (decide (x1<=(((x2).toNat:Nat):Int))) <|
 vIf (x1 == x2)
 (Q (VS x0A x0n x0c) w)
 (gd (decide (0<=x1)) <|
 gd (decide (x1<=(x0c:Int))) <|
 gd (decide (0<=x2)) <|
 gd (decide (x2<=(x0n:Int))) <|
 app w.drew 2 24 [VG (⟨#[]⟩:ByteArray),VI .i64 0] 80 (slA x0A x0c 0 2) ((x1).toNat) x0c (VS (slA x0A x0c (x2).toNat 2) (x0n - (x2).toNat) (x0c - (x2).toNat)) fun A1 n2 c3 w4 =>
 gd (decide (0<=(x0n:Int))) <|
 gd (decide ((x0n:Int)<=(c3:Int))) <|
 gd (decide (0<=(n2:Int))) <|
 gd (decide ((n2:Int)<=((((x0n:Int)).toNat:Nat):Int))) <|
 vIf ((((x0n:Int)).toNat - ((n2:Int)).toNat) == 0)
 (Q (VS A1 n2 c3) w4)
 (dr (slA A1 c3 ((n2:Int)).toNat 2) fun b6 o7 =>
 st w4 b6 o7 (zeros (((x0n:Int)).toNat - ((n2:Int)).toNat) [VG (⟨#[]⟩:ByteArray),VI .i64 0]) fun w5 =>
 Q (VS A1 n2 c3) w5))
def F139.an:Ann:=⟨[],[]⟩
theorem F139.of (x0A:Option Addr) (x0n x0c:Nat) (x1:Int) (x2:Int) (w:World) {Q:QT} (h:F139.vc x0A x0n x0c x1 x2 w Q):Calls Tryz.prog 139 #[VS x0A x0n x0c,VI .i64 x1,VI .i64 x2] w (fun e w'=>∃ v,e=.returned v/\Q v w'):=vcFn_of (A:=F139.an) noCount mixed h (by kernel_rfl)
def F131.b7c (Q:QT) (C3:(NT×NT×Int×Unit)->WT) (C7:(NT×NT×Int×Int×Int×Int×Unit)->WT) (x0:NT) (x1:NT) (x2:Int) (x3:Int) (x4:Int) (x9:Int) (w:World):Prop :=
 vIf (decide (x9 < 4))
 (vIf ((iAnd .u32 x3 1) == 1)
 (jnC C7 ((x0.1,x0.2),(x1.1,x1.2),x2,((iXor .u32 (Int.fdiv x3 (2 ^ 1)) 2197175160)),x4,((WR .i64 (x9+1))),()) w)
 (jnC C7 ((x0.1,x0.2),(x1.1,x1.2),x2,((Int.fdiv x3 (2 ^ 1))),x4,((WR .i64 (x9+1))),()) w))
 (gd (decide (0<=x2)) <|
 gd (decide (x2 < 16)) <|
 st w x1.1 (x1.2+(x2).toNat * 1) [VI .u32 x3] fun w5 =>
 jnC C3 ((x0.1,x0.2),(x1.1,x1.2),((WR .i64 (x4+1))),()) w5)
def F131.b7 (Q:QT) (C3:(NT×NT×Int×Unit)->WT):(NT×NT×Int×Int×Int×Int×Unit)->World->((NT×NT×Int×Int×Int×Int×Unit)->WT)->Prop:=fun s w C7=>∀ _:Nat->Value,F131.b7c Q C3 C7 s.1 s.2.1 s.2.2.1 s.2.2.2.1 s.2.2.2.2.1 s.2.2.2.2.2.1 w
def F131.l7 (Q:QT) (C3:(NT×NT×Int×Unit)->WT):(NT×NT×Int×Int×Int×Int×Unit)->WT:=fun s w=>∃ n,loopC (F131.b7 Q C3) n s w
def F131.b3c (Q:QT) (C3:(NT×NT×Int×Unit)->WT) (x0:NT) (x1:NT) (x4:Int) (w:World):Prop :=
 vIf (decide (x4 < 16))
 (jnC (F131.l7 Q C3) ((x0.1,x0.2),(x1.1,x1.2),x4,((WR .u32 x4)),x4,(0),()) w)
 (ldA 16 w x1.1 x1.2 fun a6 =>
 gd (a6.length == 16) <|
 st w x0.1 x0.2 a6 fun w7 =>
 ldA 16 w7 x0.1 x0.2 fun a8 =>
 Q (ofL a8) w7)
def F131.b3 (Q:QT):(NT×NT×Int×Unit)->World->((NT×NT×Int×Unit)->WT)->Prop:=fun s w C3=>∀ _:Nat->Value,F131.b3c Q C3 s.1 s.2.1 s.2.2.1 w
def F131.l3 (Q:QT):(NT×NT×Int×Unit)->WT:=fun s w=>∃ n,loopC (F131.b3 Q) n s w
def F131.vc  (w:World) (Q:QT):Prop :=
 nw w Z217 217 fun b1 w2 =>
 nw w2 Z217 217 fun b3 w4 =>
 jnC (F131.l3 Q) ((b1,0),(b3,0),(0),()) w4
def F131.an:Ann:=⟨[(3,[(0,.kL),(1,.kL),(4,.kI .i64)]),(7,[(0,.kL),(1,.kL),(2,.kI .i64),(3,.kI .u32),(4,.kI .i64),(9,.kI .i64)])],[]⟩
theorem F131.of  (w:World) {Q:QT} (h:F131.vc  w Q):Calls Tryz.prog 131 #[] w (fun e w'=>∃ v,e=.returned v/\Q v w'):=vcFn_of (A:=F131.an) noCount mixed h (by kernel_rfl)
def F132.vc (x0:Int) (w:World) (Q:QT):Prop :=
 vIf (decide (x0 >= 97))
 (vIf (decide (x0<=122))
 (Q (VB true) w)
 (vIf (decide (x0 >= 48))
 (Q (VB (decide (x0<=57))) w)
 (Q (VB false) w)))
 (vIf (decide (x0 >= 48))
 (Q (VB (decide (x0<=57))) w)
 (Q (VB false) w))
def F132.an:Ann:=⟨[],[]⟩
theorem F132.of (x0:Int) (w:World) {Q:QT} (h:F132.vc x0 w Q):Calls Tryz.prog 132 #[VI .u8 x0] w (fun e w'=>∃ v,e=.returned v/\Q v w'):=vcFn_of (A:=F132.an) noCount mixed h (by kernel_rfl)
def F133.k11c (Q:QT) (x2:NT) (x10:NT) (w:World):Prop :=
 ldA 5 w x10.1 x10.2 fun a28 =>
 gd (a28.length == 5) <|
 st w x2.1 x2.2 a28 fun w29 =>
 ldA 5 w29 x2.1 x2.2 fun a30 =>
 Q (VT #[ofL a30,VI .i64 0]) w29
def F133.k11 (Q:QT):(NT×NT×Unit)->WT:=fun s w=>∀ _:Nat->Value,F133.k11c Q s.1 s.2.1 w
def F133.k10c (Q:QT) (x2:NT) (x10:NT) (x43:Bool) (w:World):Prop :=
 vIf x43
 (gd (([VI .i64 0,VI .u64 0,VS none 0 0,VI .i64 0] ++ ([VI .i64 0] ++ [])).length == 5) <|
 st w x2.1 x2.2 ([VI .i64 0,VI .u64 0,VS none 0 0,VI .i64 0] ++ ([VI .i64 0] ++ [])) fun w26 =>
 ldA 5 w26 x2.1 x2.2 fun a27 =>
 Q (VT #[ofL a27,VI .i64 3]) w26)
 (jnC (F133.k11 Q) ((x2.1,x2.2),(x10.1,x10.2),()) w)
def F133.k10 (Q:QT):(NT×NT×Bool×Unit)->WT:=fun s w=>∀ _:Nat->Value,F133.k10c Q s.1 s.2.1 s.2.2.1 w
def F133.vc (x0A:Option Addr) (x0n x0c:Nat) (w:World) (Q:QT):Prop :=
 nw w Z221 221 fun b1 w2 =>
 vIf (decide ((x0n:Int) < 17))
 (gd (([VI .i64 0,VI .u64 0,VS none 0 0,VI .i64 0] ++ ([VI .i64 0] ++ [])).length == 5) <|
 st w2 b1 0 ([VI .i64 0,VI .u64 0,VS none 0 0,VI .i64 0] ++ ([VI .i64 0] ++ [])) fun w3 =>
 ldA 5 w3 b1 0 fun a4 =>
 Q (VT #[ofL a4,VI .i64 4]) w3)
 (Calls Tryz.prog 82 #[VS x0A x0n x0c,VI .i64 0,VI .i64 1] w2 fun e6 w5 =>
 ∃ i7:Int,∃ t8:Bool,e6=.returned (VT #[VI .u64 i7,VB t8])/\(
 Calls Tryz.prog 82 #[VS x0A x0n x0c,VI .i64 1,VI .i64 8] w5 fun e10 w9 =>
 ∃ i11:Int,∃ t12:Bool,e10=.returned (VT #[VI .u64 i11,VB t12])/\(
 Calls Tryz.prog 82 #[VS x0A x0n x0c,VI .i64 9,VI .i64 4] w9 fun e14 w13 =>
 ∃ i15:Int,∃ t16:Bool,e14=.returned (VT #[VI .u64 i15,VB t16])/\(
 gd (([VI .i64 (WR .i64 i7)] ++ ([VI .u64 i11] ++ ([VS none 0 0] ++ ([VI .i64 0] ++ [])))).length == 4) <|
 nw w13 Z221 221 fun b17 w18 =>
 gd ((([VI .i64 (WR .i64 i7)] ++ ([VI .u64 i11] ++ ([VS none 0 0] ++ ([VI .i64 0] ++ [])))) ++ ([VI .i64 (WR .i64 i15)] ++ [])).length == 5) <|
 st w18 b17 0 (([VI .i64 (WR .i64 i7)] ++ ([VI .u64 i11] ++ ([VS none 0 0] ++ ([VI .i64 0] ++ [])))) ++ ([VI .i64 (WR .i64 i15)] ++ [])) fun w19 =>
 gd (decide ((17:Int)<=(x0c:Int))) <|
 Calls Tryz.prog 135 #[VS (slA x0A x0c 0 1) 17 x0c] w19 fun e21 w20 =>
 ∃ t22:Bool,e21=.returned (VB t22)/\(
 vIf (!t22)
 (gd (([VI .i64 0,VI .u64 0,VS none 0 0,VI .i64 0] ++ ([VI .i64 0] ++ [])).length == 5) <|
 st w20 b1 0 ([VI .i64 0,VI .u64 0,VS none 0 0,VI .i64 0] ++ ([VI .i64 0] ++ [])) fun w23 =>
 ldA 5 w23 b1 0 fun a24 =>
 Q (VT #[ofL a24,VI .i64 5]) w23)
 (ldI .i64 w20 b17 0 fun i25 =>
 vIf (decide (i25 < 1))
 (jnC (F133.k10 Q) ((b1,0),(b17,0),true,()) w20)
 (ldI .i64 w20 b17 0 fun i31 =>
 vIf (decide (i31 > 8))
 (jnC (F133.k10 Q) ((b1,0),(b17,0),true,()) w20)
 (ldI .i64 w20 b17 (0+4) fun i32 =>
 jnC (F133.k10 Q) ((b1,0),(b17,0),(decide (i32 > 65536)),()) w20))))))))
def F133.an:Ann:=⟨[],[(10,[(2,.kL),(10,.kL),(43,.kB)]),(11,[(2,.kL),(10,.kL)])]⟩
theorem F133.of (x0A:Option Addr) (x0n x0c:Nat) (w:World) {Q:QT} (h:F133.vc x0A x0n x0c w Q):Calls Tryz.prog 133 #[VS x0A x0n x0c] w (fun e w'=>∃ v,e=.returned v/\Q v w'):=vcFn_of (A:=F133.an) noCount mixed h (by kernel_rfl)
def F134.vc (x0:Int) (w:World) (Q:QT):Prop :=
 Q (VI .i64 (WR .i64 ((WR .i64 (17+x0))+4))) w
def F134.an:Ann:=⟨[],[]⟩
theorem F134.of (x0:Int) (w:World) {Q:QT} (h:F134.vc x0 w Q):Calls Tryz.prog 134 #[VI .i64 x0] w (fun e w'=>∃ v,e=.returned v/\Q v w'):=vcFn_of (A:=F134.an) noCount mixed h (by kernel_rfl)
def F135.vc (x0A:Option Addr) (x0n x0c:Nat) (w:World) (Q:QT):Prop :=
 Calls Tryz.prog 82 #[VS x0A x0n x0c,VI .i64 (WR .i64 ((x0n:Int) - 4)),VI .i64 4] w fun e2 w1 =>
 ∃ i3:Int,∃ t4:Bool,e2=.returned (VT #[VI .u64 i3,VB t4])/\(
 gd (decide (0<=(WR .i64 ((x0n:Int) - 4)))) <|
 gd (decide ((WR .i64 ((x0n:Int) - 4))<=(x0c:Int))) <|
 Calls Tryz.prog 83 #[VS (slA x0A x0c 0 1) ((WR .i64 ((x0n:Int) - 4))).toNat x0c] w1 fun e6 w5 =>
 ∃ i7:Int,e6=.returned (VI .u32 i7)/\(
 Q (VB ((WR .u32 i3) == i7)) w5))
def F135.an:Ann:=⟨[],[]⟩
theorem F135.of (x0A:Option Addr) (x0n x0c:Nat) (w:World) {Q:QT} (h:F135.vc x0A x0n x0c w Q):Calls Tryz.prog 135 #[VS x0A x0n x0c] w (fun e w'=>∃ v,e=.returned v/\Q v w'):=vcFn_of (A:=F135.an) noCount mixed h (by kernel_rfl)
def F136.vc (x0A:Option Addr) (x0n x0c:Nat) (x1:Int) (x2:Int) (w:World) (Q:QT):Prop :=
 Calls Tryz.prog 82 #[VS x0A x0n x0c,VI .i64 x1,VI .i64 x2] w fun e2 w1 =>
 ∃ i3:Int,∃ t4:Bool,e2=.returned (VT #[VI .u64 i3,VB t4])/\(
 vIf (decide (i3 > 4294967295))
 (Q (VI .i64 0) w1)
 (Q (VI .i64 (WR .i64 i3)) w1))
def F136.an:Ann:=⟨[],[]⟩
theorem F136.of (x0A:Option Addr) (x0n x0c:Nat) (x1:Int) (x2:Int) (w:World) {Q:QT} (h:F136.vc x0A x0n x0c x1 x2 w Q):Calls Tryz.prog 136 #[VS x0A x0n x0c,VI .i64 x1,VI .i64 x2] w (fun e w'=>∃ v,e=.returned v/\Q v w'):=vcFn_of (A:=F136.an) noCount mixed h (by kernel_rfl)
def F140.vc (x0:List Value) (w:World) (Q:QT):Prop :=
 nw w x0 182 fun b1 w2 =>
 ldI .i64 w2 b1 (0+1) fun i3 =>
 vIf (decide (i3 >= 0))
 (ldI .i64 w2 b1 (0+1) fun i4 =>
 ldSl w2 b1 (0+2) fun A5 n6 c7 =>
 Q (VB (decide (i4<=(WR .i64 (1048576 - (n6:Int)))))) w2)
 (Q (VB false) w2)
def F140.an:Ann:=⟨[],[]⟩
theorem F140.of (x0:List Value) (w:World) {Q:QT} (h:F140.vc x0 w Q):Calls Tryz.prog 140 #[ofL x0] w (fun e w'=>∃ v,e=.returned v/\Q v w'):=vcFn_of (A:=F140.an) noCount mixed h (by kernel_rfl)
def F146s.k6c (Q:QT) (C1:(ST×Int×Int×Unit×Int×Unit)->WT) (C4:(ST×Int×Int×Unit×Int×Int×Unit)->WT) (x0:ST) (x1:Int) (x2:Int) (x3:Unit) (x8:Int) (x9:Int) (w:World):Prop :=
 dr x0.1 fun b10 o11 =>
 gd (decide (0<=(WR .i64 (x9 - 1)))) <|
 gd (decide ((WR .i64 (x9 - 1)) < (x0.2.1:Int))) <|
 ldA 2 w.drew b10 (o11+((WR .i64 (x9 - 1))).toNat * 2) fun a12 =>
 dr x0.1 fun b13 o14 =>
 gd (decide (0<=x9)) <|
 gd (decide (x9 < (x0.2.1:Int))) <|
 ldA 2 w.drew b13 (o14+(x9).toNat * 2) fun a15 =>
 dr x0.1 fun b16 o17 =>
 gd (decide (0<=x9)) <|
 gd (decide (x9 < (x0.2.1:Int))) <|
 gd (a12.length == 2) <|
 st w.drew b16 (o17+(x9).toNat * 2) a12 fun w18 =>
 dr x0.1 fun b19 o20 =>
 gd (decide (0<=(WR .i64 (x9 - 1)))) <|
 gd (decide ((WR .i64 (x9 - 1)) < (x0.2.1:Int))) <|
 gd (a15.length == 2) <|
 st w18 b19 (o20+((WR .i64 (x9 - 1))).toNat * 2) a15 fun w21 =>
 jnC C4 ((x0.1,x0.2.1,x0.2.2),x1,x2,(),x8,((WR .i64 (x9 - 1))),()) w21
def F146s.k6 (Q:QT) (C1:(ST×Int×Int×Unit×Int×Unit)->WT) (C4:(ST×Int×Int×Unit×Int×Int×Unit)->WT):(ST×Int×Int×Unit×Int×Int×Unit)->WT:=fun s w=>∀ _:Nat->Value,F146s.k6c Q C1 C4 s.1 s.2.1 s.2.2.1 s.2.2.2.1 s.2.2.2.2.1 s.2.2.2.2.2.1 w
def F146s.b4c (Q:QT) (C1:(ST×Int×Int×Unit×Int×Unit)->WT) (C4:(ST×Int×Int×Unit×Int×Int×Unit)->WT) (x0:ST) (x1:Int) (x2:Int) (x3:Unit) (x8:Int) (x9:Int) (w:World):Prop :=
 vIf (decide (x9 > x1))
 (dr x0.1 fun b1 o2 =>
 gd (decide (0<=x9)) <|
 gd (decide (x9 < (x0.2.1:Int))) <|
 ldA 2 w.drew b1 (o2+(x9).toNat * 2) fun a3 =>
 dr x0.1 fun b4 o5 =>
 gd (decide (0<=(WR .i64 (x9 - 1)))) <|
 gd (decide ((WR .i64 (x9 - 1)) < (x0.2.1:Int))) <|
 ldA 2 w.drew b4 (o5+((WR .i64 (x9 - 1))).toNat * 2) fun a6 =>
 Calls Tryz.prog 118 #[ofL a3,ofL a6] w.drew fun e8 w7 =>
 ∃ i9:Int,e8=.returned (VI .i64 i9)/\(
 vIf (decide (i9 < 0))
 (jnC (F146s.k6 Q C1 C4) ((x0.1,x0.2.1,x0.2.2),x1,x2,(),x8,x9,()) w7)
 (jnC C1 ((x0.1,x0.2.1,x0.2.2),x1,x2,(),((WR .i64 (x8+1))),()) w7)))
 (jnC C1 ((x0.1,x0.2.1,x0.2.2),x1,x2,(),((WR .i64 (x8+1))),()) w.drew)
def F146s.b4 (Q:QT) (C1:(ST×Int×Int×Unit×Int×Unit)->WT):(ST×Int×Int×Unit×Int×Int×Unit)->World->((ST×Int×Int×Unit×Int×Int×Unit)->WT)->Prop:=fun s w C4=>∀ _:Nat->Value,F146s.b4c Q C1 C4 s.1 s.2.1 s.2.2.1 s.2.2.2.1 s.2.2.2.2.1 s.2.2.2.2.2.1 w
def F146s.l4 (Q:QT) (C1:(ST×Int×Int×Unit×Int×Unit)->WT):(ST×Int×Int×Unit×Int×Int×Unit)->WT:=fun s w=>∃ n,loopC (F146s.b4 Q C1) n s w
def F146s.b1c (Q:QT) (C1:(ST×Int×Int×Unit×Int×Unit)->WT) (x0:ST) (x1:Int) (x2:Int) (x3:Unit) (x8:Int) (w:World):Prop :=
 vIf (decide (x8 < x2))
 (jnC (F146s.l4 Q C1) ((x0.1,x0.2.1,x0.2.2),x1,x2,(),x8,x8,()) w)
 (Q (VT #[]) w)
def F146s.b1 (Q:QT):(ST×Int×Int×Unit×Int×Unit)->World->((ST×Int×Int×Unit×Int×Unit)->WT)->Prop:=fun s w C1=>∀ _:Nat->Value,F146s.b1c Q C1 s.1 s.2.1 s.2.2.1 s.2.2.2.1 s.2.2.2.2.1 w
def F146s.l1 (Q:QT):(ST×Int×Int×Unit×Int×Unit)->WT:=fun s w=>∃ n,loopC (F146s.b1 Q) n s w
def F146s.vc (x0A:Option Addr) (x0n x0c:Nat) (x1:Int) (x2:Int) (w:World) (Q:QT):Prop :=
 jnC (F146s.l1 Q) ((x0A,x0n,x0c),x1,x2,(),((WR .i64 (x1+1))),()) w
def F146s.an:Ann:=⟨[(1,[(0,.kSl),(1,.kI .i64),(2,.kI .i64),(3,.kF 118),(8,.kI .i64)]),(4,[(0,.kSl),(1,.kI .i64),(2,.kI .i64),(3,.kF 118),(8,.kI .i64),(9,.kI .i64)])],[(6,[(0,.kSl),(1,.kI .i64),(2,.kI .i64),(3,.kF 118),(8,.kI .i64),(9,.kI .i64)])]⟩
theorem F146s.of (x0A:Option Addr) (x0n x0c:Nat) (x1:Int) (x2:Int) (w:World) {Q:QT} (h:F146s.vc x0A x0n x0c x1 x2 w Q):Calls Tryz.prog 146 #[VS x0A x0n x0c,VI .i64 x1,VI .i64 x2,Value.func (.func 118) #[] #[]] w (fun e w'=>∃ v,e=.returned v/\Q v w'):=vcFn_of (A:=F146s.an) noCount mixed h (by kernel_rfl)
def F147s.b9c (Q:QT) (C9:(ST×Int×Int×Unit)->WT) (x0:ST) (x10:Int) (x13:Int) (w:World):Prop :=
 vIf (decide (x13 < (WR .i64 (x10 - 1))))
 (dr x0.1 fun b10 o11 =>
 gd (decide (0<=(WR .i64 (x13+1)))) <|
 gd (decide ((WR .i64 (x13+1)) < (x0.2.1:Int))) <|
 ldA 2 w.drew b10 (o11+((WR .i64 (x13+1))).toNat * 2) fun a12 =>
 dr x0.1 fun b13 o14 =>
 gd (decide (0<=x13)) <|
 gd (decide (x13 < (x0.2.1:Int))) <|
 ldA 2 w.drew b13 (o14+(x13).toNat * 2) fun a15 =>
 dr x0.1 fun b16 o17 =>
 gd (decide (0<=x13)) <|
 gd (decide (x13 < (x0.2.1:Int))) <|
 gd (a12.length == 2) <|
 st w.drew b16 (o17+(x13).toNat * 2) a12 fun w18 =>
 dr x0.1 fun b19 o20 =>
 gd (decide (0<=(WR .i64 (x13+1)))) <|
 gd (decide ((WR .i64 (x13+1)) < (x0.2.1:Int))) <|
 gd (a15.length == 2) <|
 st w18 b19 (o20+((WR .i64 (x13+1))).toNat * 2) a15 fun w21 =>
 jnC C9 ((x0.1,x0.2.1,x0.2.2),x10,((WR .i64 (x13+1))),()) w21)
 (Q (VT #[]) w)
def F147s.b9 (Q:QT):(ST×Int×Int×Unit)->World->((ST×Int×Int×Unit)->WT)->Prop:=fun s w C9=>∀ _:Nat->Value,F147s.b9c Q C9 s.1 s.2.1 s.2.2.1 w
def F147s.l9 (Q:QT):(ST×Int×Int×Unit)->WT:=fun s w=>∃ n,loopC (F147s.b9 Q) n s w
def F147s.b3c (Q:QT) (C3:(ST×Int×Unit×Int×Int×Unit)->WT) (x0:ST) (x1:Int) (x4:Unit) (x10:Int) (x11:Int) (w:World):Prop :=
 vIf (decide (x10 < x11))
 (dr x0.1 fun b1 o2 =>
 gd (decide (0<=(WR .i64 (Int.fdiv (WR .u64 (WR .i64 (x10+x11))) (2 ^ 1))))) <|
 gd (decide ((WR .i64 (Int.fdiv (WR .u64 (WR .i64 (x10+x11))) (2 ^ 1))) < (x0.2.1:Int))) <|
 ldA 2 w.drew b1 (o2+((WR .i64 (Int.fdiv (WR .u64 (WR .i64 (x10+x11))) (2 ^ 1)))).toNat * 2) fun a3 =>
 dr x0.1 fun b4 o5 =>
 gd (decide (0<=x1)) <|
 gd (decide (x1 < (x0.2.1:Int))) <|
 ldA 2 w.drew b4 (o5+(x1).toNat * 2) fun a6 =>
 Calls Tryz.prog 118 #[ofL a3,ofL a6] w.drew fun e8 w7 =>
 ∃ i9:Int,e8=.returned (VI .i64 i9)/\(
 vIf (decide (i9 < 0))
 (jnC C3 ((x0.1,x0.2.1,x0.2.2),x1,(),((WR .i64 ((WR .i64 (Int.fdiv (WR .u64 (WR .i64 (x10+x11))) (2 ^ 1)))+1))),x11,()) w7)
 (jnC C3 ((x0.1,x0.2.1,x0.2.2),x1,(),x10,((WR .i64 (Int.fdiv (WR .u64 (WR .i64 (x10+x11))) (2 ^ 1)))),()) w7)))
 (jnC (F147s.l9 Q) ((x0.1,x0.2.1,x0.2.2),x10,x1,()) w)
def F147s.b3 (Q:QT):(ST×Int×Unit×Int×Int×Unit)->World->((ST×Int×Unit×Int×Int×Unit)->WT)->Prop:=fun s w C3=>∀ _:Nat->Value,F147s.b3c Q C3 s.1 s.2.1 s.2.2.1 s.2.2.2.1 s.2.2.2.2.1 w
def F147s.l3 (Q:QT):(ST×Int×Unit×Int×Int×Unit)->WT:=fun s w=>∃ n,loopC (F147s.b3 Q) n s w
def F147s.b21c (Q:QT) (C21:(ST×Int×Int×Unit)->WT) (x0:ST) (x14:Int) (x17:Int) (w:World):Prop :=
 vIf (decide (x17 > x14))
 (dr x0.1 fun b31 o32 =>
 gd (decide (0<=(WR .i64 (x17 - 1)))) <|
 gd (decide ((WR .i64 (x17 - 1)) < (x0.2.1:Int))) <|
 ldA 2 w.drew b31 (o32+((WR .i64 (x17 - 1))).toNat * 2) fun a33 =>
 dr x0.1 fun b34 o35 =>
 gd (decide (0<=x17)) <|
 gd (decide (x17 < (x0.2.1:Int))) <|
 ldA 2 w.drew b34 (o35+(x17).toNat * 2) fun a36 =>
 dr x0.1 fun b37 o38 =>
 gd (decide (0<=x17)) <|
 gd (decide (x17 < (x0.2.1:Int))) <|
 gd (a33.length == 2) <|
 st w.drew b37 (o38+(x17).toNat * 2) a33 fun w39 =>
 dr x0.1 fun b40 o41 =>
 gd (decide (0<=(WR .i64 (x17 - 1)))) <|
 gd (decide ((WR .i64 (x17 - 1)) < (x0.2.1:Int))) <|
 gd (a36.length == 2) <|
 st w39 b40 (o41+((WR .i64 (x17 - 1))).toNat * 2) a36 fun w42 =>
 jnC C21 ((x0.1,x0.2.1,x0.2.2),x14,((WR .i64 (x17 - 1))),()) w42)
 (Q (VT #[]) w)
def F147s.b21 (Q:QT):(ST×Int×Int×Unit)->World->((ST×Int×Int×Unit)->WT)->Prop:=fun s w C21=>∀ _:Nat->Value,F147s.b21c Q C21 s.1 s.2.1 s.2.2.1 w
def F147s.l21 (Q:QT):(ST×Int×Int×Unit)->WT:=fun s w=>∃ n,loopC (F147s.b21 Q) n s w
def F147s.b15c (Q:QT) (C15:(ST×Int×Unit×Int×Int×Unit)->WT) (x0:ST) (x2:Int) (x4:Unit) (x14:Int) (x15:Int) (w:World):Prop :=
 vIf (decide (x14 < x15))
 (dr x0.1 fun b22 o23 =>
 gd (decide (0<=x2)) <|
 gd (decide (x2 < (x0.2.1:Int))) <|
 ldA 2 w.drew b22 (o23+(x2).toNat * 2) fun a24 =>
 dr x0.1 fun b25 o26 =>
 gd (decide (0<=(WR .i64 (Int.fdiv (WR .u64 (WR .i64 (x14+x15))) (2 ^ 1))))) <|
 gd (decide ((WR .i64 (Int.fdiv (WR .u64 (WR .i64 (x14+x15))) (2 ^ 1))) < (x0.2.1:Int))) <|
 ldA 2 w.drew b25 (o26+((WR .i64 (Int.fdiv (WR .u64 (WR .i64 (x14+x15))) (2 ^ 1)))).toNat * 2) fun a27 =>
 Calls Tryz.prog 118 #[ofL a24,ofL a27] w.drew fun e29 w28 =>
 ∃ i30:Int,e29=.returned (VI .i64 i30)/\(
 vIf (!(decide (i30 < 0)))
 (jnC C15 ((x0.1,x0.2.1,x0.2.2),x2,(),((WR .i64 ((WR .i64 (Int.fdiv (WR .u64 (WR .i64 (x14+x15))) (2 ^ 1)))+1))),x15,()) w28)
 (jnC C15 ((x0.1,x0.2.1,x0.2.2),x2,(),x14,((WR .i64 (Int.fdiv (WR .u64 (WR .i64 (x14+x15))) (2 ^ 1)))),()) w28)))
 (jnC (F147s.l21 Q) ((x0.1,x0.2.1,x0.2.2),x14,x2,()) w)
def F147s.b15 (Q:QT):(ST×Int×Unit×Int×Int×Unit)->World->((ST×Int×Unit×Int×Int×Unit)->WT)->Prop:=fun s w C15=>∀ _:Nat->Value,F147s.b15c Q C15 s.1 s.2.1 s.2.2.1 s.2.2.2.1 s.2.2.2.2.1 w
def F147s.l15 (Q:QT):(ST×Int×Unit×Int×Int×Unit)->WT:=fun s w=>∃ n,loopC (F147s.b15 Q) n s w
def F147s.k44c (Q:QT) (x0:ST) (x3:Int) (x4:Unit) (x18:Int) (x24:Int) (x213:Bool) (w:World):Prop :=
 vIf x213
 (Calls Tryz.prog 147 #[VS x0.1 x0.2.1 x0.2.2,VI .i64 x18,VI .i64 x24,VI .i64 x3,Value.func (.func 118) #[] #[]] w fun e57 w56 =>
 e57=.returned (VT #[])/\(
 Q (VT #[]) w56))
 (Q (VT #[]) w)
def F147s.k44 (Q:QT):(ST×Int×Unit×Int×Int×Bool×Unit)->WT:=fun s w=>∀ _:Nat->Value,F147s.k44c Q s.1 s.2.1 s.2.2.1 s.2.2.2.1 s.2.2.2.2.1 s.2.2.2.2.2.1 w
def F147s.k43c (Q:QT) (x0:ST) (x3:Int) (x4:Unit) (x18:Int) (x24:Int) (w:World):Prop :=
 vIf (decide (x18 < x24))
 (jnC (F147s.k44 Q) ((x0.1,x0.2.1,x0.2.2),x3,(),x18,x24,(decide (x24 < x3)),()) w)
 (jnC (F147s.k44 Q) ((x0.1,x0.2.1,x0.2.2),x3,(),x18,x24,false,()) w)
def F147s.k43 (Q:QT):(ST×Int×Unit×Int×Int×Unit)->WT:=fun s w=>∀ _:Nat->Value,F147s.k43c Q s.1 s.2.1 s.2.2.1 s.2.2.2.1 s.2.2.2.2.1 w
def F147s.k42c (Q:QT) (x0:ST) (x1:Int) (x3:Int) (x4:Unit) (x18:Int) (x20:Int) (x24:Int) (x199:Bool) (w:World):Prop :=
 vIf x199
 (Calls Tryz.prog 147 #[VS x0.1 x0.2.1 x0.2.2,VI .i64 x1,VI .i64 x20,VI .i64 x18,Value.func (.func 118) #[] #[]] w fun e55 w54 =>
 e55=.returned (VT #[])/\(
 jnC (F147s.k43 Q) ((x0.1,x0.2.1,x0.2.2),x3,(),x18,x24,()) w54))
 (jnC (F147s.k43 Q) ((x0.1,x0.2.1,x0.2.2),x3,(),x18,x24,()) w)
def F147s.k42 (Q:QT):(ST×Int×Int×Unit×Int×Int×Int×Bool×Unit)->WT:=fun s w=>∀ _:Nat->Value,F147s.k42c Q s.1 s.2.1 s.2.2.1 s.2.2.2.1 s.2.2.2.2.1 s.2.2.2.2.2.1 s.2.2.2.2.2.2.1 s.2.2.2.2.2.2.2.1 w
def F147s.k41c (Q:QT) (x0:ST) (x1:Int) (x3:Int) (x4:Unit) (x18:Int) (x20:Int) (x24:Int) (w:World):Prop :=
 vIf (decide (x1 < x20))
 (jnC (F147s.k42 Q) ((x0.1,x0.2.1,x0.2.2),x1,x3,(),x18,x20,x24,(decide (x20 < x18)),()) w)
 (jnC (F147s.k42 Q) ((x0.1,x0.2.1,x0.2.2),x1,x3,(),x18,x20,x24,false,()) w)
def F147s.k41 (Q:QT):(ST×Int×Int×Unit×Int×Int×Int×Unit)->WT:=fun s w=>∀ _:Nat->Value,F147s.k41c Q s.1 s.2.1 s.2.2.1 s.2.2.2.1 s.2.2.2.2.1 s.2.2.2.2.2.1 s.2.2.2.2.2.2.1 w
def F147s.k40c (Q:QT) (x0:ST) (x1:Int) (x2:Int) (x3:Int) (x4:Unit) (x18:Int) (x20:Int) (x24:Int) (x185:Bool) (w:World):Prop :=
 vIf x185
 (Calls Tryz.prog 152 #[VS x0.1 x0.2.1 x0.2.2,VI .i64 x20,VI .i64 x2,VI .i64 x24,Value.func (.func 118) #[] #[]] w fun e53 w52 =>
 e53=.returned (VT #[])/\(
 jnC (F147s.k41 Q) ((x0.1,x0.2.1,x0.2.2),x1,x3,(),x18,x20,x24,()) w52))
 (jnC (F147s.k41 Q) ((x0.1,x0.2.1,x0.2.2),x1,x3,(),x18,x20,x24,()) w)
def F147s.k40 (Q:QT):(ST×Int×Int×Int×Unit×Int×Int×Int×Bool×Unit)->WT:=fun s w=>∀ _:Nat->Value,F147s.k40c Q s.1 s.2.1 s.2.2.1 s.2.2.2.1 s.2.2.2.2.1 s.2.2.2.2.2.1 s.2.2.2.2.2.2.1 s.2.2.2.2.2.2.2.1 s.2.2.2.2.2.2.2.2.1 w
def F147s.b33c (Q:QT) (C33:(ST×Int×Int×Int×Unit×Int×Int×Int×Int×Int×Unit)->WT) (x0:ST) (x1:Int) (x2:Int) (x3:Int) (x4:Unit) (x18:Int) (x19:Int) (x20:Int) (x21:Int) (x22:Int) (w:World):Prop :=
 vIf (decide (x20 < x21))
 (dr x0.1 fun b43 o44 =>
 gd (decide (0<=(WR .i64 (x22 - (WR .i64 (Int.fdiv (WR .u64 (WR .i64 (x20+x21))) (2 ^ 1))))))) <|
 gd (decide ((WR .i64 (x22 - (WR .i64 (Int.fdiv (WR .u64 (WR .i64 (x20+x21))) (2 ^ 1))))) < (x0.2.1:Int))) <|
 ldA 2 w.drew b43 (o44+((WR .i64 (x22 - (WR .i64 (Int.fdiv (WR .u64 (WR .i64 (x20+x21))) (2 ^ 1)))))).toNat * 2) fun a45 =>
 dr x0.1 fun b46 o47 =>
 gd (decide (0<=(WR .i64 (Int.fdiv (WR .u64 (WR .i64 (x20+x21))) (2 ^ 1))))) <|
 gd (decide ((WR .i64 (Int.fdiv (WR .u64 (WR .i64 (x20+x21))) (2 ^ 1))) < (x0.2.1:Int))) <|
 ldA 2 w.drew b46 (o47+((WR .i64 (Int.fdiv (WR .u64 (WR .i64 (x20+x21))) (2 ^ 1)))).toNat * 2) fun a48 =>
 Calls Tryz.prog 118 #[ofL a45,ofL a48] w.drew fun e50 w49 =>
 ∃ i51:Int,e50=.returned (VI .i64 i51)/\(
 vIf (!(decide (i51 < 0)))
 (jnC C33 ((x0.1,x0.2.1,x0.2.2),x1,x2,x3,(),x18,x19,((WR .i64 ((WR .i64 (Int.fdiv (WR .u64 (WR .i64 (x20+x21))) (2 ^ 1)))+1))),x21,x22,()) w49)
 (jnC C33 ((x0.1,x0.2.1,x0.2.2),x1,x2,x3,(),x18,x19,x20,((WR .i64 (Int.fdiv (WR .u64 (WR .i64 (x20+x21))) (2 ^ 1)))),x22,()) w49)))
 (vIf (decide (x20 < x2))
 (jnC (F147s.k40 Q) ((x0.1,x0.2.1,x0.2.2),x1,x2,x3,(),x18,x20,((WR .i64 (x19 - x20))),(decide (x2 < (WR .i64 (x19 - x20)))),()) w)
 (jnC (F147s.k40 Q) ((x0.1,x0.2.1,x0.2.2),x1,x2,x3,(),x18,x20,((WR .i64 (x19 - x20))),false,()) w))
def F147s.b33 (Q:QT):(ST×Int×Int×Int×Unit×Int×Int×Int×Int×Int×Unit)->World->((ST×Int×Int×Int×Unit×Int×Int×Int×Int×Int×Unit)->WT)->Prop:=fun s w C33=>∀ _:Nat->Value,F147s.b33c Q C33 s.1 s.2.1 s.2.2.1 s.2.2.2.1 s.2.2.2.2.1 s.2.2.2.2.2.1 s.2.2.2.2.2.2.1 s.2.2.2.2.2.2.2.1 s.2.2.2.2.2.2.2.2.1 s.2.2.2.2.2.2.2.2.2.1 w
def F147s.l33 (Q:QT):(ST×Int×Int×Int×Unit×Int×Int×Int×Int×Int×Unit)->WT:=fun s w=>∃ n,loopC (F147s.b33 Q) n s w
def F147s.k32c (Q:QT) (x0:ST) (x1:Int) (x2:Int) (x3:Int) (x4:Unit) (x18:Int) (x19:Int) (x20:Int) (x21:Int) (w:World):Prop :=
 jnC (F147s.l33 Q) ((x0.1,x0.2.1,x0.2.2),x1,x2,x3,(),x18,x19,x20,x21,((WR .i64 (x19 - 1))),()) w
def F147s.k32 (Q:QT):(ST×Int×Int×Int×Unit×Int×Int×Int×Int×Unit)->WT:=fun s w=>∀ _:Nat->Value,F147s.k32c Q s.1 s.2.1 s.2.2.1 s.2.2.2.1 s.2.2.2.2.1 s.2.2.2.2.2.1 s.2.2.2.2.2.2.1 s.2.2.2.2.2.2.2.1 s.2.2.2.2.2.2.2.2.1 w
def F147s.vc (x0A:Option Addr) (x0n x0c:Nat) (x1:Int) (x2:Int) (x3:Int) (w:World) (Q:QT):Prop :=
 vIf ((WR .i64 (x2 - x1)) == 1)
 (jnC (F147s.l3 Q) ((x0A,x0n,x0c),x1,(),x2,x3,()) w)
 (vIf ((WR .i64 (x3 - x2)) == 1)
 (jnC (F147s.l15 Q) ((x0A,x0n,x0c),x2,(),x1,x2,()) w)
 (vIf (decide (x2 > (WR .i64 (Int.fdiv (WR .u64 (WR .i64 (x1+x3))) (2 ^ 1)))))
 (jnC (F147s.k32 Q) ((x0A,x0n,x0c),x1,x2,x3,(),((WR .i64 (Int.fdiv (WR .u64 (WR .i64 (x1+x3))) (2 ^ 1)))),((WR .i64 ((WR .i64 (Int.fdiv (WR .u64 (WR .i64 (x1+x3))) (2 ^ 1)))+x2))),((WR .i64 ((WR .i64 ((WR .i64 (Int.fdiv (WR .u64 (WR .i64 (x1+x3))) (2 ^ 1)))+x2)) - x3))),((WR .i64 (Int.fdiv (WR .u64 (WR .i64 (x1+x3))) (2 ^ 1)))),()) w)
 (jnC (F147s.k32 Q) ((x0A,x0n,x0c),x1,x2,x3,(),((WR .i64 (Int.fdiv (WR .u64 (WR .i64 (x1+x3))) (2 ^ 1)))),((WR .i64 ((WR .i64 (Int.fdiv (WR .u64 (WR .i64 (x1+x3))) (2 ^ 1)))+x2))),x1,x2,()) w)))
def F147s.an:Ann:=⟨[(3,[(0,.kSl),(1,.kI .i64),(4,.kF 118),(10,.kI .i64),(11,.kI .i64)]),(9,[(0,.kSl),(10,.kI .i64),(13,.kI .i64)]),(15,[(0,.kSl),(2,.kI .i64),(4,.kF 118),(14,.kI .i64),(15,.kI .i64)]),(21,[(0,.kSl),(14,.kI .i64),(17,.kI .i64)]),(33,[(0,.kSl),(1,.kI .i64),(2,.kI .i64),(3,.kI .i64),(4,.kF 118),(18,.kI .i64),(19,.kI .i64),(20,.kI .i64),(21,.kI .i64),(22,.kI .i64)])],[(32,[(0,.kSl),(1,.kI .i64),(2,.kI .i64),(3,.kI .i64),(4,.kF 118),(18,.kI .i64),(19,.kI .i64),(20,.kI .i64),(21,.kI .i64)]),(40,[(0,.kSl),(1,.kI .i64),(2,.kI .i64),(3,.kI .i64),(4,.kF 118),(18,.kI .i64),(20,.kI .i64),(24,.kI .i64),(185,.kB)]),(41,[(0,.kSl),(1,.kI .i64),(3,.kI .i64),(4,.kF 118),(18,.kI .i64),(20,.kI .i64),(24,.kI .i64)]),(42,[(0,.kSl),(1,.kI .i64),(3,.kI .i64),(4,.kF 118),(18,.kI .i64),(20,.kI .i64),(24,.kI .i64),(199,.kB)]),(43,[(0,.kSl),(3,.kI .i64),(4,.kF 118),(18,.kI .i64),(24,.kI .i64)]),(44,[(0,.kSl),(3,.kI .i64),(4,.kF 118),(18,.kI .i64),(24,.kI .i64),(213,.kB)])]⟩
theorem F147s.of (x0A:Option Addr) (x0n x0c:Nat) (x1:Int) (x2:Int) (x3:Int) (w:World) {Q:QT} (h:F147s.vc x0A x0n x0c x1 x2 x3 w Q):Calls Tryz.prog 147 #[VS x0A x0n x0c,VI .i64 x1,VI .i64 x2,VI .i64 x3,Value.func (.func 118) #[] #[]] w (fun e w'=>∃ v,e=.returned v/\Q v w'):=vcFn_of (A:=F147s.an) noCount mixed h (by kernel_rfl)
def F152s.b2c (Q:QT) (C2:(ST×Int×Unit×Int×Int×Unit)->WT) (x0:ST) (x2:Int) (x4:Unit) (x10:Int) (x11:Int) (w:World):Prop :=
 vIf (x10 != x11)
 (vIf (decide (x10 > x11))
 (Calls Tryz.prog 154 #[VS x0.1 x0.2.1 x0.2.2,VI .i64 (WR .i64 (x2 - x10)),VI .i64 x2,VI .i64 x11,Value.func (.func 118) #[] #[]] w fun e2 w1 =>
 e2=.returned (VT #[])/\(
 jnC C2 ((x0.1,x0.2.1,x0.2.2),x2,(),((WR .i64 (x10 - x11))),x11,()) w1))
 (Calls Tryz.prog 154 #[VS x0.1 x0.2.1 x0.2.2,VI .i64 (WR .i64 (x2 - x10)),VI .i64 (WR .i64 ((WR .i64 (x2+x11)) - x10)),VI .i64 x10,Value.func (.func 118) #[] #[]] w fun e4 w3 =>
 e4=.returned (VT #[])/\(
 jnC C2 ((x0.1,x0.2.1,x0.2.2),x2,(),x10,((WR .i64 (x11 - x10))),()) w3)))
 (Calls Tryz.prog 154 #[VS x0.1 x0.2.1 x0.2.2,VI .i64 (WR .i64 (x2 - x10)),VI .i64 x2,VI .i64 x10,Value.func (.func 118) #[] #[]] w fun e6 w5 =>
 e6=.returned (VT #[])/\(
 Q (VT #[]) w5))
def F152s.b2 (Q:QT):(ST×Int×Unit×Int×Int×Unit)->World->((ST×Int×Unit×Int×Int×Unit)->WT)->Prop:=fun s w C2=>∀ _:Nat->Value,F152s.b2c Q C2 s.1 s.2.1 s.2.2.1 s.2.2.2.1 s.2.2.2.2.1 w
def F152s.l2 (Q:QT):(ST×Int×Unit×Int×Int×Unit)->WT:=fun s w=>∃ n,loopC (F152s.b2 Q) n s w
def F152s.vc (x0A:Option Addr) (x0n x0c:Nat) (x1:Int) (x2:Int) (x3:Int) (w:World) (Q:QT):Prop :=
 jnC (F152s.l2 Q) ((x0A,x0n,x0c),x2,(),((WR .i64 (x2 - x1))),((WR .i64 (x3 - x2))),()) w
def F152s.an:Ann:=⟨[(2,[(0,.kSl),(2,.kI .i64),(4,.kF 118),(10,.kI .i64),(11,.kI .i64)])],[]⟩
theorem F152s.of (x0A:Option Addr) (x0n x0c:Nat) (x1:Int) (x2:Int) (x3:Int) (w:World) {Q:QT} (h:F152s.vc x0A x0n x0c x1 x2 x3 w Q):Calls Tryz.prog 152 #[VS x0A x0n x0c,VI .i64 x1,VI .i64 x2,VI .i64 x3,Value.func (.func 118) #[] #[]] w (fun e w'=>∃ v,e=.returned v/\Q v w'):=vcFn_of (A:=F152s.an) noCount mixed h (by kernel_rfl)
def F154s.b1c (Q:QT) (C1:(ST×Int×Int×Int×Int×Unit)->WT) (x0:ST) (x1:Int) (x2:Int) (x3:Int) (x10:Int) (w:World):Prop :=
 vIf (decide (x10 < x3))
 (dr x0.1 fun b1 o2 =>
 gd (decide (0<=(WR .i64 (x2+x10)))) <|
 gd (decide ((WR .i64 (x2+x10)) < (x0.2.1:Int))) <|
 ldA 2 w.drew b1 (o2+((WR .i64 (x2+x10))).toNat * 2) fun a3 =>
 dr x0.1 fun b4 o5 =>
 gd (decide (0<=(WR .i64 (x1+x10)))) <|
 gd (decide ((WR .i64 (x1+x10)) < (x0.2.1:Int))) <|
 ldA 2 w.drew b4 (o5+((WR .i64 (x1+x10))).toNat * 2) fun a6 =>
 dr x0.1 fun b7 o8 =>
 gd (decide (0<=(WR .i64 (x1+x10)))) <|
 gd (decide ((WR .i64 (x1+x10)) < (x0.2.1:Int))) <|
 gd (a3.length == 2) <|
 st w.drew b7 (o8+((WR .i64 (x1+x10))).toNat * 2) a3 fun w9 =>
 dr x0.1 fun b10 o11 =>
 gd (decide (0<=(WR .i64 (x2+x10)))) <|
 gd (decide ((WR .i64 (x2+x10)) < (x0.2.1:Int))) <|
 gd (a6.length == 2) <|
 st w9 b10 (o11+((WR .i64 (x2+x10))).toNat * 2) a6 fun w12 =>
 jnC C1 ((x0.1,x0.2.1,x0.2.2),x1,x2,x3,((WR .i64 (x10+1))),()) w12)
 (Q (VT #[]) w)
def F154s.b1 (Q:QT):(ST×Int×Int×Int×Int×Unit)->World->((ST×Int×Int×Int×Int×Unit)->WT)->Prop:=fun s w C1=>∀ _:Nat->Value,F154s.b1c Q C1 s.1 s.2.1 s.2.2.1 s.2.2.2.1 s.2.2.2.2.1 w
def F154s.l1 (Q:QT):(ST×Int×Int×Int×Int×Unit)->WT:=fun s w=>∃ n,loopC (F154s.b1 Q) n s w
def F154s.vc (x0A:Option Addr) (x0n x0c:Nat) (x1:Int) (x2:Int) (x3:Int) (w:World) (Q:QT):Prop :=
 jnC (F154s.l1 Q) ((x0A,x0n,x0c),x1,x2,x3,(0),()) w
def F154s.an:Ann:=⟨[(1,[(0,.kSl),(1,.kI .i64),(2,.kI .i64),(3,.kI .i64),(10,.kI .i64)])],[]⟩
theorem F154s.of (x0A:Option Addr) (x0n x0c:Nat) (x1:Int) (x2:Int) (x3:Int) (w:World) {Q:QT} (h:F154s.vc x0A x0n x0c x1 x2 x3 w Q):Calls Tryz.prog 154 #[VS x0A x0n x0c,VI .i64 x1,VI .i64 x2,VI .i64 x3,Value.func (.func 118) #[] #[]] w (fun e w'=>∃ v,e=.returned v/\Q v w'):=vcFn_of (A:=F154s.an) noCount mixed h (by kernel_rfl)
def F76.vc (x0:ByteArray) (x1:ByteArray) (w:World) (Q:QT):Prop :=
 Calls Tryz.prog 103 #[VG x0,VG x1] w fun e2 w1 =>
 ∃ t3:Bool,e2=.returned (VB t3)/\(
 Q (VB t3) w1)
def F76.an:Ann:=⟨[],[]⟩
theorem F76.of (x0:ByteArray) (x1:ByteArray) (w:World) {Q:QT} (h:F76.vc x0 x1 w Q):Calls Tryz.prog 76 #[VG x0,VG x1] w (fun e w'=>∃ v,e=.returned v/\Q v w'):=vcFn_of (A:=F76.an) noCount mixed h (by kernel_rfl)
def F103.vc (x0:ByteArray) (x1:ByteArray) (w:World) (Q:QT):Prop :=
 vIf (decide ((x0.size:Int) >= (x1.size:Int)))
 (gd (decide (0<=(x1.size:Int))) <|
 gd (decide ((x1.size:Int)<=((x0.size:Nat):Int))) <|
 Q (VB ((x0.extract 0 ((x1.size:Int)).toNat).toList == x1.toList)) w)
 (Q (VB false) w)
def F103.an:Ann:=⟨[],[]⟩
theorem F103.of (x0:ByteArray) (x1:ByteArray) (w:World) {Q:QT} (h:F103.vc x0 x1 w Q):Calls Tryz.prog 103 #[VG x0,VG x1] w (fun e w'=>∃ v,e=.returned v/\Q v w'):=vcFn_of (A:=F103.an) noCount mixed h (by kernel_rfl)
end Go.Proofs.YtodmachaofepkaaGreatDoor
namespace Go.Proofs.YtodmachaofepkaaGreatDoor
open Go.GV Go.RowKit Go.Lib
def cmpN (a b:ByteArray):Int:=compareBytes a.data.toList b.data.toList
theorem ba_ext {a b:ByteArray} (h:a.data.toList=b.data.toList):a=b:=by
 obtain ⟨⟨x⟩⟩:=a
 obtain ⟨⟨y⟩⟩:=b
 have h:x=y:=h
 rw [h]
theorem neq (a b:ByteArray):(a.toList == b.toList)=decide (a=b):=by
 rw [toList_data,toList_data,Bool.eq_iff_iff,beq_iff_eq,decide_eq_true_iff]
 exact ⟨ba_ext,fun h=>by rw [h]⟩
theorem cmpN_zero (a b:ByteArray):cmpN a b=0 ↔ a=b:=by
 unfold cmpN
 rw [cmp_zero]
 exact ⟨ba_ext,fun h=>by rw [h]⟩
theorem cmpN_self (a:ByteArray):cmpN a a=0:=(cmpN_zero a a).2 rfl
theorem cmpN_anti (a b:ByteArray):cmpN a b = - cmpN b a:=cmp_anti _ _
theorem cmpN_trans {a b c:ByteArray} (h1:cmpN a b < 0) (h2:cmpN b c < 0):cmpN a c < 0:=by
 have h:=cmp_trans a.data.toList b.data.toList c.data.toList (by unfold cmpN at h1; omega) (by unfold cmpN at h2; omega)
 have h:cmpN a c<=0:=h
 by_cases h0:cmpN a c=0
 ·have:=(cmpN_zero a c).1 h0
  subst this
  have:=cmpN_anti a b
  omega
 ·omega
theorem strcmp_calls (a b:ByteArray) (w:World):Calls Tryz.prog 71 #[.string a,.string b] w fun e w'=>e=.returned (.int .i64 (cmpN a b))/\w'=w:=by
 refine (F71.of a b w (Q:=fun v w'=>v=.int .i64 (cmpN a b)/\w'=w) ?_).mono (fun e w' ⟨v,he,hv,h⟩=>⟨by rw [he,hv],h⟩)
 refine (F97.of a b w (Q:=fun v w'=>v=.int .i64 (cmpN a b)/\w'=w) ?_).mono ?_
 ·exact ⟨_,Extern.BytealgCompare.compare,_,_,Tryz.func123,by kernel_rfl,by kernel_rfl,by kernel_rfl,Lib.run_compareString a b w,cmpN a b,rfl,rfl,rfl⟩
 ·rintro e w' ⟨v,rfl,rfl,rfl⟩
  exact ⟨_,rfl,rfl,rfl⟩
end Go.Proofs.YtodmachaofepkaaGreatDoor
namespace Go.Stb
variable {α β:Type}
theorem get_mid {P R:List α} {x:α} {i:Nat} (hi:i=P.length):(P ++ x :: R)[i]?=some x:=by subst hi; simp
theorem set_mid {P R:List α} {x y:α} {i:Nat} (hi:i=P.length):(P ++ x :: R).set i y=P ++ y :: R:=by subst hi; simp
structure OrdC (cmp:β->β->Int):Prop where
 anti:∀ a b,cmp a b = - cmp b a
 trans:∀ a b c,cmp a b<=0->cmp b c<=0->cmp a c<=0
section
variable {cmp:β->β->Int}
def lt (cmp:β->β->Int) (x y:β×Nat):Prop:=cmp x.1 y.1 < 0\/(cmp x.1 y.1=0/\x.2 < y.2)
def Sorted (cmp:β->β->Int) (l:List (β×Nat)):Prop:=l.Pairwise (lt cmp)
def bef (x y:β×Nat):Prop:=x.2 < y.2
theorem OrdC.lt_le (h:OrdC cmp) {a b c:β} (h1:cmp a b < 0) (h2:cmp b c<=0):cmp a c < 0:=by
 have h3:=h.trans a b c (by omega) h2
 by_cases h0:cmp a c=0
 ·have h4:=h.anti c a
  have h5:=h.trans b c a h2 (by omega)
  have h6:=h.anti a b
  omega
 ·omega
theorem OrdC.le_lt (h:OrdC cmp) {a b c:β} (h1:cmp a b<=0) (h2:cmp b c < 0):cmp a c < 0:=by
 have h3:=h.trans a b c h1 (by omega)
 by_cases h0:cmp a c=0
 ·have h4:=h.anti c a
  have h5:=h.trans c a b (by omega) h1
  have h6:=h.anti b c
  omega
 ·omega
theorem lt_trans (h:OrdC cmp) {x y z:β×Nat} (h1:lt cmp x y) (h2:lt cmp y z):lt cmp x z:=by
 rcases h1 with h1 | ⟨h1,h1'⟩ <;> rcases h2 with h2 | ⟨h2,h2'⟩
 ·exact .inl (h.lt_le h1 (by omega))
 ·exact .inl (h.lt_le h1 (by omega))
 ·exact .inl (h.le_lt (by omega) h2)
 ·have h3:=h.trans x.1 y.1 z.1 (by omega) (by omega)
  have h4:=h.trans z.1 y.1 x.1 (by have:=h.anti z.1 y.1; omega) (by have:=h.anti y.1 x.1; omega)
  have h5:=h.anti x.1 z.1
  exact .inr ⟨by omega,by omega⟩
theorem lt_asymm (h:OrdC cmp) {x y:β×Nat} (h1:lt cmp x y) (h2:lt cmp y x):False:=by
 have h3:=h.anti x.1 y.1
 rcases h1 with h1 | ⟨h1,h1'⟩ <;> rcases h2 with h2 | ⟨h2,h2'⟩ <;> omega
theorem bef_yes (h:OrdC cmp) {x y:β×Nat} (hb:bef x y) (hc:cmp y.1 x.1 < 0):lt cmp y x:=.inl hc
theorem bef_no (h:OrdC cmp) {x y:β×Nat} (hb:bef x y) (hc:¬ cmp y.1 x.1 < 0):lt cmp x y:=by
 have h3:=h.anti x.1 y.1
 have hb:x.2 < y.2:=hb
 by_cases h0:cmp x.1 y.1=0
 ·exact .inr ⟨h0,hb⟩
 ·exact .inl (by omega)
theorem sorted_get (h:OrdC cmp) {l:List (β×Nat)} (hs:Sorted cmp l) {i j:Nat} {x y:β×Nat} (hi:l[i]?=some x) (hj:l[j]?=some y) (hij:i < j):lt cmp x y:=by
 obtain ⟨h1,rfl⟩:=List.getElem?_eq_some_iff.1 hi
 obtain ⟨h2,rfl⟩:=List.getElem?_eq_some_iff.1 hj
 exact (List.pairwise_iff_getElem.1 hs) i j h1 h2 hij
theorem sorted_app {A B:List (β×Nat)} (hA:Sorted cmp A) (hB:Sorted cmp B) (hAB:∀ x ∈ A,∀ y ∈ B,lt cmp x y):Sorted cmp (A ++ B):=List.pairwise_append.2 ⟨hA,hB,hAB⟩
theorem sorted_of_app {A B:List (β×Nat)} (h:Sorted cmp (A ++ B)):Sorted cmp A/\Sorted cmp B/\∀ x ∈ A,∀ y ∈ B,lt cmp x y:=List.pairwise_append.1 h
theorem sorted_unique (h:OrdC cmp):∀ {a b:List (β×Nat)},Sorted cmp a->Sorted cmp b->a.Perm b->a=b
 | [],b,_,_,hp=>by rw [List.nil_perm.1 hp]
 | x :: a,[],_,_,hp=>by have:=hp.length_eq; simp at this
 | x :: a,y :: b,ha,hb,hp=>by
  have hca:=List.pairwise_cons.1 ha
  have hcb:=List.pairwise_cons.1 hb
  have hxy:x=y:=by
   rcases List.mem_cons.1 (hp.mem_iff.1 (List.mem_cons_self (a:=x) (l:=a))) with h1 | h1
   ·exact h1
   ·rcases List.mem_cons.1 (hp.mem_iff.2 (List.mem_cons_self (a:=y) (l:=b))) with h2 | h2
    ·exact h2.symm
    ·exact (lt_asymm h (hcb.1 x h1) (hca.1 y h2)).elim
  subst hxy
  rw [sorted_unique h hca.2 hcb.2 ((List.perm_cons x).1 hp)]
def ins (cmp:β->β->Int) (x:β):List β->List β
 | []=>[x]
 | y :: r=>if cmp x y < 0 then x :: y :: r else y :: ins cmp x r
def stab (cmp:β->β->Int) (l:List β):List β:=l.foldl (fun a x=>ins cmp x a) []
theorem stab_snoc (l:List β) (x:β):stab cmp (l ++ [x])=ins cmp x (stab cmp l):=by unfold stab; rw [List.foldl_append]; rfl
def insT (cmp:β->β->Int) (x:β×Nat):List (β×Nat)->List (β×Nat)
 | []=>[x]
 | y :: r=>if cmp x.1 y.1 < 0 then x :: y :: r else y :: insT cmp x r
theorem insT_fst (x:β×Nat):∀ l:List (β×Nat),(insT cmp x l).map (·.1)=ins cmp x.1 (l.map (·.1))
 | []=>rfl
 | y :: r=>by
  unfold insT ins
  rw [List.map_cons]
  show _=(if cmp x.1 y.1 < 0 then _ else _)
  split
  ·rfl
  ·rw [List.map_cons,insT_fst x r]
theorem insT_perm (x:β×Nat):∀ l:List (β×Nat),(insT cmp x l).Perm (x :: l)
 | []=>List.Perm.refl _
 | y :: r=>by
  unfold insT
  split
  ·exact List.Perm.refl _
  ·exact ((insT_perm x r).cons y).trans (List.Perm.swap x y r)
theorem insT_sorted (h:OrdC cmp) (x:β×Nat):∀ l:List (β×Nat),Sorted cmp l->(∀ y ∈ l,bef y x)->Sorted cmp (insT cmp x l)
 | [],_,_=>List.pairwise_singleton _ _
 | y :: r,hs,hb=>by
  have hc:=List.pairwise_cons.1 hs
  unfold insT
  by_cases h1:cmp x.1 y.1 < 0
  ·rw [if_pos h1]
   refine List.pairwise_cons.2 ⟨fun z hz=>?_,hs⟩
   rcases List.mem_cons.1 hz with rfl | hz
   ·exact .inl h1
   ·exact lt_trans h (.inl h1) (hc.1 z hz)
  ·rw [if_neg h1]
   refine List.pairwise_cons.2 ⟨fun z hz=>?_,insT_sorted h x r hc.2 (fun z hz=>hb z (List.mem_cons_of_mem _ hz))⟩
   rcases List.mem_cons.1 ((insT_perm x r).mem_iff.1 hz) with rfl | hz
   ·exact bef_no h (hb y (List.mem_cons_self ..)) h1
   ·exact hc.1 z hz
def tagL (l:List β):List (β×Nat):=l.zipIdx
theorem tagL_fst (l:List β):(tagL l).map (·.1)=l:=by simp [tagL]
theorem tagL_snoc (l:List β) (x:β):tagL (l ++ [x])=tagL l ++ [(x,l.length)]:=by simp [tagL,List.zipIdx_append]
theorem tagL_lt {l:List β} {x:β×Nat} (h:x ∈ tagL l):x.2 < l.length:=by
 have:=List.snd_lt_of_mem_zipIdx h
 simpa using this
theorem snoc_ind {P:List β->Prop} (h0:P []) (h1:∀ l x,P l->P (l ++ [x])) (l:List β):P l:=by
 have:∀ n (l:List β),l.length=n->P l:=by
  intro n
  induction n with
  | zero=>intro l hl; rw [List.length_eq_zero_iff.1 hl]; exact h0
  | succ n ih =>
   intro l hl
   have hne:l ≠ []:=by intro h; rw [h] at hl; cases hl
   rw [<- List.dropLast_concat_getLast hne]
   exact h1 _ _ (ih _ (by simp [hl]))
 exact this _ l rfl
theorem stab_spec (h:OrdC cmp) (l:List β):∃ m,Sorted cmp m/\m.Perm (tagL l)/\m.map (·.1)=stab cmp l:=by
 refine snoc_ind (P:=fun l=>∃ m,Sorted cmp m/\m.Perm (tagL l)/\m.map (·.1)=stab cmp l) ⟨[],List.Pairwise.nil,List.Perm.refl _,rfl⟩ (fun l x ⟨m,h1,h2,h3⟩=>?_) l
 refine ⟨insT cmp (x,l.length) m,insT_sorted h _ m h1 (fun y hy=>tagL_lt (h2.mem_iff.1 hy)),?_,?_⟩
 ·rw [tagL_snoc]
  exact (insT_perm _ m).trans ((h2.cons _).trans (List.perm_append_singleton _ _).symm)
 ·rw [insT_fst,h3,stab_snoc]
theorem stab_of (h:OrdC cmp) {l:List β} {m:List (β×Nat)} (hs:Sorted cmp m) (hp:m.Perm (tagL l)):m.map (·.1)=stab cmp l:=by
 obtain ⟨m',h1,h2,h3⟩:=stab_spec h l
 rw [sorted_unique h hs h1 (hp.trans h2.symm),h3]
theorem ins_perm (x:β):∀ l:List β,(ins cmp x l).Perm (x :: l)
 | []=>List.Perm.refl _
 | y :: r=>by
  unfold ins
  split
  ·exact List.Perm.refl _
  ·exact ((ins_perm x r).cons y).trans (List.Perm.swap x y r)
theorem stab_perm (l:List β):(stab cmp l).Perm l :=
 snoc_ind (P:=fun l=>(stab cmp l).Perm l) (List.Perm.refl _) (fun l x ih=>by rw [stab_snoc]; exact (ins_perm x _).trans ((ih.cons x).trans (List.perm_append_singleton _ _).symm)) l
theorem stab_len (l:List β):(stab cmp l).length=l.length:=(stab_perm l).length_eq
def befC (c d:List (β×Nat)):Prop:=∀ x ∈ c,∀ y ∈ d,bef x y
theorem befC_merge {Ds R:List (List (β×Nat))} {c d m:List (β×Nat)} (h:(Ds ++ c :: d :: R).Pairwise befC) (hm:m.Perm (c ++ d)):(Ds ++ m :: R).Pairwise befC:=by
 have h:=List.pairwise_append.1 h
 have hc:=List.pairwise_cons.1 h.2.1
 have hd:=List.pairwise_cons.1 hc.2
 refine List.pairwise_append.2 ⟨h.1,List.pairwise_cons.2 ⟨fun r hr x hx y hy=>?_,hd.2⟩,fun e he r hr x hx y hy=>?_⟩
 ·rcases List.mem_append.1 (hm.mem_iff.1 hx) with hx | hx
  ·exact hc.1 r (List.mem_cons_of_mem _ hr) x hx y hy
  ·exact hd.1 r hr x hx y hy
 ·rcases List.mem_cons.1 hr with rfl | hr
  ·rcases List.mem_append.1 (hm.mem_iff.1 hy) with hy | hy
   ·exact h.2.2 e he c (List.mem_cons_self ..) x hx y hy
   ·exact h.2.2 e he d (List.mem_cons_of_mem _ (List.mem_cons_self ..)) x hx y hy
  ·exact h.2.2 e he r (List.mem_cons_of_mem _ (List.mem_cons_of_mem _ hr)) x hx y hy
theorem befC_two {Ds R:List (List (β×Nat))} {c d:List (β×Nat)} (h:(Ds ++ c :: d :: R).Pairwise befC):befC c d:=by
 have h:=List.pairwise_append.1 h
 exact (List.pairwise_cons.1 h.2.1).1 d (List.mem_cons_self ..)
theorem flat_len {k:Nat}:∀ {Fs:List (List (β×Nat))},(∀ f ∈ Fs,f.length=k)->Fs.flatten.length=Fs.length * k
 | [],_=>by simp
 | f :: r,h=>by
  rw [List.flatten_cons,List.length_append,h f (List.mem_cons_self ..),flat_len (fun g hg=>h g (List.mem_cons_of_mem _ hg)),List.length_cons,Nat.add_mul]; omega
end
end Go.Stb
namespace Go.Proofs.YtodmachaofepkaaGreatDoor
open Go.GV Go.RowKit Go.Lib
theorem ei (i:Nat) (h:i < 1099511627776):IntKind.wrap .i64 ((i:Int)+1)=((i+1:Nat):Int):=by rw [i64_id (by omega) (by omega)]; rfl
theorem row_low {u:World} {B B':Nat} {e:TypeId} {sz:Nat} {A:Option Addr} {k c:Nat} {vs:List Value} (hB:B'<=B) (hr:Row u B e sz A k c vs):Row u B' e sz A k c vs:=by
 refine ⟨hr.len,hr.le,?_⟩
 rcases hr.at_ with h' | ⟨b',cs',q1,q2,q3⟩
 ·exact .inl h'
 ·exact .inr ⟨b',cs',q1,by omega,q3⟩
end Go.Proofs.YtodmachaofepkaaGreatDoor
namespace Go.Proofs.YtodmachaofepkaaGreatDoor.InsNm
open Go.GV Go.RowKit
section
variable {β:Type} {enc:β->List Value}
theorem src_rec {w:World} {b:Nat} {e:TypeId} {cs:List Value} {sz:Nat} (h:RecAt w b e cs) (hl:cs.length=sz):srcOf w sz (.slice (some ⟨b,0,none⟩) 1 1) 1 cs :=
 ⟨rfl,by omega,fun _=>dr_mk (h.cells (o:=0) (fun j v hj=>by simpa using hj))⟩
set_option maxHeartbeats 1000000 in
theorem insert_calls (h0:EncO β enc 2) (B:Nat) (A:Option Addr) (n c i:Nat) (l:List β) (x:β) (bv:Nat) (w:World) (h:Row w B 80 2 A n c (flt enc l)) (hl:l.length=n) (hi:i<=n) (hv:RecAt w bv 80 (enc x)) (hA:blkOf A ≠ some bv) (hB:B<=w.heap.size) (hn:n<=1073741824) :
  Calls Tryz.prog 138 #[.slice A n c,.int .i64 (i:Nat),.slice (some ⟨bv,0,none⟩) 1 1] w fun e w'=>∃ A' c',e=.returned (.slice A' (n+1) c')/\Fr (fun k=>blkOf A=some k) w w'/\Row w' B 80 2 A' (n+1) c' (flt enc (l.take i ++ x :: l.drop i))/\∀ k,blkOf A'=some k->blkOf A=some k\/w.heap.size<=k:=by
 refine (F138.of A n c _ (some ⟨bv,0,none⟩) 1 1 w (Q:=fun v w'=>∃ A' c',v=.slice A' (n+1) c'/\Fr (fun k=>blkOf A=some k) w w'/\Row w' B 80 2 A' (n+1) c' (flt enc (l.take i ++ x :: l.drop i))/\∀ k,blkOf A'=some k->blkOf A=some k\/w.heap.size<=k) ?_).mono (fun e w' ⟨v,he,A',c',hv,h⟩=>⟨A',c',by rw [he,hv],h⟩)
 have hle:=h.le
 have hx:=h0.len x
 have hfl:=h0.fl l
 have hsx:=src_rec hv hx
 have ox:=h0.one x
 have htx:(enc x).take 2=enc x:=by rw [<- hx,List.take_length]
 have hlT:(flt enc (l.take i)).length=i * 2:=by rw [h0.fl,List.length_take,hl,Nat.min_eq_left hi]
 have hlD:(flt enc (l.drop i)).length=(n - i) * 2:=by rw [h0.fl,List.length_drop,hl]
 have fin:flt enc (l.take i ++ x :: l.drop i)=flt enc (l.take i) ++ enc x ++ flt enc (l.drop i):=by rw [flt_app,flt_cons,List.append_assoc]
 rw [fin]
 clear fin
 refine gd_mk (decide_eq_true (by omega)) (gd_mk (decide_eq_true (by omega)) (vIf_f rfl (vIf_mk (fun he=>?_) (fun hne=>?_))))
 ·have he:(i:Int)=(n:Int):=by simpa using he
  have he:i=n:=by omega
  subst he
  have ht:l.take i=l:=List.take_of_length_le (by omega)
  have hd:l.drop i=[]:=List.drop_of_length_le (by omega)
  refine app_row2 (us:=enc x) (m:=1) h hsx ox rfl (by omega) (by omega) hB (fun A' c' w' hr' f' hb'=>⟨A',c',rfl,f',?_,hb'⟩)
  rw [ht,hd,flt_nil,List.append_nil]
  exact hr'
 have hne:i ≠ n:=fun h=>by subst h; simp at hne
 obtain ⟨b,hb⟩:∃ b,A=some ⟨b,0,none⟩:=by
  rcases h.at_ with ⟨_,h0,_⟩ | ⟨b,_,hA,_⟩
  ·omega
  ·exact ⟨b,hA⟩
 subst hb
 have hbb:b ≠ bv:=fun h=>hA (by rw [h]; rfl)
 have en:IntKind.wrap .i64 ((n:Int)+((1:Nat):Int))=((n+1:Nat):Int):=by rw [i64_id (by omega) (by omega)]; rfl
 have ei:IntKind.wrap .i64 ((i:Int)+((1:Nat):Int))=((i+1:Nat):Int):=by rw [i64_id (by omega) (by omega)]; rfl
 have ed:IntKind.wrap .i64 (((n+1:Nat):Int) - (i:Int))=((n+1 - i:Nat):Int):=by rw [i64_id (by omega) (by omega)]; omega
 have h00:slA (some (⟨b,0,none⟩:Addr)) c 0 2=some ⟨b,0,none⟩:=sl0 _ _ _
 simp only [en,ei,ed,h00,Int.toNat_natCast]
 refine vIf_mk (fun hgt=>?_) (fun hng=>?_)
 ·have hgt:c < n+1:=by have:=of_decide_eq_true hgt; omega
  refine gd_mk (decide_eq_true (by omega)) (gd_mk (decide_eq_true (by omega)) ?_)
  have hnm:i+(n+1 - i)=n+1:=by omega
  refine appZ_new (m:=n+1 - i) (old:=flt enc (l.take i)) (B:=B) (by rw [<- h0.ft l (by omega)]; exact h.sl.headS (by omega)) (by rw [i64_id (by omega) (by omega)]) (by omega) (by intro v hv; repeat (first | (cases hv; done) | (rcases List.mem_cons.1 hv with rfl | hv; · rfl))) rfl (by omega) (by omega) (by omega) hB (fun b5 c5 w5 hb5 hr5 f5=>?_)
  rw [hnm] at hr5 ⊢
  have hzl:(zeros (n+1 - i) ([.string (⟨#[]⟩:ByteArray),.int .i64 0]:List Value)).length=(n+1 - i) * 2:=by rw [zeros_length]; rfl
  refine gd_mk (decide_eq_true (by omega)) (gd_mk (decide_eq_true (by omega)) ?_)
  refine cpy_row hr5 (src_rec (hv.fr f5 (fun h=>h)) hx) (by omega) (by omega) (by rw [Nat.min_eq_left (by omega),Nat.one_mul,htx]; exact ox) (fun w6 hr6 f6=>?_)
  rw [Nat.min_eq_left (by omega),Nat.one_mul,htx,splice_at hlT] at hr6
  refine gd_mk (decide_eq_true (by omega)) (gd_mk (decide_eq_true (by omega)) (gd_mk (decide_eq_true (by omega)) (gd_mk (decide_eq_true (by omega)) ?_)))
  have hsD:=h.tailS (k:=i) (by omega)
  rw [h0.fd l (by omega)] at hsD
  have hbl:=(h.blt (b:=b) rfl).2
  have f56:Fr (fun k=>b5=k) w w6:=(f5.mono (fun _ _ h=>h.elim)).trans1 (f6.mono (fun k _ h=>by simpa [blkOf] using h))
  have f7:=f56.trans1 (Fr.drew _ _)
  have hsD7:=f7.sl hsD (fun _ k hk h=>by rw [sl_blk] at hk; injection hk with hk; omega)
  refine cpy_row ((Fr.drew (fun _=>False) w6).row hr6 (fun _ _ h=>h)) hsD7.src (by rw [hlD]) (by omega) (by intro v hv; exact h0.fo _ v (List.mem_of_mem_take hv)) (fun w8 hr8 f8=>⟨_,_,rfl,?_,?_,fun k hk=>.inr (by simp [blkOf] at hk; omega)⟩)
  ·exact (f7.trans1 (f8.mono (fun k _ h=>by simpa [blkOf] using h))).mono (fun k hk h=>by omega)
  ·have hD:(flt enc (l.drop i)).take (min (n - i) (n+1 - (i+1)) * 2)=flt enc (l.drop i):=List.take_of_length_le (by rw [hlD,show min (n - i) (n+1 - (i+1))=n - i by omega]; exact Nat.le_refl _)
   have hd0:((zeros (n+1 - i) ([.string (⟨#[]⟩:ByteArray),.int .i64 0]:List Value)).drop (enc x).length).drop (flt enc (l.drop i)).length=[]:=List.drop_of_length_le (by rw [List.length_drop,hzl,hx,hlD]; omega)
   rw [hD,splice_at (by rw [List.length_append,hlT,hx]; omega),hd0,List.append_nil] at hr8
   exact hr8
 ·have hng:n+1<=c:=by have:=of_decide_eq_false hng; omega
  have hs1:slA (some (⟨b,0,none⟩:Addr)) c (i+1) 2=some ⟨b,(i+1) * 2,none⟩:=slS (by omega)
  refine gd_mk (decide_eq_true (by omega)) (gd_mk (decide_eq_true (by omega)) (gd_mk (decide_eq_true (by omega)) (gd_mk (decide_eq_true (by omega)) ?_)))
  obtain ⟨cs,hcs,hcl⟩:∃ cs,w.heap[b]?=some (.cells cs 80 (0,0))/\cs.size=c * 2:=by
   rcases h.at_ with ⟨h1,_⟩ | ⟨b',cs,hA',_,hh,hs,_⟩
   ·cases h1
   ·cases hA'; exact ⟨cs,hh,hs⟩
  have hov:∀ K:Value->World->Prop,K (.bool false) w->extC Tryz.prog 148 #[Value.slice (some ⟨bv,0,none⟩) 1 1,Value.slice (slA (some (⟨b,0,none⟩:Addr)) c (i+1) 2) (n+1 - (i+1)) (c - (i+1))] w K:=by
   intro K hK
   rw [hs1]
   exact overlaps_ext (tS:=71) (tR:=4) (e:=80) Tryz.func148 (by kernel_rfl) (by kernel_rfl) (by kernel_rfl) (by kernel_rfl) (size:=2) (by decide) (by kernel_rfl) hv hcs (fun h=>hbb h.symm) (by omega) hK
  refine hov _ ⟨false,rfl,vIf_t rfl ?_⟩
  refine gd_mk (decide_eq_true (by omega)) (gd_mk (decide_eq_true (by omega)) (gd_mk (decide_eq_true (by omega)) (gd_mk (decide_eq_true (by omega)) ?_)))
  have hwd:=(Fr.drew (fun _=>False) w).row h (fun _ _ h=>h)
  obtain ⟨us,hul,hE⟩:=row_ext hwd (k:=1) (by omega)
  have hsE:=hE.tailS (k:=i) (by omega)
  have hEl:(flt enc l ++ us).length=(n+1) * 2:=hE.len
  have hmin:min (n+1 - i) (n+1 - (i+1))=n - i:=by omega
  have hdi:(flt enc l ++ us).drop (i * 2)=flt enc (l.drop i) ++ us:=by rw [List.drop_append_of_le_length (by rw [hfl]; omega),h0.fd l (by omega)]
  rw [hdi] at hsE
  have htk:(flt enc (l.drop i) ++ us).take ((n - i) * 2)=flt enc (l.drop i):=by rw [<- hlD,List.take_left]
  refine cpy_row hE hsE.src (by rw [List.length_append,hlD,hul]; omega) (by omega) (by rw [hmin,htk]; exact h0.fo _) (fun w5 hr5 f5=>?_)
  rw [hmin,htk] at hr5
  have hsp:splice (flt enc l ++ us) ((i+1) * 2) (flt enc (l.drop i))=flt enc (l.take (i+1)) ++ flt enc (l.drop i):=by
   have e1:flt enc l ++ us=flt enc (l.take (i+1)) ++ (flt enc (l.drop (i+1)) ++ us):=by rw [<- List.append_assoc,<- flt_app,List.take_append_drop]
   have hd0:(flt enc (l.drop (i+1)) ++ us).drop (flt enc (l.drop i)).length=[]:=List.drop_of_length_le (by rw [List.length_append,h0.fl,List.length_drop,hl,hul,hlD]; omega)
   rw [e1,splice_at (by rw [h0.fl,List.length_take,hl,Nat.min_eq_left (by omega)]),hd0,List.append_nil]
  rw [hsp] at hr5
  have f5:Fr (fun k=>b=k) w w5:=((Fr.drew (fun k=>b=k) w).trans1 (f5.mono (fun k _ h=>by simpa [blkOf] using h)))
  refine gd_mk (decide_eq_true (by omega)) (gd_mk (decide_eq_true (by omega)) ?_)
  refine cpy_row hr5 (src_rec (hv.fr f5 (fun h=>hbb h)) hx) (by omega) (by omega) (by rw [Nat.min_eq_left (by omega),Nat.one_mul,htx]; exact ox) (fun w6 hr6 f6=>⟨_,_,rfl,?_,?_,fun k hk=>.inl hk⟩)
  ·exact (f5.trans1 (f6.mono (fun k _ h=>by simpa [blkOf] using h))).mono (fun k _ h=>by rw [h]; rfl)
  ·rw [Nat.min_eq_left (by omega),Nat.one_mul,htx] at hr6
   have e2:l.take (i+1)=l.take i ++ [l[i]'(by omega)]:=by rw [List.take_add_one,List.getElem?_eq_getElem (by omega)]; rfl
   rw [e2,flt_app,flt_one,List.append_assoc,splice_at hlT,hx,List.drop_left' (h0.len _)] at hr6
   exact hr6
end
end Go.Proofs.YtodmachaofepkaaGreatDoor.InsNm
namespace Go.Proofs.YtodmachaofepkaaGreatDoor.DelNm
open Go.GV Go.RowKit
section
variable {β:Type} {enc:β->List Value}
set_option maxHeartbeats 1000000 in
theorem delete_calls (h0:EncO β enc 2) (B:Nat) (A:Option Addr) (n c i:Nat) (l:List β) (w:World) (h:Row w B 80 2 A n c (flt enc l)) (hl:l.length=n) (hi:i < n) (hn:n<=1073741824) {j:Int} (hj:j=((i+1:Nat):Int)) :
  Calls Tryz.prog 139 #[.slice A n c,.int .i64 (i:Nat),.int .i64 j] w fun e w'=>e=.returned (.slice A (n - 1) c)/\Fr (fun k=>blkOf A=some k) w w'/\Row w' B 80 2 A (n - 1) c (flt enc (l.take i ++ l.drop (i+1))):=by
 subst hj
 refine (F139.of A n c _ _ w (Q:=fun v w'=>v=.slice A (n - 1) c/\Fr (fun k=>blkOf A=some k) w w'/\Row w' B 80 2 A (n - 1) c (flt enc (l.take i ++ l.drop (i+1)))) ?_).mono (fun e w' ⟨v,he,hv,h⟩=>⟨by rw [he,hv],h⟩)
 have hle:=h.le
 have hfl:=h0.fl l
 obtain ⟨b,hb⟩:∃ b,A=some ⟨b,0,none⟩:=by
  rcases h.at_ with ⟨_,h0,_⟩ | ⟨b,_,hA,_⟩
  ·omega
  ·exact ⟨b,hA⟩
 subst hb
 have h00:slA (some (⟨b,0,none⟩:Addr)) c 0 2=some ⟨b,0,none⟩:=sl0 _ _ _
 refine gd_mk (decide_eq_true (by omega)) (gd_mk (decide_eq_true (by omega)) (gd_mk (decide_eq_true (by omega)) (gd_mk (decide_eq_true (by omega)) (gd_mk (decide_eq_true (by omega)) (gd_mk (decide_eq_true (by omega)) (vIf_f (by simp; omega) ?_))))))
 refine gd_mk (decide_eq_true (by omega)) (gd_mk (decide_eq_true (by omega)) (gd_mk (decide_eq_true (by omega)) (gd_mk (decide_eq_true (by omega)) ?_)))
 simp only [h00,Int.toNat_natCast]
 have hwd:=(Fr.drew (fun _=>False) w).row h (fun _ _ h=>h)
 have hcut:=row_cutG hwd (k:=i) (by omega)
 have hsD:=hwd.tailS (k:=i+1) (by omega)
 rw [h0.fd l (by omega)] at hsD
 rw [h0.ft l (by omega)] at hcut
 have hnm:i+(n - (i+1))=n - 1:=by omega
 refine app_in hcut hsD.src (by rw [h0.fl,List.length_drop,hl]) (h0.fo _) (by omega) (by omega) (by omega) (fun w5 hr5 f5=>?_)
 rw [hnm] at hr5 ⊢
 rw [<- flt_app] at hr5
 refine gd_mk (decide_eq_true (by omega)) (gd_mk (decide_eq_true (by omega)) (gd_mk (decide_eq_true (by omega)) (gd_mk (decide_eq_true (by omega)) (vIf_f (by simp; omega) ?_))))
 have hs1:slA (some (⟨b,0,none⟩:Addr)) c (n - 1) 2=some ⟨b,(n - 1) * 2,none⟩:=slS (by omega)
 simp only [Int.toNat_natCast]
 rw [hs1,show n - (n - 1)=1 by omega]
 obtain ⟨us,hul,hE⟩:=row_ext hr5 (k:=1) (by omega)
 have hpl:(flt enc (l.take i ++ l.drop (i+1))).length=(n - 1) * 2:=hr5.len
 rw [show n - 1+1=n by omega] at hE
 have hpt:=row_putG (o':=(n - 1) * 2) (us:=zeros 1 ([.string (⟨#[]⟩:ByteArray),.int .i64 0]:List Value)) (K:=fun w'=>True/\Fr (fun k=>blkOf (some (⟨b,0,none⟩:Addr))=some k) w w'/\Row w' B 80 2 (some ⟨b,0,none⟩) (n - 1) c (flt enc (l.take i ++ l.drop (i+1)))) hE (by omega) (by rw [zeros_length]; show (n - 1) * 2+1 * 2<=_; rw [<- Nat.add_mul]; exact Nat.mul_le_mul_right _ (by omega)) (zeros_one (by intro v hv; repeat (first | (cases hv; done) | (rcases List.mem_cons.1 hv with rfl | hv; · rfl)))) (fun w6 hr6 f6=>⟨trivial,((Fr.drew _ w).trans1 f5).trans1 f6,?_⟩)
 ·rw [<- Nat.zero_add ((n - 1) * 2)]
  exact hpt
 ·have h7:=row_cutG hr6 (k:=n - 1) (by omega)
  rw [splice_at hpl,List.append_assoc,<- hpl,List.take_left] at h7
  exact h7
end
end Go.Proofs.YtodmachaofepkaaGreatDoor.DelNm
namespace Go.Proofs.YtodmachaofepkaaGreatDoor.ClnNm
open Go.GV Go.RowKit
theorem clone_calls (A:Option Addr) (n c:Nat) (vs:List Value) (w:World) (h:Sl w 2 A n vs) (ho:∀ v ∈ vs,v.oneCell'=true) (hn:n<=1073741824) :
  Calls Tryz.prog 116 #[.slice A n c] w fun e w'=>Fr (fun _=>False) w w'/\∃ A' c',e=.returned (.slice A' n c')/\Row w' w.heap.size 80 2 A' n c' vs:=by
 refine (F116.of A n c w (Q:=fun v w'=>Fr (fun _=>False) w w'/\∃ A' c',v=.slice A' n c'/\Row w' w.heap.size 80 2 A' n c' vs) ?_).mono (fun e w' ⟨v,he,hf,A',c',hv,h⟩=>⟨hf,A',c',by rw [he,hv],h⟩)
 refine vIf_mk (fun h0=>?_) (fun h0=>nw_mk ?_)
 ·have:n=0:=by
   refine Classical.byContradiction fun hn0=>?_
   obtain ⟨b,o,hA,_⟩:=h.2 hn0
   rw [hA] at h0; cases h0
  subst this
  have:vs=[]:=List.length_eq_zero_iff.1 (by have:=h.1; omega)
  subst this
  exact ⟨Fr.refl _ _,none,0,rfl,Row.nil _ _ _ _⟩
 ·have f1:Fr (fun _=>False) w (w.alloc (.cells ([]:List Value).toArray 80)):=Fr.alloc _ _ _
  have r1:Row (w.alloc (.cells ([]:List Value).toArray 80)) w.heap.size 80 2 (some ⟨w.heap.size,0,none⟩) 0 0 []:=Row.new (Nat.le_refl _) rfl
  have hs:(w.alloc (.cells ([]:List Value).toArray 80)).heap.size=w.heap.size+1:=alloc_size _ _
  generalize w.alloc (.cells ([]:List Value).toArray 80)=w1 at f1 r1 hs ⊢
  refine app_row r1 (f1.sl h (fun _ _ _ h=>h)).src ho rfl (by omega) (by omega) (by omega) (fun A' c' w' hr' f'=>⟨?_,A',c',?_,?_⟩)
  ·exact f1.trans f' (fun _ _ h=>h) (fun k hk h'=>by simp only [blkOf,Option.some.injEq] at h'; omega)
  ·rw [Nat.zero_add]
  ·rw [Nat.zero_add,List.nil_append] at hr'; exact hr'
end Go.Proofs.YtodmachaofepkaaGreatDoor.ClnNm
namespace Go.Proofs.YtodmachaofepkaaGreatDoor.StbNm
open Go.GV Go.RowKit Go.Stb
structure Srt (β:Type) (enc:β->List Value) (cmp:β->β->Int):Prop where
 len:∀ x,(enc x).length=2
 one:∀ x,∀ v ∈ enc x,v.oneCell'=true
 ord:OrdC cmp
 call:∀ x y w,Calls Tryz.prog 118 #[ofL (enc x),ofL (enc y)] w fun e w'=>e=.returned (.int .i64 (cmp x y))/\Fr (fun _=>False) w w'
def cf:Value:=.func (.func 118) #[] #[]
section
variable {β:Type} {enc:β->List Value} {cmp:β->β->Int}
abbrev encT (enc:β->List Value):β×Nat->List Value:=fun x=>enc x.1
theorem Srt.lenT (h:Srt β enc cmp) {l:List (β×Nat)}:∀ x ∈ l,(encT enc x).length=2:=fun x _=>h.len x.1
def RS (enc:β->List Value) (w:World) (B:Nat) (A:Option Addr) (n c:Nat) (l:List (β×Nat)):Prop:=Row w B 80 2 A n c (flt (encT enc) l)/\l.length=n
theorem RS.fr0 {w w':World} {B:Nat} {A:Option Addr} {n c:Nat} {l:List (β×Nat)} (h:RS enc w B A n c l) (f:Fr (fun _=>False) w w'):RS enc w' B A n c l:=⟨f.row h.1 (fun _ _ h=>h),h.2⟩
theorem RS.drew {w:World} {B:Nat} {A:Option Addr} {n c:Nat} {l:List (β×Nat)} (h:RS enc w B A n c l):RS enc w.drew B A n c l:=h.fr0 (Fr.drew _ _)
theorem rs_rd (h0:Srt β enc cmp) {w:World} {B:Nat} {A:Option Addr} {n c:Nat} {l:List (β×Nat)} (h:RS enc w B A n c l) {i:Nat} {x:β×Nat} (hi:l[i]?=some x) {ii:Int} (hii:ii=(i:Int)) {K:List Value->Prop} (hK:K (enc x.1)) :
  dr A fun b o=>gd (decide (0<=ii)) (gd (decide (ii < ((n:Nat):Int))) (ldA 2 w b (o+ii.toNat * 2) K)) :=
 el_rd h.1.sl h0.lenT hi hii h.2 (fun b o hA hc=>⟨enc x.1,h0.len x.1,hc,hK⟩)
theorem rs_swap (h0:Srt β enc cmp) {w:World} {B:Nat} {A:Option Addr} {n c:Nat} {l:List (β×Nat)} (h:RS enc w B A n c l) {i j:Nat} {x y:β×Nat} (hi:i < n) (hj:j < n) {ii jj:Int} (hii:ii=(i:Int)) (hjj:jj=(j:Int)) {K:World->Prop}
  (hK:∀ w',RS enc w' B A n c ((l.set i y).set j x)->Fr (fun k=>blkOf A=some k) w w'->K w') :
  dr A fun b o=>gd (decide (0<=ii)) (gd (decide (ii < ((n:Nat):Int))) (gd ((enc y.1).length == 2) (st w b (o+ii.toNat * 2) (enc y.1) fun w1 =>
   dr A fun b o=>gd (decide (0<=jj)) (gd (decide (jj < ((n:Nat):Int))) (gd ((enc x.1).length == 2) (st w1 b (o+jj.toNat * 2) (enc x.1) K)))))) :=
 el_put (enc:=encT enc) h.1 h0.lenT h.2 hi hii (h0.len y.1) (h0.one y.1) (fun w1 hr1 f1 =>
  el_put (enc:=encT enc) hr1 h0.lenT (by rw [List.length_set]; exact h.2) hj hjj (h0.len x.1) (h0.one x.1) (fun w2 hr2 f2=>hK w2 ⟨hr2,by rw [List.length_set,List.length_set]; exact h.2⟩ (f1.trans1 f2)))
theorem em (i j:Nat) (h1:i < 1099511627776) (h2:j < 1099511627776):IntKind.wrap .i64 (Int.fdiv (IntKind.wrap .u64 (IntKind.wrap .i64 ((i:Int)+(j:Int)))) (2 ^ 1))=(((i+j) / 2:Nat):Int):=by
 rw [i64_id (n:=(i:Int)+(j:Int)) (by omega) (by omega),IntKind.wrap_u64,Int.fdiv_eq_ediv_of_nonneg _ (by decide),i64_id (by omega) (by omega)]; omega
theorem ep (i:Nat) (h:i < 1099511627776):IntKind.wrap .i64 ((i:Int)+1)=((i+1:Nat):Int):=by rw [i64_id (by omega) (by omega)]; rfl
theorem ea (i j:Nat) (h1:i < 1099511627776) (h2:j < 1099511627776):IntKind.wrap .i64 ((i:Int)+(j:Int))=((i+j:Nat):Int):=by rw [i64_id (by omega) (by omega)]; rfl
theorem es (i j:Nat) (h1:i < 1099511627776) (h2:j<=i):IntKind.wrap .i64 ((i:Int) - (j:Int))=((i - j:Nat):Int):=by rw [i64_id (by omega) (by omega)]; omega
theorem e1 (i:Nat) (h1:i < 1099511627776) (h2:1<=i):IntKind.wrap .i64 ((i:Int) - 1)=((i - 1:Nat):Int):=by rw [i64_id (by omega) (by omega)]; omega
theorem swapRange_calls (h0:Srt β enc cmp) (B:Nat) (A:Option Addr) (n c:Nat) (P X Y Z S:List (β×Nat)) (w:World) (h:RS enc w B A n c (P ++ X ++ Y ++ Z ++ S)) (hXZ:X.length=Z.length) (hn:n < 549755813888) {a b m:Int} (ha:a=((P.length:Nat):Int)) (hb:b=((P.length+X.length+Y.length:Nat):Int)) (hm:m=((X.length:Nat):Int)) :
  Calls Tryz.prog 154 #[.slice A n c,.int .i64 a,.int .i64 b,.int .i64 m,cf] w fun e w'=>e=.returned (.tuple #[])/\Fr (fun k=>blkOf A=some k) w w'/\RS enc w' B A n c (P ++ Z ++ Y ++ X ++ S):=by
 subst ha; subst hb; subst hm
 refine (F154s.of A n c _ _ _ w (Q:=fun v w'=>v=.tuple #[]/\Fr (fun k=>blkOf A=some k) w w'/\RS enc w' B A n c (P ++ Z ++ Y ++ X ++ S)) ?_).mono (fun e w' ⟨v,he,hv,h⟩=>⟨by rw [he,hv],h⟩)
 have hlen:=h.2
 simp only [List.length_append] at hlen
 refine jnC_mk (loop_rule (fun s u=>Fr (fun k=>blkOf A=some k) w u/\∃ (k:Nat) (X1 X2 Z1 Z2:List (β×Nat)),X=X1 ++ X2/\Z=Z1 ++ Z2/\X1.length=k/\Z1.length=k/\s=((A,n,c),((P.length:Nat):Int),((P.length+X.length+Y.length:Nat):Int),((X.length:Nat):Int),(k:Int),())/\RS enc u B A n c (P ++ Z1 ++ X2 ++ Y ++ X1 ++ Z2 ++ S))
  (fun s _=>(X.length - s.2.2.2.2.1).toNat) ?_ _ _ ⟨Fr.refl _ _,0,[],X,[],Z,rfl,rfl,rfl,rfl,rfl,by simpa using h⟩)
 rintro s u C ⟨hf,k,X1,X2,Z1,Z2,hX,hZ,hx1,hz1,rfl,hr⟩ hC _
 have hXl:X.length=X1.length+X2.length:=by rw [hX,List.length_append]
 have hZl:Z.length=Z1.length+Z2.length:=by rw [hZ,List.length_append]
 refine vIf_mk (fun hlt=>?_) (fun hge=>?_)
 ·have hlt2:(k:Int) < (X.length:Int):=of_decide_eq_true hlt
  obtain ⟨x,X2',rfl⟩:∃ x X2',X2=x :: X2':=by
   cases X2 with
   | nil=>simp at hXl; omega
   | cons x r=>exact ⟨x,r,rfl⟩
  obtain ⟨z,Z2',rfl⟩:∃ z Z2',Z2=z :: Z2':=by
   cases Z2 with
   | nil=>simp at hZl; omega
   | cons x r=>exact ⟨x,r,rfl⟩
  simp only [List.length_cons] at hXl hZl
  have ea1:IntKind.wrap .i64 (((P.length:Nat):Int)+(k:Int))=((P.length+k:Nat):Int):=ea _ _ (by omega) (by omega)
  have eb1:IntKind.wrap .i64 (((P.length+X.length+Y.length:Nat):Int)+(k:Int))=((P.length+X.length+Y.length+k:Nat):Int):=ea _ _ (by omega) (by omega)
  have hr:=hr.drew
  have fd:Fr (fun k=>blkOf A=some k) w u.drew:=hf.trans1 (Fr.drew _ _)
  have hl1:P ++ Z1 ++ (x :: X2') ++ Y ++ X1 ++ (z :: Z2') ++ S=(P ++ Z1) ++ x :: (X2' ++ Y ++ X1 ++ (z :: Z2') ++ S):=by simp
  have hl2:P ++ Z1 ++ (x :: X2') ++ Y ++ X1 ++ (z :: Z2') ++ S=(P ++ Z1 ++ (x :: X2') ++ Y ++ X1) ++ z :: (Z2' ++ S):=by simp
  dsimp only
  refine rs_rd h0 hr (i:=P.length+X.length+Y.length+k) (x:=z) (by rw [hl2]; exact get_mid (by simp; omega)) eb1 ?_
  refine rs_rd h0 hr (i:=P.length+k) (x:=x) (by rw [hl1]; exact get_mid (by simp; omega)) ea1 ?_
  refine rs_swap h0 hr (i:=P.length+k) (j:=P.length+X.length+Y.length+k) (x:=x) (y:=z) (by omega) (by omega) ea1 eb1 (fun w' hr' f'=>jnC_mk (hC _ _ ⟨fd.trans1 f',k+1,X1 ++ [x],X2',Z1 ++ [z],Z2',by rw [hX]; simp,by rw [hZ]; simp,by simp [hx1],by simp [hz1],by rw [ep k (by omega)],?_⟩ ?_))
  ·rw [hl1,set_mid (by simp; omega)] at hr'
   have hl3:(P ++ Z1) ++ z :: (X2' ++ Y ++ X1 ++ (z :: Z2') ++ S)=(P ++ Z1 ++ z :: (X2' ++ Y ++ X1)) ++ z :: (Z2' ++ S):=by simp
   rw [hl3,set_mid (by simp; omega)] at hr'
   have hl4:(P ++ Z1 ++ z :: (X2' ++ Y ++ X1)) ++ x :: (Z2' ++ S)=P ++ (Z1 ++ [z]) ++ X2' ++ Y ++ (X1 ++ [x]) ++ Z2' ++ S:=by simp
   rw [hl4] at hr'
   exact hr'
  ·show ((X.length:Int) - IntKind.wrap .i64 ((k:Int)+1)).toNat < ((X.length:Int) - (k:Int)).toNat
   rw [ep k (by omega)]; omega
 ·have hge2:¬ (k:Int) < (X.length:Int):=of_decide_eq_false hge
  have hx2:X2=[]:=List.length_eq_zero_iff.1 (by omega)
  have hz2:Z2=[]:=List.length_eq_zero_iff.1 (by omega)
  subst hx2; subst hz2
  simp only [List.append_nil] at hX hZ hr
  subst hX; subst hZ
  exact ⟨rfl,hf,hr⟩
theorem rotate_calls (h0:Srt β enc cmp) (B:Nat) (A:Option Addr) (n c:Nat) (P X Y S:List (β×Nat)) (w:World) (h:RS enc w B A n c (P ++ X ++ Y ++ S)) (hX:X ≠ []) (hY:Y ≠ []) (hn:n < 549755813888) {a m b:Int} (ha:a=((P.length:Nat):Int)) (hm:m=((P.length+X.length:Nat):Int)) (hb:b=((P.length+X.length+Y.length:Nat):Int)) :
  Calls Tryz.prog 152 #[.slice A n c,.int .i64 a,.int .i64 m,.int .i64 b,cf] w fun e w'=>e=.returned (.tuple #[])/\Fr (fun k=>blkOf A=some k) w w'/\RS enc w' B A n c (P ++ Y ++ X ++ S):=by
 subst ha; subst hm; subst hb
 refine (F152s.of A n c _ _ _ w (Q:=fun v w'=>v=.tuple #[]/\Fr (fun k=>blkOf A=some k) w w'/\RS enc w' B A n c (P ++ Y ++ X ++ S)) ?_).mono (fun e w' ⟨v,he,hv,h⟩=>⟨by rw [he,hv],h⟩)
 have hlen:=h.2
 simp only [List.length_append] at hlen
 have hX0:X.length ≠ 0:=fun h=>hX (List.length_eq_zero_iff.1 h)
 have hY0:Y.length ≠ 0:=fun h=>hY (List.length_eq_zero_iff.1 h)
 have eX:IntKind.wrap .i64 (((P.length+X.length:Nat):Int) - ((P.length:Nat):Int))=((X.length:Nat):Int):=by rw [es _ _ (by omega) (by omega),Nat.add_sub_cancel_left]
 have eY:IntKind.wrap .i64 (((P.length+X.length+Y.length:Nat):Int) - ((P.length+X.length:Nat):Int))=((Y.length:Nat):Int):=by rw [es _ _ (by omega) (by omega),Nat.add_sub_cancel_left]
 refine jnC_mk (loop_rule (fun s u=>Fr (fun k=>blkOf A=some k) w u/\∃ (P' X' Y' S':List (β×Nat)),X' ≠ []/\Y' ≠ []/\P'.length+X'.length=P.length+X.length/\P' ++ Y' ++ X' ++ S'=P ++ Y ++ X ++ S/\s=((A,n,c),((P.length+X.length:Nat):Int),(),((X'.length:Nat):Int),((Y'.length:Nat):Int),())/\RS enc u B A n c (P' ++ X' ++ Y' ++ S'))
  (fun s _=>(s.2.2.2.1+s.2.2.2.2.1).toNat) ?_ _ _ ⟨Fr.refl _ _,P,X,Y,S,hX,hY,rfl,rfl,by rw [eX,eY],h⟩)
 rintro s u C ⟨hf,P',X',Y',S',hX',hY',hpx,htot,rfl,hr⟩ hC _
 have hX1:X'.length ≠ 0:=fun h=>hX' (List.length_eq_zero_iff.1 h)
 have hY1:Y'.length ≠ 0:=fun h=>hY' (List.length_eq_zero_iff.1 h)
 have hl:=hr.2
 simp only [List.length_append] at hl
 have em1:IntKind.wrap .i64 (((P.length+X.length:Nat):Int) - ((X'.length:Nat):Int))=((P'.length:Nat):Int):=by rw [es _ _ (by omega) (by omega)]; congr 1; omega
 refine vIf_mk (fun hne=>vIf_mk (fun hgt=>?_) (fun hle=>?_)) (fun heq=>?_)
 ·have hgt2:(X'.length:Int) > (Y'.length:Int):=of_decide_eq_true hgt
  obtain ⟨U,V,hUV,hU⟩:∃ U V,X'=U ++ V/\U.length=Y'.length:=⟨X'.take Y'.length,X'.drop Y'.length,(List.take_append_drop _ _).symm,by rw [List.length_take]; omega⟩
  have hVl:X'.length=U.length+V.length:=by rw [hUV,List.length_append]
  have hr2:RS enc u B A n c (P' ++ U ++ V ++ Y' ++ S'):=by
   rw [hUV] at hr
   simpa using hr
  refine (swapRange_calls h0 B A n c P' U V Y' S' u hr2 hU hn em1 (by rw [Nat.add_assoc P'.length,<- hVl]; exact congrArg _ hpx.symm) (by rw [hU])).mono ?_
  rintro r u2 ⟨rfl,f2,hr3⟩
  refine ⟨rfl,jnC_mk (hC _ _ ⟨hf.trans1 f2,P' ++ Y',V,U,S',?_,?_,?_,?_,?_,?_⟩ ?_)⟩
  ·intro h; rw [h] at hVl; simp at hVl; omega
  ·intro h; rw [h] at hU; simp at hU; omega
  ·simp only [List.length_append]; omega
  ·rw [<- htot,hUV]; simp
  ·show (_,_,_,IntKind.wrap .i64 ((X'.length:Int) - (Y'.length:Int)),_,())=_
   rw [es _ _ (by omega) (by omega),hU,show X'.length - Y'.length=V.length by omega]
  ·exact hr3
  ·show (IntKind.wrap .i64 ((X'.length:Int) - (Y'.length:Int))+(Y'.length:Int)).toNat < ((X'.length:Int)+(Y'.length:Int)).toNat
   rw [es _ _ (by omega) (by omega)]; omega
 ·have hle2:¬ (X'.length:Int) > (Y'.length:Int):=of_decide_eq_false hle
  have hne2:X'.length ≠ Y'.length:=by
   have hne:((X'.length:Int) != (Y'.length:Int))=true:=hne
   intro h; rw [h] at hne; simp at hne
  obtain ⟨U,V,hUV,hV⟩:∃ U V,Y'=U ++ V/\V.length=X'.length:=⟨Y'.take (Y'.length - X'.length),Y'.drop (Y'.length - X'.length),(List.take_append_drop _ _).symm,by rw [List.length_drop]; omega⟩
  have hUl:Y'.length=U.length+V.length:=by rw [hUV,List.length_append]
  have hr2:RS enc u B A n c (P' ++ X' ++ U ++ V ++ S'):=by
   rw [hUV] at hr
   simpa using hr
  have eb2:IntKind.wrap .i64 (IntKind.wrap .i64 (((P.length+X.length:Nat):Int)+((Y'.length:Nat):Int)) - ((X'.length:Nat):Int))=((P'.length+X'.length+U.length:Nat):Int):=by
   rw [ea _ _ (by omega) (by omega),es _ _ (by omega) (by omega)]; congr 1; omega
  refine (swapRange_calls h0 B A n c P' X' U V S' u hr2 hV.symm hn em1 eb2 rfl).mono ?_
  rintro r u2 ⟨rfl,f2,hr3⟩
  refine ⟨rfl,jnC_mk (hC _ _ ⟨hf.trans1 f2,P',V,U,X' ++ S',?_,?_,?_,?_,?_,?_⟩ ?_)⟩
  ·intro h; rw [h] at hV; simp at hV; omega
  ·intro h; rw [h] at hUl; simp at hUl; omega
  ·omega
  ·rw [<- htot,hUV]; simp
  ·show (_,_,_,_,IntKind.wrap .i64 ((Y'.length:Int) - (X'.length:Int)),())=_
   rw [es _ _ (by omega) (by omega),hV,show Y'.length - X'.length=U.length by omega]
  ·simpa using hr3
  ·show ((X'.length:Int)+IntKind.wrap .i64 ((Y'.length:Int) - (X'.length:Int))).toNat < ((X'.length:Int)+(Y'.length:Int)).toNat
   rw [es _ _ (by omega) (by omega)]; omega
 ·have heq2:X'.length=Y'.length:=by
   have heq:((X'.length:Int) != (Y'.length:Int))=false:=heq
   have:(X'.length:Int)=(Y'.length:Int):=by simpa using heq
   omega
  refine (swapRange_calls h0 B A n c P' X' [] Y' S' u (by simpa using hr) heq2 hn em1 (by simp; omega) rfl).mono ?_
  rintro r u2 ⟨rfl,f2,hr3⟩
  rw [List.append_nil,htot] at hr3
  exact ⟨rfl,rfl,hf.trans1 f2,hr3⟩
end
section
variable {β:Type} {enc:β->List Value} {cmp:β->β->Int}
def Mrg (enc:β->List Value) (cmp:β->β->Int) (w w':World) (B:Nat) (A:Option Addr) (n c:Nat) (P X Y S:List (β×Nat)):Prop :=
 Fr (fun k=>blkOf A=some k) w w'/\∃ M,M.Perm (X ++ Y)/\Sorted cmp M/\RS enc w' B A n c (P ++ M ++ S)
theorem le_lt_le (h:OrdC cmp) {X Y:List (β×Nat)} (hX:Sorted cmp X) (hY:Sorted cmp Y) {k k' l l':Nat} {u u' v v':β×Nat} (hu:X[k]?=some u) (hu':X[k']?=some u') (hk:k<=k') (hv:Y[l]?=some v) (hv':Y[l']?=some v') (hl:l'<=l) (hlt:lt cmp u' v'):lt cmp u v:=by
 have h1:lt cmp u v':=by
  rcases Nat.lt_or_ge k k' with h' | h'
  ·exact lt_trans h (sorted_get h hX hu hu' h') hlt
  ·have:k=k':=by omega
   subst this
   rw [hu] at hu'; injection hu' with hu'; subst hu'; exact hlt
 rcases Nat.lt_or_ge l' l with h' | h'
 ·exact lt_trans h h1 (sorted_get h hY hv' hv h')
 ·have:l=l':=by omega
  subst this
  rw [hv] at hv'; injection hv' with hv'; subst hv'; exact h1
theorem mem_take_at {l:List (β×Nat)} {i:Nat} {x:β×Nat} (h:x ∈ l.take i):∃ j,j < i/\l[j]?=some x:=by
 obtain ⟨j,hj⟩:=List.mem_iff_getElem?.1 h
 rw [List.getElem?_take] at hj
 split at hj
 ·exact ⟨j,by assumption,hj⟩
 ·cases hj
theorem mem_drop_at {l:List (β×Nat)} {i:Nat} {x:β×Nat} (h:x ∈ l.drop i):∃ j,i<=j/\l[j]?=some x:=by
 obtain ⟨j,hj⟩:=List.mem_iff_getElem?.1 h
 rw [List.getElem?_drop] at hj
 exact ⟨i+j,by omega,hj⟩
theorem merge_one (h0:Srt β enc cmp) (B:Nat) (A:Option Addr) (n c:Nat) (P Y S:List (β×Nat)) (x:β×Nat) (w:World) (h:RS enc w B A n c (P ++ x :: Y ++ S)) (hY:Sorted cmp Y) (hb:∀ y ∈ Y,bef x y) (hn:n < 549755813888) :
  F147s.l3 (fun v w'=>v=.tuple #[]/\Mrg enc cmp w w' B A n c P [x] Y S) ((A,n,c),((P.length:Nat):Int),(),((P.length+1:Nat):Int),((P.length+1+Y.length:Nat):Int),()) w:=by
 have hlen:=h.2
 simp only [List.length_append,List.length_cons] at hlen
 have gx:(P ++ x :: Y ++ S)[P.length]?=some x:=by rw [List.append_assoc]; exact get_mid rfl
 refine loop_rule (fun s u=>Fr (fun k=>blkOf A=some k) w u/\RS enc u B A n c (P ++ x :: Y ++ S)/\∃ p q:Nat,p<=q/\q<=Y.length/\(∀ y ∈ Y.take p,lt cmp y x)/\(∀ y ∈ Y.drop q,lt cmp x y)/\s=((A,n,c),((P.length:Nat):Int),(),((P.length+1+p:Nat):Int),((P.length+1+q:Nat):Int),()))
  (fun s _=>(s.2.2.2.2.1 - s.2.2.2.1).toNat) ?_ _ _ ⟨Fr.refl _ _,h,0,Y.length,by omega,by omega,by simp,by simp,rfl⟩
 rintro s u C ⟨hf,hr,p,q,hpq,hqY,hlo,hhi,rfl⟩ hC _
 refine vIf_mk (fun hlt=>?_) (fun hge=>?_)
 ·have hlt2:((P.length+1+p:Nat):Int) < ((P.length+1+q:Nat):Int):=of_decide_eq_true hlt
  have emm:=em (P.length+1+p) (P.length+1+q) (by omega) (by omega)
  have hh:(P.length+1+p+(P.length+1+q)) / 2=P.length+1+(p+q) / 2:=by omega
  rw [hh] at emm
  have gi:Y[(p+q) / 2]?=some (Y[(p+q) / 2]'(by omega)):=List.getElem?_eq_getElem (by omega)
  generalize Y[(p+q) / 2]'(by omega)=y at gi
  have gy:(P ++ x :: Y ++ S)[P.length+1+(p+q) / 2]?=some y:=by
   have:P ++ x :: Y ++ S=(P ++ [x]) ++ (Y ++ S):=by simp
   rw [this,List.getElem?_append_right (by simp),List.getElem?_append_left (by simp; omega)]
   rw [show P.length+1+(p+q) / 2 - (P ++ [x]).length=(p+q) / 2 by simp]; exact gi
  have hym:y ∈ Y:=List.mem_of_getElem? gi
  dsimp only
  rw [emm]
  refine rs_rd h0 hr.drew gy rfl (rs_rd h0 hr.drew gx rfl ((h0.call y.1 x.1 u.drew).mono ?_))
  rintro r u2 ⟨rfl,f2⟩
  have hf2:Fr (fun k=>blkOf A=some k) w u2:=(hf.trans1 (Fr.drew _ _)).trans1 (f2.mono (fun _ _ h=>h.elim))
  refine ⟨_,rfl,vIf_mk (fun h1=>jnC_mk (hC _ _ ⟨hf2,hr.drew.fr0 f2,(p+q) / 2+1,q,by omega,hqY,fun z hz=>?_,hhi,by rw [ep _ (by omega)]; rfl⟩ ?_)) (fun h1=>jnC_mk (hC _ _ ⟨hf2,hr.drew.fr0 f2,p,(p+q) / 2,by omega,by omega,hlo,fun z hz=>?_,rfl⟩ ?_))⟩
  ·have h1:=bef_yes h0.ord (hb y hym) (of_decide_eq_true h1)
   obtain ⟨j,hj,hz⟩:=mem_take_at hz
   by_cases hjm:j=(p+q) / 2
   ·subst hjm; rw [gi] at hz; injection hz with hz; subst hz; exact h1
   ·exact lt_trans h0.ord (sorted_get h0.ord hY hz gi (by omega)) h1
  ·show (((P.length+1+q:Nat):Int) - IntKind.wrap .i64 (((P.length+1+(p+q) / 2:Nat):Int)+1)).toNat < (((P.length+1+q:Nat):Int) - ((P.length+1+p:Nat):Int)).toNat
   rw [ep _ (by omega)]; omega
  ·have h1:=bef_no h0.ord (hb y hym) (of_decide_eq_false h1)
   obtain ⟨j,hj,hz⟩:=mem_drop_at hz
   by_cases hjm:j=(p+q) / 2
   ·subst hjm; rw [gi] at hz; injection hz with hz; subst hz; exact h1
   ·exact lt_trans h0.ord h1 (sorted_get h0.ord hY gi hz (by omega))
  ·show (((P.length+1+(p+q) / 2:Nat):Int) - ((P.length+1+p:Nat):Int)).toNat < (((P.length+1+q:Nat):Int) - ((P.length+1+p:Nat):Int)).toNat
   omega
 ·have hge2:¬ ((P.length+1+p:Nat):Int) < ((P.length+1+q:Nat):Int):=of_decide_eq_false hge
  have hpq2:q=p:=by omega
  subst hpq2
  clear hC
  have hYs:=List.take_append_drop q Y
  have hs2:=hY
  rw [<- hYs] at hs2
  obtain ⟨hs21,hs22,hs23⟩:=sorted_of_app hs2
  have htl:(Y.take q).length=q:=by rw [List.length_take]; omega
  refine jnC_mk (loop_rule (fun s v=>Fr (fun k=>blkOf A=some k) w v/\∃ U V:List (β×Nat),U ++ V=Y.take q/\s=((A,n,c),((P.length+1+q:Nat):Int),((P.length+U.length:Nat):Int),())/\RS enc v B A n c (P ++ U ++ x :: V ++ Y.drop q ++ S))
   (fun s _=>(P.length+1+q - s.2.2.1).toNat) ?_ _ _ ⟨hf,[],Y.take q,rfl,rfl,by
    have:P ++ [] ++ x :: Y.take q ++ Y.drop q ++ S=P ++ x :: Y ++ S:=by
     conv=>rhs; rw [<- hYs]
     simp
    rw [this]; exact hr⟩)
  rintro s v C ⟨hfv,U,V,hUV,rfl,hrv⟩ hC _
  have hUVl:U.length+V.length=q:=by rw [<- htl,<- hUV,List.length_append]
  have e0:IntKind.wrap .i64 (((P.length+1+q:Nat):Int) - 1)=((P.length+q:Nat):Int):=by rw [e1 _ (by omega) (by omega)]; congr 1; omega
  refine vIf_mk (fun hlt=>?_) (fun hge=>?_)
  ·have hlt2:((P.length+U.length:Nat):Int) < IntKind.wrap .i64 (((P.length+1+q:Nat):Int) - 1):=of_decide_eq_true hlt
   rw [e0] at hlt2
   obtain ⟨y,V',rfl⟩:∃ y V',V=y :: V':=by
    cases V with
    | nil=>simp at hUVl; omega
    | cons y r=>exact ⟨y,r,rfl⟩
   have l1:P ++ U ++ x :: (y :: V') ++ Y.drop q ++ S=(P ++ U) ++ x :: (y :: V' ++ Y.drop q ++ S):=by simp
   have l2:P ++ U ++ x :: (y :: V') ++ Y.drop q ++ S=(P ++ U ++ [x]) ++ y :: (V' ++ Y.drop q ++ S):=by simp
   have ek:IntKind.wrap .i64 (((P.length+U.length:Nat):Int)+1)=((P.length+U.length+1:Nat):Int):=ep _ (by omega)
   refine rs_rd h0 hrv.drew (i:=P.length+U.length+1) (x:=y) (by rw [l2]; exact get_mid (by simp; omega)) ek (rs_rd h0 hrv.drew (i:=P.length+U.length) (x:=x) (by rw [l1]; exact get_mid (by simp)) rfl ?_)
   refine rs_swap h0 hrv.drew (i:=P.length+U.length) (j:=P.length+U.length+1) (by omega) (by omega) rfl ek (fun w' hr' f'=>jnC_mk (hC _ _ ⟨(hfv.trans1 (Fr.drew _ _)).trans1 f',U ++ [y],V',by rw [<- hUV]; simp,?_,?_⟩ ?_))
   ·show (_,_,IntKind.wrap .i64 (((P.length+U.length:Nat):Int)+1),())=_
    rw [ek]; simp; omega
   ·rw [l1,set_mid (by simp)] at hr'
    have l3:(P ++ U) ++ y :: (y :: V' ++ Y.drop q ++ S)=(P ++ U ++ [y]) ++ y :: (V' ++ Y.drop q ++ S):=by simp
    rw [l3,set_mid (by simp; omega)] at hr'
    have l4:(P ++ U ++ [y]) ++ x :: (V' ++ Y.drop q ++ S)=P ++ (U ++ [y]) ++ x :: V' ++ Y.drop q ++ S:=by simp
    rw [l4] at hr'; exact hr'
   ·show (((P.length:Nat):Int)+1+((q:Nat):Int) - IntKind.wrap .i64 (((P.length+U.length:Nat):Int)+1)).toNat < (((P.length:Nat):Int)+1+((q:Nat):Int) - ((P.length+U.length:Nat):Int)).toNat
    rw [ek]; omega
  ·have hge2:¬ ((P.length+U.length:Nat):Int) < IntKind.wrap .i64 (((P.length+1+q:Nat):Int) - 1):=of_decide_eq_false hge
   rw [e0] at hge2
   have hV:V=[]:=List.length_eq_zero_iff.1 (by omega)
   subst hV
   rw [List.append_nil] at hUV
   subst hUV
   refine ⟨rfl,hfv,Y.take q ++ ([x] ++ Y.drop q),?_,sorted_app hs21 (sorted_app (List.pairwise_singleton _ _) hs22 (fun u hu v hv=>by simp at hu; subst hu; exact hhi v hv)) (fun u hu v hv=>?_),by simpa using hrv⟩
   ·conv=>rhs; rw [<- hYs]
    exact List.perm_append_comm_assoc _ _ _
   ·rcases List.mem_append.1 hv with hv | hv
    ·simp at hv; subst hv; exact hlo u hu
    ·exact hs23 u hu v hv
theorem merge_last (h0:Srt β enc cmp) (B:Nat) (A:Option Addr) (n c:Nat) (P X S:List (β×Nat)) (y:β×Nat) (w:World) (h:RS enc w B A n c (P ++ X ++ y :: S)) (hX:Sorted cmp X) (hb:∀ x ∈ X,bef x y) (hn:n < 549755813888) :
  F147s.l15 (fun v w'=>v=.tuple #[]/\Mrg enc cmp w w' B A n c P X [y] S) ((A,n,c),((P.length+X.length:Nat):Int),(),((P.length:Nat):Int),((P.length+X.length:Nat):Int),()) w:=by
 have hlen:=h.2
 simp only [List.length_append,List.length_cons] at hlen
 have gy:(P ++ X ++ y :: S)[P.length+X.length]?=some y:=get_mid (by simp)
 refine loop_rule (fun s u=>Fr (fun k=>blkOf A=some k) w u/\RS enc u B A n c (P ++ X ++ y :: S)/\∃ p q:Nat,p<=q/\q<=X.length/\(∀ x ∈ X.take p,lt cmp x y)/\(∀ x ∈ X.drop q,lt cmp y x)/\s=((A,n,c),((P.length+X.length:Nat):Int),(),((P.length+p:Nat):Int),((P.length+q:Nat):Int),()))
  (fun s _=>(s.2.2.2.2.1 - s.2.2.2.1).toNat) ?_ _ _ ⟨Fr.refl _ _,h,0,X.length,by omega,by omega,by simp,by simp,rfl⟩
 rintro s u C ⟨hf,hr,p,q,hpq,hqX,hlo,hhi,rfl⟩ hC _
 refine vIf_mk (fun hlt=>?_) (fun hge=>?_)
 ·have hlt2:((P.length+p:Nat):Int) < ((P.length+q:Nat):Int):=of_decide_eq_true hlt
  have emm:=em (P.length+p) (P.length+q) (by omega) (by omega)
  have hh:(P.length+p+(P.length+q)) / 2=P.length+(p+q) / 2:=by omega
  rw [hh] at emm
  have gi:X[(p+q) / 2]?=some (X[(p+q) / 2]'(by omega)):=List.getElem?_eq_getElem (by omega)
  generalize X[(p+q) / 2]'(by omega)=x at gi
  have gx:(P ++ X ++ y :: S)[P.length+(p+q) / 2]?=some x:=by
   rw [List.append_assoc,List.getElem?_append_right (by omega),List.getElem?_append_left (by omega),Nat.add_sub_cancel_left]; exact gi
  have hxm:x ∈ X:=List.mem_of_getElem? gi
  dsimp only
  rw [emm]
  refine rs_rd h0 hr.drew gy rfl (rs_rd h0 hr.drew gx rfl ((h0.call y.1 x.1 u.drew).mono ?_))
  rintro r u2 ⟨rfl,f2⟩
  have hf2:Fr (fun k=>blkOf A=some k) w u2:=(hf.trans1 (Fr.drew _ _)).trans1 (f2.mono (fun _ _ h=>h.elim))
  refine ⟨_,rfl,vIf_mk (fun h1=>jnC_mk (hC _ _ ⟨hf2,hr.drew.fr0 f2,(p+q) / 2+1,q,by omega,hqX,fun z hz=>?_,hhi,by rw [ep _ (by omega)]; rfl⟩ ?_)) (fun h1=>jnC_mk (hC _ _ ⟨hf2,hr.drew.fr0 f2,p,(p+q) / 2,by omega,by omega,hlo,fun z hz=>?_,rfl⟩ ?_))⟩
  ·have h1:¬ cmp y.1 x.1 < 0:=by simpa using h1
   have h1:=bef_no h0.ord (hb x hxm) h1
   obtain ⟨j,hj,hz⟩:=mem_take_at hz
   by_cases hjm:j=(p+q) / 2
   ·subst hjm; rw [gi] at hz; injection hz with hz; subst hz; exact h1
   ·exact lt_trans h0.ord (sorted_get h0.ord hX hz gi (by omega)) h1
  ·show (((P.length+q:Nat):Int) - IntKind.wrap .i64 (((P.length+(p+q) / 2:Nat):Int)+1)).toNat < (((P.length+q:Nat):Int) - ((P.length+p:Nat):Int)).toNat
   rw [ep _ (by omega)]; omega
  ·have h1:cmp y.1 x.1 < 0:=by simpa using h1
   have h1:=bef_yes h0.ord (hb x hxm) h1
   obtain ⟨j,hj,hz⟩:=mem_drop_at hz
   by_cases hjm:j=(p+q) / 2
   ·subst hjm; rw [gi] at hz; injection hz with hz; subst hz; exact h1
   ·exact lt_trans h0.ord h1 (sorted_get h0.ord hX gi hz (by omega))
  ·show (((P.length+(p+q) / 2:Nat):Int) - ((P.length+p:Nat):Int)).toNat < (((P.length+q:Nat):Int) - ((P.length+p:Nat):Int)).toNat
   omega
 ·have hge2:¬ ((P.length+p:Nat):Int) < ((P.length+q:Nat):Int):=of_decide_eq_false hge
  have hpq2:q=p:=by omega
  subst hpq2
  clear hC
  have hXs:=List.take_append_drop q X
  have hs2:=hX
  rw [<- hXs] at hs2
  obtain ⟨hs21,hs22,hs23⟩:=sorted_of_app hs2
  have htl:(X.take q).length=q:=by rw [List.length_take]; omega
  have hdl:(X.drop q).length=X.length - q:=List.length_drop
  refine jnC_mk (loop_rule (fun s v=>Fr (fun k=>blkOf A=some k) w v/\∃ U V:List (β×Nat),U ++ V=X.drop q/\s=((A,n,c),((P.length+q:Nat):Int),((P.length+q+U.length:Nat):Int),())/\RS enc v B A n c (P ++ X.take q ++ U ++ y :: V ++ S))
   (fun s _=>s.2.2.1.toNat) ?_ _ _ ⟨hf,X.drop q,[],by simp,by rw [hdl]; simp; omega,by
    have:P ++ X.take q ++ X.drop q ++ [y] ++ S=P ++ X ++ y :: S:=by
     conv=>rhs; rw [<- hXs]
     simp
    rw [this]; exact hr⟩)
  rintro s v C ⟨hfv,U,V,hUV,rfl,hrv⟩ hC _
  have hUVl:U.length+V.length=X.length - q:=by rw [<- hdl,<- hUV,List.length_append]
  refine vIf_mk (fun hlt=>?_) (fun hge=>?_)
  ·have hlt2:((P.length+q+U.length:Nat):Int) > ((P.length+q:Nat):Int):=of_decide_eq_true hlt
   obtain ⟨U',z,rfl⟩:∃ U' z,U=U' ++ [z]:=by
    have hne:U ≠ []:=by intro h; subst h; simp at hlt2
    exact ⟨U.dropLast,U.getLast hne,(List.dropLast_concat_getLast hne).symm⟩
   simp only [List.length_append,List.length_cons,List.length_nil] at hUVl hlt2
   have l1:P ++ X.take q ++ (U' ++ [z]) ++ y :: V ++ S=(P ++ X.take q ++ U') ++ z :: (y :: V ++ S):=by simp
   have l2:P ++ X.take q ++ (U' ++ [z]) ++ y :: V ++ S=(P ++ X.take q ++ (U' ++ [z])) ++ y :: (V ++ S):=by simp
   have ek:IntKind.wrap .i64 (((P.length+q+(U' ++ [z]).length:Nat):Int) - 1)=((P.length+q+U'.length:Nat):Int):=by rw [e1 _ (by simp; omega) (by simp; omega)]; simp only [List.length_append,List.length_cons,List.length_nil]; omega
   refine rs_rd h0 hrv.drew (i:=P.length+q+U'.length) (x:=z) (by rw [l1]; exact get_mid (by simp; omega)) ek (rs_rd h0 hrv.drew (i:=P.length+q+(U' ++ [z]).length) (x:=y) (by rw [l2]; exact get_mid (by simp; omega)) rfl ?_)
   refine rs_swap h0 hrv.drew (i:=P.length+q+(U' ++ [z]).length) (j:=P.length+q+U'.length) (x:=y) (y:=z) (by simp; omega) (by omega) rfl ek (fun w' hr' f'=>jnC_mk (hC _ _ ⟨(hfv.trans1 (Fr.drew _ _)).trans1 f',U',z :: V,by rw [<- hUV]; simp,?_,?_⟩ ?_))
   ·show (_,_,IntKind.wrap .i64 (((P.length+q+(U' ++ [z]).length:Nat):Int) - 1),())=_
    rw [ek]
   ·rw [l2,set_mid (by simp; omega)] at hr'
    have l3:(P ++ X.take q ++ (U' ++ [z])) ++ z :: (V ++ S)=(P ++ X.take q ++ U') ++ z :: (z :: (V ++ S)):=by simp
    rw [l3,set_mid (by simp; omega)] at hr'
    have l4:(P ++ X.take q ++ U') ++ y :: (z :: (V ++ S))=P ++ X.take q ++ U' ++ y :: (z :: V) ++ S:=by simp
    rw [l4] at hr'; exact hr'
   ·show (IntKind.wrap .i64 (((P.length+q+(U' ++ [z]).length:Nat):Int) - 1)).toNat < (((P.length+q+(U' ++ [z]).length:Nat):Int)).toNat
    rw [ek]; simp only [List.length_append,List.length_cons,List.length_nil]; omega
  ·have hge2:¬ ((P.length+q+U.length:Nat):Int) > ((P.length+q:Nat):Int):=of_decide_eq_false hge
   have hU:U=[]:=List.length_eq_zero_iff.1 (by omega)
   subst hU
   rw [List.nil_append] at hUV
   subst hUV
   refine ⟨rfl,hfv,X.take q ++ ([y] ++ X.drop q),?_,sorted_app hs21 (sorted_app (List.pairwise_singleton _ _) hs22 (fun u hu v hv=>by simp at hu; subst hu; exact hhi v hv)) (fun u hu v hv=>?_),by simpa using hrv⟩
   ·conv=>rhs; rw [<- hXs,List.append_assoc]
    exact (List.perm_append_comm).append_left _
   ·rcases List.mem_append.1 hv with hv | hv
    ·simp at hv; subst hv; exact hlo u hu
    ·exact hs23 u hu v hv
end
end Go.Proofs.YtodmachaofepkaaGreatDoor.StbNm
