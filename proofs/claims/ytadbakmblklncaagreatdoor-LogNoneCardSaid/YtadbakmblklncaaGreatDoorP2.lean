import Derived.Lib.Bytealg
import Derived.Test.YtadbakmblklncaaGreatDoorP1
set_option linter.unusedVariables false
set_option linter.unusedSimpArgs false
namespace Go.Proofs.YtadbakmblklncaaGreatDoor
open Go.GV
set_option maxRecDepth 100000
open Go.Value renaming int -> VI, slice -> VS, tuple -> VT, pointer -> VP, string -> VG, bool -> VB
open Go.IntKind renaming wrap -> WR
def F85.vc (x0:List Value) (w:World) (Q:QT):Prop :=
 nw w x0 50 fun b1 w2 =>
 ldSl w2 b1 0 fun A3 n4 c5 =>
 Calls Tryz.prog 110 #[VS A3 n4 c5] w2 fun e7 w6 =>
 ∃ (A8:Option Addr) (n9 c10:Nat),e7=.returned (VS A8 n9 c10)/\(
 Calls Tryz.prog 111 #[VS A8 n9 c10,Value.func (.func 112) #[] #[]] w6 fun e12 w11 =>
 e12=.returned (VT #[])/\(
 Calls Tryz.prog 114 #[VS A8 n9 c10,Value.func (.func 115) #[] #[]] w11 fun e14 w13 =>
 ∃ (A15:Option Addr) (n16 c17:Nat),e14=.returned (VS A15 n16 c17)/\(
 Q (VS A15 n16 c17) w13)))
def F85.an:Ann:=⟨[],[]⟩
theorem F85.of (x0:List Value) (w:World) {Q:QT} (h:F85.vc x0 w Q):Calls Tryz.prog 85 #[ofL x0] w (fun e w'=>∃ v,e=.returned v/\Q v w'):=vcFn_of (A:=F85.an) noCount mixed h (by kernel_rfl)
def F116.vc (x0A:Option Addr) (x0n x0c:Nat) (x1:ByteArray) (x2:Int) (w:World) (Q:QT):Prop :=
 Calls Tryz.prog 100 #[VS x0A x0n x0c,VG x1,Value.func (.func 101) #[] #[]] w fun e2 w1 =>
 ∃ i3:Int,∃ t4:Bool,e2=.returned (VT #[VI .i64 i3,VB t4])/\(
 vIf t4
 (dr x0A fun b5 o6 =>
 gd (decide (0<=i3)) <|
 gd (decide (i3 < (x0n:Int))) <|
 st w1 b5 ((o6+(i3).toNat * 2)+1) [VI .i64 x2] fun w7 =>
 Q (VS x0A x0n x0c) w7)
 (gd (([VG x1] ++ ([VI .i64 x2] ++ [])).length == 2) <|
 nw w1 (([VG x1] ++ ([VI .i64 x2] ++ [])) ++ []) 110 fun b8 w9 =>
 Calls Tryz.prog 142 #[VS x0A x0n x0c,VI .i64 i3,VS (some ⟨b8,0,none⟩) 1 1] w9 fun e11 w10 =>
 ∃ (A12:Option Addr) (n13 c14:Nat),e11=.returned (VS A12 n13 c14)/\(
 Q (VS A12 n13 c14) w10)))
def F116.an:Ann:=⟨[],[]⟩
theorem F116.of (x0A:Option Addr) (x0n x0c:Nat) (x1:ByteArray) (x2:Int) (w:World) {Q:QT} (h:F116.vc x0A x0n x0c x1 x2 w Q):Calls Tryz.prog 116 #[VS x0A x0n x0c,VG x1,VI .i64 x2] w (fun e w'=>∃ v,e=.returned v/\Q v w'):=vcFn_of (A:=F116.an) noCount mixed h (by kernel_rfl)
def F117.vc (x0A:Option Addr) (x0n x0c:Nat) (x1:ByteArray) (w:World) (Q:QT):Prop :=
 Calls Tryz.prog 100 #[VS x0A x0n x0c,VG x1,Value.func (.func 101) #[] #[]] w fun e2 w1 =>
 ∃ i3:Int,∃ t4:Bool,e2=.returned (VT #[VI .i64 i3,VB t4])/\(
 vIf (!t4)
 (Q (VT #[VS x0A x0n x0c,VI .i64 0,VB false]) w1)
 (dr x0A fun b5 o6 =>
 gd (decide (0<=i3)) <|
 gd (decide (i3 < (x0n:Int))) <|
 ldI .i64 w1 b5 ((o6+(i3).toNat * 2)+1) fun i7 =>
 Calls Tryz.prog 143 #[VS x0A x0n x0c,VI .i64 i3,VI .i64 (WR .i64 (i3+1))] w1 fun e9 w8 =>
 ∃ (A10:Option Addr) (n11 c12:Nat),e9=.returned (VS A10 n11 c12)/\(
 Q (VT #[VS A10 n11 c12,VI .i64 i7,VB true]) w8)))
def F117.an:Ann:=⟨[],[]⟩
theorem F117.of (x0A:Option Addr) (x0n x0c:Nat) (x1:ByteArray) (w:World) {Q:QT} (h:F117.vc x0A x0n x0c x1 w Q):Calls Tryz.prog 117 #[VS x0A x0n x0c,VG x1] w (fun e w'=>∃ v,e=.returned v/\Q v w'):=vcFn_of (A:=F117.an) noCount mixed h (by kernel_rfl)
def F86.vc (x0A:Option Addr) (x0n x0c:Nat) (x1:List Value) (w:World) (Q:QT):Prop :=
 nw w x1 147 fun b1 w2 =>
 ldI .i64 w2 b1 0 fun i3 =>
 vIf (i3 == 1)
 (ldS w2 b1 (0+1) fun s4 =>
 ldI .i64 w2 b1 (0+3) fun i5 =>
 Calls Tryz.prog 116 #[VS x0A x0n x0c,VG s4,VI .i64 i5] w2 fun e7 w6 =>
 ∃ (A8:Option Addr) (n9 c10:Nat),e7=.returned (VS A8 n9 c10)/\(
 Q (VS A8 n9 c10) w6))
 (vIf (i3 == 3)
 (ldS w2 b1 (0+1) fun s11 =>
 Calls Tryz.prog 117 #[VS x0A x0n x0c,VG s11] w2 fun e13 w12 =>
 ∃ (A14:Option Addr) (n15 c16:Nat),∃ i17:Int,∃ t18:Bool,e13=.returned (VT #[VS A14 n15 c16,VI .i64 i17,VB t18])/\(
 Q (VS A14 n15 c16) w12))
 (vIf (i3 == 2)
 (ldS w2 b1 (0+1) fun s19 =>
 Calls Tryz.prog 117 #[VS x0A x0n x0c,VG s19] w2 fun e21 w20 =>
 ∃ (A22:Option Addr) (n23 c24:Nat),∃ i25:Int,∃ t26:Bool,e21=.returned (VT #[VS A22 n23 c24,VI .i64 i25,VB t26])/\(
 vIf t26
 (ldS w20 b1 (0+2) fun s27 =>
 Calls Tryz.prog 116 #[VS A22 n23 c24,VG s27,VI .i64 i25] w20 fun e29 w28 =>
 ∃ (A30:Option Addr) (n31 c32:Nat),e29=.returned (VS A30 n31 c32)/\(
 Q (VS A30 n31 c32) w28))
 (Q (VS x0A x0n x0c) w20)))
 (Q (VS x0A x0n x0c) w2)))
def F86.an:Ann:=⟨[],[]⟩
theorem F86.of (x0A:Option Addr) (x0n x0c:Nat) (x1:List Value) (w:World) {Q:QT} (h:F86.vc x0A x0n x0c x1 w Q):Calls Tryz.prog 86 #[VS x0A x0n x0c,ofL x1] w (fun e w'=>∃ v,e=.returned v/\Q v w'):=vcFn_of (A:=F86.an) noCount mixed h (by kernel_rfl)
def F52.b3c (Q:QT) (C3:(ST×ST×Int×Int×Unit)->WT) (x5:ST) (x18:ST) (x19:Int) (x20:Int) (w:World):Prop :=
 vIf (decide (x20 < x19))
 (dr x18.1 fun b15 o16 =>
 gd (decide (0<=x20)) <|
 gd (decide (x20 < (x18.2.1:Int))) <|
 ldA 4 w b15 (o16+(x20).toNat * 4) fun a17 =>
 nw w Z147 147 fun b18 w19 =>
 gd (a17.length == 4) <|
 st w19 b18 0 a17 fun w20 =>
 ldA 4 w20 b18 0 fun a21 =>
 Calls Tryz.prog 86 #[VS x5.1 x5.2.1 x5.2.2,ofL a21] w20 fun e23 w22 =>
 ∃ (A24:Option Addr) (n25 c26:Nat),e23=.returned (VS A24 n25 c26)/\(
 jnC C3 ((A24,n25,c26),(x18.1,x18.2.1,x18.2.2),x19,((WR .i64 (x20+1))),()) w22))
 (Q (VS x5.1 x5.2.1 x5.2.2) w)
def F52.b3 (Q:QT):(ST×ST×Int×Int×Unit)->World->((ST×ST×Int×Int×Unit)->WT)->Prop:=fun s w C3=>∀ _:Nat->Value,F52.b3c Q C3 s.1 s.2.1 s.2.2.1 s.2.2.2.1 w
def F52.l3 (Q:QT):(ST×ST×Int×Int×Unit)->WT:=fun s w=>∃ n,loopC (F52.b3 Q) n s w
def F52.vc (x0:List Value) (x1:Int) (w:World) (Q:QT):Prop :=
 nw w x0 50 fun b1 w2 =>
 ldA 2 w2 b1 0 fun a3 =>
 Calls Tryz.prog 85 #[ofL a3] w2 fun e5 w4 =>
 ∃ (A6:Option Addr) (n7 c8:Nat),e5=.returned (VS A6 n7 c8)/\(
 ldSl w4 b1 (0+1) fun A9 n10 c11 =>
 ldSl w4 b1 (0+1) fun A12 n13 c14 =>
 gd (decide (0<=(if 0 < (if (n13:Int) < x1 then (n13:Int) else x1) then (if (n13:Int) < x1 then (n13:Int) else x1) else 0))) <|
 gd (decide ((if 0 < (if (n13:Int) < x1 then (n13:Int) else x1) then (if (n13:Int) < x1 then (n13:Int) else x1) else 0)<=(c11:Int))) <|
 jnC (F52.l3 Q) ((A6,n7,c8),((slA A9 c11 0 4),((if 0 < (if (n13:Int) < x1 then (n13:Int) else x1) then (if (n13:Int) < x1 then (n13:Int) else x1) else 0)).toNat,c11),(((((if 0 < (if (n13:Int) < x1 then (n13:Int) else x1) then (if (n13:Int) < x1 then (n13:Int) else x1) else 0)).toNat:Nat):Int)),(0),()) w4)
def F52.an:Ann:=⟨[(3,[(5,.kSl),(18,.kSl),(19,.kI .i64),(20,.kI .i64)])],[]⟩
theorem F52.of (x0:List Value) (x1:Int) (w:World) {Q:QT} (h:F52.vc x0 x1 w Q):Calls Tryz.prog 52 #[ofL x0,VI .i64 x1] w (fun e w'=>∃ v,e=.returned v/\Q v w'):=vcFn_of (A:=F52.an) noCount mixed h (by kernel_rfl)
def F166.b4c (Q:QT) (C4:(ByteArray×Int×Int×Unit)->WT) (x0:ByteArray) (x13:Int) (x14:Int) (w:World):Prop :=
 vIf (decide (x14 < x13))
 (gd (decide (0<=x14)) <|
 gd (decide (x14 < (x0.size:Int))) <|
 vIf (decide ((byteAt x0 (x14).toNat) < 33))
 (Q (VB false) w)
 (vIf (decide ((byteAt x0 (x14).toNat) > 126))
 (Q (VB false) w)
 (vIf ((byteAt x0 (x14).toNat) == 47)
 (Q (VB false) w)
 (jnC C4 (x0,x13,((WR .i64 (x14+1))),()) w))))
 (Q (VB true) w)
def F166.b4 (Q:QT):(ByteArray×Int×Int×Unit)->World->((ByteArray×Int×Int×Unit)->WT)->Prop:=fun s w C4=>∀ _:Nat->Value,F166.b4c Q C4 s.1 s.2.1 s.2.2.1 w
def F166.l4 (Q:QT):(ByteArray×Int×Int×Unit)->WT:=fun s w=>∃ n,loopC (F166.b4 Q) n s w
def F166.k3c (Q:QT) (x0:ByteArray) (w:World):Prop :=
 jnC (F166.l4 Q) (x0,((x0.size:Int)),(0),()) w
def F166.k3 (Q:QT):(ByteArray×Unit)->WT:=fun s w=>∀ _:Nat->Value,F166.k3c Q s.1 w
def F166.vc (x0:ByteArray) (w:World) (Q:QT):Prop :=
 vIf (x0.toList == (⟨#[]⟩:ByteArray).toList)
 (Q (VB false) w)
 (vIf (decide ((x0.size:Int) > 32))
 (Q (VB false) w)
 (jnC (F166.k3 Q) (x0,()) w))
def F166.an:Ann:=⟨[(4,[(0,.kS),(13,.kI .i64),(14,.kI .i64)])],[(3,[(0,.kS)])]⟩
theorem F166.of (x0:ByteArray) (w:World) {Q:QT} (h:F166.vc x0 w Q):Calls Tryz.prog 166 #[VG x0] w (fun e w'=>∃ v,e=.returned v/\Q v w'):=vcFn_of (A:=F166.an) noCount mixed h (by kernel_rfl)
def F99.vc (x0:List Value) (w:World) (Q:QT):Prop :=
 nw w x0 50 fun b1 w2 =>
 ldA 2 w2 b1 0 fun a3 =>
 ldSl w2 b1 (0+1) fun A4 n5 c6 =>
 Calls Tryz.prog 52 #[ofL a3,VI .i64 (n5:Int)] w2 fun e8 w7 =>
 ∃ (A9:Option Addr) (n10 c11:Nat),e8=.returned (VS A9 n10 c11)/\(
 Q (VS A9 n10 c11) w7)
def F99.an:Ann:=⟨[],[]⟩
theorem F99.of (x0:List Value) (w:World) {Q:QT} (h:F99.vc x0 w Q):Calls Tryz.prog 99 #[ofL x0] w (fun e w'=>∃ v,e=.returned v/\Q v w'):=vcFn_of (A:=F99.an) noCount mixed h (by kernel_rfl)
def F75.vc (x0:List Value) (x1:ByteArray) (w:World) (Q:QT):Prop :=
 nw w x0 50 fun b1 w2 =>
 ldA 2 w2 b1 0 fun a3 =>
 Calls Tryz.prog 99 #[ofL a3] w2 fun e5 w4 =>
 ∃ (A6:Option Addr) (n7 c8:Nat),e5=.returned (VS A6 n7 c8)/\(
 Calls Tryz.prog 100 #[VS A6 n7 c8,VG x1,Value.func (.func 101) #[] #[]] w4 fun e10 w9 =>
 ∃ i11:Int,∃ t12:Bool,e10=.returned (VT #[VI .i64 i11,VB t12])/\(
 vIf (!t12)
 (Q (VT #[VI .i64 0,VB false]) w9)
 (dr A6 fun b13 o14 =>
 gd (decide (0<=i11)) <|
 gd (decide (i11 < (n7:Int))) <|
 ldI .i64 w9 b13 ((o14+(i11).toNat * 2)+1) fun i15 =>
 Q (VT #[VI .i64 i15,VB true]) w9)))
def F75.an:Ann:=⟨[],[]⟩
theorem F75.of (x0:List Value) (x1:ByteArray) (w:World) {Q:QT} (h:F75.vc x0 x1 w Q):Calls Tryz.prog 75 #[ofL x0,VG x1] w (fun e w'=>∃ v,e=.returned v/\Q v w'):=vcFn_of (A:=F75.an) noCount mixed h (by kernel_rfl)
def F96.vc (x0:List Value) (w:World) (Q:QT):Prop :=
 nw w x0 50 fun b1 w2 =>
 nw w2 [VS none 0 0,VS none 0 0] 50 fun b3 w4 =>
 ldA 2 w4 b1 0 fun a5 =>
 Calls Tryz.prog 99 #[ofL a5] w4 fun e7 w6 =>
 ∃ (A8:Option Addr) (n9 c10:Nat),e7=.returned (VS A8 n9 c10)/\(
 gd (([VS A8 n9 c10] ++ ([VS none 0 0] ++ [])).length == 2) <|
 st w6 b3 0 ([VS A8 n9 c10] ++ ([VS none 0 0] ++ [])) fun w11 =>
 ldA 2 w11 b3 0 fun a12 =>
 Q (ofL a12) w11)
def F96.an:Ann:=⟨[],[]⟩
theorem F96.of (x0:List Value) (w:World) {Q:QT} (h:F96.vc x0 w Q):Calls Tryz.prog 96 #[ofL x0] w (fun e w'=>∃ v,e=.returned v/\Q v w'):=vcFn_of (A:=F96.an) noCount mixed h (by kernel_rfl)
def F151.k13c (Q:QT) (x6:Bool) (w:World):Prop :=
 vIf (!x6)
 (Q (VI .i64 6) w)
 (Q (VI .i64 0) w)
def F151.k13 (Q:QT):(Bool×Unit)->WT:=fun s w=>∀ _:Nat->Value,F151.k13c Q s.1 w
def F151.vc (x0:List Value) (x1:List Value) (w:World) (Q:QT):Prop :=
 nw w x0 50 fun b1 w2 =>
 nw w2 x1 147 fun b3 w4 =>
 ldA 2 w4 b1 0 fun a5 =>
 ldS w4 b3 (0+1) fun s6 =>
 Calls Tryz.prog 75 #[ofL a5,VG s6] w4 fun e8 w7 =>
 ∃ i9:Int,∃ t10:Bool,e8=.returned (VT #[VI .i64 i9,VB t10])/\(
 ldI .i64 w7 b3 0 fun i11 =>
 vIf (i11 == 1)
 (ldS w7 b3 (0+1) fun s12 =>
 Calls Tryz.prog 166 #[VG s12] w7 fun e14 w13 =>
 ∃ t15:Bool,e14=.returned (VB t15)/\(
 vIf (!t15)
 (Q (VI .i64 12) w13)
 (vIf t10
 (Q (VI .i64 7) w13)
 (Q (VI .i64 0) w13))))
 (vIf (i11 == 2)
 (vIf t10
 (ldS w7 b3 (0+2) fun s16 =>
 Calls Tryz.prog 166 #[VG s16] w7 fun e18 w17 =>
 ∃ t19:Bool,e18=.returned (VB t19)/\(
 vIf (!t19)
 (Q (VI .i64 12) w17)
 (jnC (F151.k13 Q) (t10,()) w17)))
 (jnC (F151.k13 Q) (t10,()) w7))
 (vIf (i11 == 3)
 (jnC (F151.k13 Q) (t10,()) w7)
 (Q (VI .i64 2) w7))))
def F151.an:Ann:=⟨[],[(13,[(6,.kB)])]⟩
theorem F151.of (x0:List Value) (x1:List Value) (w:World) {Q:QT} (h:F151.vc x0 x1 w Q):Calls Tryz.prog 151 #[ofL x0,ofL x1] w (fun e w'=>∃ v,e=.returned v/\Q v w'):=vcFn_of (A:=F151.an) noCount mixed h (by kernel_rfl)
def F130.vc (x0:List Value) (x1:List Value) (w:World) (Q:QT):Prop :=
 nw w x0 50 fun b1 w2 =>
 nw w2 x1 147 fun b3 w4 =>
 nw w4 [VS none 0 0,VS none 0 0] 50 fun b5 w6 =>
 ldA 2 w6 b1 0 fun a7 =>
 ldA 4 w6 b3 0 fun a8 =>
 Calls Tryz.prog 151 #[ofL a7,ofL a8] w6 fun e10 w9 =>
 ∃ i11:Int,e10=.returned (VI .i64 i11)/\(
 vIf (i11 != 0)
 (ldA 2 w9 b1 0 fun a12 =>
 gd (a12.length == 2) <|
 st w9 b5 0 a12 fun w13 =>
 ldA 2 w13 b5 0 fun a14 =>
 Q (VT #[ofL a14,VI .i64 i11]) w13)
 (ldSl w9.drew b1 0 fun A15 n16 c17 =>
 ldSl w9.drew b1 (0+1) fun A18 n19 c20 =>
 ldA 4 w9.drew b3 0 fun a21 =>
 (Calls Tryz.prog 152 #[VS A18 n19 c20] w9.drew fun e23 w22 =>
 ∃ (A24:Option Addr) (n25 c26:Nat),e23=.returned (VS A24 n25 c26)/\(
 kp w9.drew b3 0 4 w22 <|
 kp w9.drew b1 0 1 w22 <|
 gd (a21.length == 4) <|
 nw w22 (a21 ++ []) 147 fun b27 w28 =>
 kp w9.drew b1 (0+1) 1 w28 <|
 kp w9.drew b1 0 1 w28 <|
 app w28 4 48 Z147 147 A24 n25 c26 (VS (some ⟨b27,0,none⟩) 1 1) fun A29 n30 c31 w32 =>
 kp w9.drew b1 0 1 w32 <|
 gd (([VS A15 n16 c17] ++ ([VS A29 n30 c31] ++ [])).length == 2) <|
 st w32 b5 0 ([VS A15 n16 c17] ++ ([VS A29 n30 c31] ++ [])) fun w33 =>
 ldA 2 w33 b5 0 fun a34 =>
 Q (VT #[ofL a34,VI .i64 0]) w33)) /\
 (gd (a21.length == 4) <|
 nw w9.drew (a21 ++ []) 147 fun b35 w36 =>
 kp w9.drew b1 (0+1) 1 w36 <|
 kp w9.drew b1 0 1 w36 <|
 Calls Tryz.prog 152 #[VS A18 n19 c20] w36 fun e38 w37 =>
 ∃ (A39:Option Addr) (n40 c41:Nat),e38=.returned (VS A39 n40 c41)/\(
 kp w9.drew b3 0 4 w37 <|
 kp w9.drew b1 0 1 w37 <|
 app w37 4 48 Z147 147 A39 n40 c41 (VS (some ⟨b35,0,none⟩) 1 1) fun A42 n43 c44 w45 =>
 kp w9.drew b1 0 1 w45 <|
 gd (([VS A15 n16 c17] ++ ([VS A42 n43 c44] ++ [])).length == 2) <|
 st w45 b5 0 ([VS A15 n16 c17] ++ ([VS A42 n43 c44] ++ [])) fun w46 =>
 ldA 2 w46 b5 0 fun a47 =>
 Q (VT #[ofL a47,VI .i64 0]) w46))))
def F130.an:Ann:=⟨[],[]⟩
theorem F130.of (x0:List Value) (x1:List Value) (w:World) {Q:QT} (h:F130.vc x0 x1 w Q):Calls Tryz.prog 130 #[ofL x0,ofL x1] w (fun e w'=>∃ v,e=.returned v/\Q v w'):=vcFn_of (A:=F130.an) noCount mixed h (by kernel_rfl)
def F54.k15c (Q:QT) (C4:(ST×Int×Unit)->WT) (x0:ST) (x3:Int) (w:World):Prop :=
 gd (decide (0<=x3)) <|
 gd (decide (x3<=(x0.2.2:Int))) <|
 Q (VS (slA x0.1 x0.2.2 0 1) (x3).toNat x0.2.2) w
def F54.k15 (Q:QT) (C4:(ST×Int×Unit)->WT):(ST×Int×Unit)->WT:=fun s w=>∀ _:Nat->Value,F54.k15c Q C4 s.1 s.2.1 w
def F54.b9c (Q:QT) (C4:(ST×Int×Unit)->WT) (C9:(ST×Int×ST×Int×Unit)->WT) (x0:ST) (x3:Int) (x4:ST) (x5:Int) (w:World):Prop :=
 vIf (decide (x5 < (x4.2.1:Int)))
 (dr x4.1 fun b7 o8 =>
 gd (decide (0<=x5)) <|
 gd (decide (x5 < (x4.2.1:Int))) <|
 ldI .i64 w.drew b7 (o8+(x5).toNat * 1) fun i9 =>
 dr x4.1 fun b10 o11 =>
 gd (decide (0<=(WR .i64 (x5 - 1)))) <|
 gd (decide ((WR .i64 (x5 - 1)) < (x4.2.1:Int))) <|
 ldI .i64 w.drew b10 (o11+((WR .i64 (x5 - 1))).toNat * 1) fun i12 =>
 vIf (i9 != i12)
 (dr x4.1 fun b13 o14 =>
 gd (decide (0<=x5)) <|
 gd (decide (x5 < (x4.2.1:Int))) <|
 ldI .i64 w.drew b13 (o14+(x5).toNat * 1) fun i15 =>
 dr x0.1 fun b16 o17 =>
 gd (decide (0<=x3)) <|
 gd (decide (x3 < (x0.2.1:Int))) <|
 st w.drew b16 (o17+(x3).toNat * 1) [VI .i64 i15] fun w18 =>
 jnC C9 ((x0.1,x0.2.1,x0.2.2),((WR .i64 (x3+1))),(x4.1,x4.2.1,x4.2.2),((WR .i64 (x5+1))),()) w18)
 (jnC C9 ((x0.1,x0.2.1,x0.2.2),x3,(x4.1,x4.2.1,x4.2.2),((WR .i64 (x5+1))),()) w.drew))
 (gd (decide (0<=x3)) <|
 gd (decide (x3<=(x0.2.1:Int))) <|
 vIf ((x0.2.1 - (x3).toNat) == 0)
 (jnC (F54.k15 Q C4) ((x0.1,x0.2.1,x0.2.2),x3,()) w)
 (dr (slA x0.1 x0.2.2 (x3).toNat 1) fun b20 o21 =>
 st w b20 o21 (zeros (x0.2.1 - (x3).toNat) [VI .i64 0]) fun w19 =>
 jnC (F54.k15 Q C4) ((x0.1,x0.2.1,x0.2.2),x3,()) w19))
def F54.b9 (Q:QT) (C4:(ST×Int×Unit)->WT):(ST×Int×ST×Int×Unit)->World->((ST×Int×ST×Int×Unit)->WT)->Prop:=fun s w C9=>∀ _:Nat->Value,F54.b9c Q C4 C9 s.1 s.2.1 s.2.2.1 s.2.2.2.1 w
def F54.l9 (Q:QT) (C4:(ST×Int×Unit)->WT):(ST×Int×ST×Int×Unit)->WT:=fun s w=>∃ n,loopC (F54.b9 Q C4) n s w
def F54.b4c (Q:QT) (C4:(ST×Int×Unit)->WT) (x0:ST) (x3:Int) (w:World):Prop :=
 vIf (decide (x3 < (x0.2.1:Int)))
 (dr x0.1 fun b1 o2 =>
 gd (decide (0<=x3)) <|
 gd (decide (x3 < (x0.2.1:Int))) <|
 ldI .i64 w.drew b1 (o2+(x3).toNat * 1) fun i3 =>
 dr x0.1 fun b4 o5 =>
 gd (decide (0<=(WR .i64 (x3 - 1)))) <|
 gd (decide ((WR .i64 (x3 - 1)) < (x0.2.1:Int))) <|
 ldI .i64 w.drew b4 (o5+((WR .i64 (x3 - 1))).toNat * 1) fun i6 =>
 vIf (i3 == i6)
 (gd (decide (0<=x3)) <|
 gd (decide (x3<=(x0.2.1:Int))) <|
 jnC (F54.l9 Q C4) ((x0.1,x0.2.1,x0.2.2),x3,((slA x0.1 x0.2.2 (x3).toNat 1),(x0.2.1 - (x3).toNat),(x0.2.2 - (x3).toNat)),(1),()) w.drew)
 (jnC C4 ((x0.1,x0.2.1,x0.2.2),((WR .i64 (x3+1))),()) w.drew))
 (Q (VS x0.1 x0.2.1 x0.2.2) w)
def F54.b4 (Q:QT):(ST×Int×Unit)->World->((ST×Int×Unit)->WT)->Prop:=fun s w C4=>∀ _:Nat->Value,F54.b4c Q C4 s.1 s.2.1 w
def F54.l4 (Q:QT):(ST×Int×Unit)->WT:=fun s w=>∃ n,loopC (F54.b4 Q) n s w
def F54.vc (x0A:Option Addr) (x0n x0c:Nat) (w:World) (Q:QT):Prop :=
 vIf (decide ((x0n:Int) < 2))
 (Q (VS x0A x0n x0c) w)
 (jnC (F54.l4 Q) ((x0A,x0n,x0c),(1),()) w)
def F54.an:Ann:=⟨[(4,[(0,.kSl),(3,.kI .i64)]),(9,[(0,.kSl),(3,.kI .i64),(4,.kSl),(5,.kI .i64)])],[(15,[(0,.kSl),(3,.kI .i64)])]⟩
theorem F54.of (x0A:Option Addr) (x0n x0c:Nat) (w:World) {Q:QT} (h:F54.vc x0A x0n x0c w Q):Calls Tryz.prog 54 #[VS x0A x0n x0c] w (fun e w'=>∃ v,e=.returned v/\Q v w'):=vcFn_of (A:=F54.an) noCount mixed h (by kernel_rfl)
def F30.b6c (Q:QT) (C3:(NT×ST×Int×Int×Unit)->WT) (C6:(NT×ST×Int×Int×ST×Int×Int×Unit)->WT) (x1:NT) (x3:ST) (x10:Int) (x11:Int) (x16:ST) (x17:Int) (x18:Int) (w:World):Prop :=
 vIf (decide (x18 < x17))
 (dr x16.1 fun b12 o13 =>
 gd (decide (0<=x18)) <|
 gd (decide (x18 < (x16.2.1:Int))) <|
 ldA 2 w b12 (o13+(x18).toNat * 2) fun a14 =>
 nw w [VG (⟨#[]⟩:ByteArray),VI .i64 0] 110 fun b15 w16 =>
 gd (a14.length == 2) <|
 st w16 b15 0 a14 fun w17 =>
 ldI .i64 w17 b15 (0+1) fun i18 =>
 nw w17 ([VI .i64 i18] ++ []) 3 fun b19 w20 =>
 app w20 1 8 [VI .i64 0] 3 x3.1 x3.2.1 x3.2.2 (VS (some ⟨b19,0,none⟩) 1 1) fun A21 n22 c23 w24 =>
 jnC C6 ((x1.1,x1.2),(A21,n22,c23),x10,x11,(x16.1,x16.2.1,x16.2.2),x17,((WR .i64 (x18+1))),()) w24)
 (jnC C3 ((x1.1,x1.2),(x3.1,x3.2.1,x3.2.2),x10,((WR .i64 (x11+1))),()) w)
def F30.b6 (Q:QT) (C3:(NT×ST×Int×Int×Unit)->WT):(NT×ST×Int×Int×ST×Int×Int×Unit)->World->((NT×ST×Int×Int×ST×Int×Int×Unit)->WT)->Prop:=fun s w C6=>∀ _:Nat->Value,F30.b6c Q C3 C6 s.1 s.2.1 s.2.2.1 s.2.2.2.1 s.2.2.2.2.1 s.2.2.2.2.2.1 s.2.2.2.2.2.2.1 w
def F30.l6 (Q:QT) (C3:(NT×ST×Int×Int×Unit)->WT):(NT×ST×Int×Int×ST×Int×Int×Unit)->WT:=fun s w=>∃ n,loopC (F30.b6 Q C3) n s w
def F30.b3c (Q:QT) (C3:(NT×ST×Int×Int×Unit)->WT) (x1:NT) (x3:ST) (x10:Int) (x11:Int) (w:World):Prop :=
 vIf (decide (x11 < x10))
 (ldA 2 w x1.1 x1.2 fun a6 =>
 Calls Tryz.prog 52 #[ofL a6,VI .i64 x11] w fun e8 w7 =>
 ∃ (A9:Option Addr) (n10 c11:Nat),e8=.returned (VS A9 n10 c11)/\(
 jnC (F30.l6 Q C3) ((x1.1,x1.2),(x3.1,x3.2.1,x3.2.2),x10,x11,(A9,n10,c11),((n10:Int)),(0),()) w7))
 (Calls Tryz.prog 53 #[VS x3.1 x3.2.1 x3.2.2] w fun e26 w25 =>
 e26=.returned (VT #[])/\(
 Calls Tryz.prog 54 #[VS x3.1 x3.2.1 x3.2.2] w25 fun e28 w27 =>
 ∃ (A29:Option Addr) (n30 c31:Nat),e28=.returned (VS A29 n30 c31)/\(
 Q (VS A29 n30 c31) w27)))
def F30.b3 (Q:QT):(NT×ST×Int×Int×Unit)->World->((NT×ST×Int×Int×Unit)->WT)->Prop:=fun s w C3=>∀ _:Nat->Value,F30.b3c Q C3 s.1 s.2.1 s.2.2.1 s.2.2.2.1 w
def F30.l3 (Q:QT):(NT×ST×Int×Int×Unit)->WT:=fun s w=>∃ n,loopC (F30.b3 Q) n s w
def F30.vc (x0:List Value) (w:World) (Q:QT):Prop :=
 nw w x0 50 fun b1 w2 =>
 ldSl w2 b1 (0+1) fun A3 n4 c5 =>
 jnC (F30.l3 Q) ((b1,0),(none,0,0),((WR .i64 ((n4:Int)+1))),(0),()) w2
def F30.an:Ann:=⟨[(3,[(1,.kL),(3,.kSl),(10,.kI .i64),(11,.kI .i64)]),(6,[(1,.kL),(3,.kSl),(10,.kI .i64),(11,.kI .i64),(16,.kSl),(17,.kI .i64),(18,.kI .i64)])],[]⟩
theorem F30.of (x0:List Value) (w:World) {Q:QT} (h:F30.vc x0 w Q):Calls Tryz.prog 30 #[ofL x0] w (fun e w'=>∃ v,e=.returned v/\Q v w'):=vcFn_of (A:=F30.an) noCount mixed h (by kernel_rfl)
def F28.vc (x0A:Option Addr) (x0n x0c:Nat) (w:World) (Q:QT):Prop :=
 vIf x0A.isNone
 (Q (VS none 0 0) w)
 (nw w [] 5 fun b1 w2 =>
 app w2 1 1 [VI .u8 0] 5 (some ⟨b1,0,none⟩) 0 0 (VS x0A x0n x0c) fun A3 n4 c5 w6 =>
 Q (VS A3 n4 c5) w6)
def F28.an:Ann:=⟨[],[]⟩
theorem F28.of (x0A:Option Addr) (x0n x0c:Nat) (w:World) {Q:QT} (h:F28.vc x0A x0n x0c w Q):Calls Tryz.prog 28 #[VS x0A x0n x0c] w (fun e w'=>∃ v,e=.returned v/\Q v w'):=vcFn_of (A:=F28.an) noCount mixed h (by kernel_rfl)
def F109.vc (x0:List Value) (w:World) (Q:QT):Prop :=
 nw w x0 158 fun b1 w2 =>
 ldI .i64 w2 b1 (0+1) fun i3 =>
 vIf (decide (i3 >= 0))
 (ldI .i64 w2 b1 (0+1) fun i4 =>
 ldSl w2 b1 (0+2) fun A5 n6 c7 =>
 Q (VB (decide (i4<=(WR .i64 (1048576 - (n6:Int)))))) w2)
 (Q (VB false) w2)
def F109.an:Ann:=⟨[],[]⟩
theorem F109.of (x0:List Value) (w:World) {Q:QT} (h:F109.vc x0 w Q):Calls Tryz.prog 109 #[ofL x0] w (fun e w'=>∃ v,e=.returned v/\Q v w'):=vcFn_of (A:=F109.an) noCount mixed h (by kernel_rfl)
def F154.k5c (Q:QT) (x0:ST) (x3:NT) (w:World):Prop :=
 ldI .i64 w x3.1 (x3.2+1) fun i19 =>
 ldSl w x3.1 (x3.2+2) fun A20 n21 c22 =>
 gd (decide (0<=(if (x0.2.1:Int) < (WR .i64 (i19+(n21:Int))) then (WR .i64 (i19+(n21:Int))) else (x0.2.1:Int)))) <|
 gd (decide ((if (x0.2.1:Int) < (WR .i64 (i19+(n21:Int))) then (WR .i64 (i19+(n21:Int))) else (x0.2.1:Int))<=(if (x0.2.1:Int) < (WR .i64 (i19+(n21:Int))) then (WR .i64 (i19+(n21:Int))) else (x0.2.1:Int)))) <|
 gd (decide ((if (x0.2.1:Int) < (WR .i64 (i19+(n21:Int))) then (WR .i64 (i19+(n21:Int))) else (x0.2.1:Int)) * 1<=281474976710656/\(if (x0.2.1:Int) < (WR .i64 (i19+(n21:Int))) then (WR .i64 (i19+(n21:Int))) else (x0.2.1:Int))<=9223372036854775807)) <|
 nw w (zeros ((if (x0.2.1:Int) < (WR .i64 (i19+(n21:Int))) then (WR .i64 (i19+(n21:Int))) else (x0.2.1:Int))).toNat [VI .u8 0]) 5 fun b23 w24 =>
 cpy w24 1 (some ⟨b23,0,none⟩) (((if (x0.2.1:Int) < (WR .i64 (i19+(n21:Int))) then (WR .i64 (i19+(n21:Int))) else (x0.2.1:Int))).toNat) (VS x0.1 x0.2.1 x0.2.2) fun n25 w26 =>
 ldI .i64 w26.drew x3.1 (x3.2+1) fun i27 =>
 gd (decide (0<=i27)) <|
 gd (decide (i27<=((((if (x0.2.1:Int) < (WR .i64 (i19+(n21:Int))) then (WR .i64 (i19+(n21:Int))) else (x0.2.1:Int))).toNat:Nat):Int))) <|
 ldSl w26.drew x3.1 (x3.2+2) fun A28 n29 c30 =>
 cpy w26.drew 1 (slA (some ⟨b23,0,none⟩) ((if (x0.2.1:Int) < (WR .i64 (i19+(n21:Int))) then (WR .i64 (i19+(n21:Int))) else (x0.2.1:Int))).toNat (i27).toNat 1) (((if (x0.2.1:Int) < (WR .i64 (i19+(n21:Int))) then (WR .i64 (i19+(n21:Int))) else (x0.2.1:Int))).toNat - (i27).toNat) (VS A28 n29 c30) fun n31 w32 =>
 Q (VS (some ⟨b23,0,none⟩) ((if (x0.2.1:Int) < (WR .i64 (i19+(n21:Int))) then (WR .i64 (i19+(n21:Int))) else (x0.2.1:Int))).toNat ((if (x0.2.1:Int) < (WR .i64 (i19+(n21:Int))) then (WR .i64 (i19+(n21:Int))) else (x0.2.1:Int))).toNat) w32
def F154.k5 (Q:QT):(ST×NT×Unit)->WT:=fun s w=>∀ _:Nat->Value,F154.k5c Q s.1 s.2.1 w
def F154.k2c (Q:QT) (x0:ST) (x3:NT) (x6:Bool) (w:World):Prop :=
 vIf x6
 (Calls Tryz.prog 28 #[VS x0.1 x0.2.1 x0.2.2] w fun e8 w7 =>
 ∃ (A9:Option Addr) (n10 c11:Nat),e8=.returned (VS A9 n10 c11)/\(
 Q (VS A9 n10 c11) w7))
 (ldB w x3.1 x3.2 fun t12 =>
 vIf t12
 (ldI .i64 w x3.1 (x3.2+1) fun i13 =>
 gd (decide (0<=(if (x0.2.1:Int) < i13 then (x0.2.1:Int) else i13))) <|
 gd (decide ((if (x0.2.1:Int) < i13 then (x0.2.1:Int) else i13)<=(x0.2.2:Int))) <|
 Calls Tryz.prog 28 #[VS (slA x0.1 x0.2.2 0 1) ((if (x0.2.1:Int) < i13 then (x0.2.1:Int) else i13)).toNat x0.2.2] w fun e15 w14 =>
 ∃ (A16:Option Addr) (n17 c18:Nat),e15=.returned (VS A16 n17 c18)/\(
 Q (VS A16 n17 c18) w14))
 (jnC (F154.k5 Q) ((x0.1,x0.2.1,x0.2.2),(x3.1,x3.2),()) w))
def F154.k2 (Q:QT):(ST×NT×Bool×Unit)->WT:=fun s w=>∀ _:Nat->Value,F154.k2c Q s.1 s.2.1 s.2.2.1 w
def F154.vc (x0A:Option Addr) (x0n x0c:Nat) (x1:List Value) (w:World) (Q:QT):Prop :=
 nw w x1 158 fun b1 w2 =>
 ldA 3 w2 b1 0 fun a3 =>
 Calls Tryz.prog 109 #[ofL a3] w2 fun e5 w4 =>
 ∃ t6:Bool,e5=.returned (VB t6)/\(
 vIf (!t6)
 (jnC (F154.k2 Q) ((x0A,x0n,x0c),(b1,0),true,()) w4)
 (ldB w4 b1 0 fun t33 =>
 vIf (!t33)
 (ldSl w4 b1 (0+2) fun A34 n35 c36 =>
 jnC (F154.k2 Q) ((x0A,x0n,x0c),(b1,0),((n35:Int) == 0),()) w4)
 (jnC (F154.k2 Q) ((x0A,x0n,x0c),(b1,0),false,()) w4)))
def F154.an:Ann:=⟨[],[(2,[(0,.kSl),(3,.kL),(6,.kB)]),(5,[(0,.kSl),(3,.kL)])]⟩
theorem F154.of (x0A:Option Addr) (x0n x0c:Nat) (x1:List Value) (w:World) {Q:QT} (h:F154.vc x0A x0n x0c x1 w Q):Calls Tryz.prog 154 #[VS x0A x0n x0c,ofL x1] w (fun e w'=>∃ v,e=.returned v/\Q v w'):=vcFn_of (A:=F154.an) noCount mixed h (by kernel_rfl)
def F133.vc (x0:Int) (x1:List Value) (w:World) (Q:QT):Prop :=
 nw w x1 158 fun b1 w2 =>
 nw w2 [VB false,VI .i64 0,VS none 0 0] 158 fun b3 w4 =>
 ldA 3 w4 b1 0 fun a5 =>
 gd (a5.length == 3) <|
 st w4 b3 0 a5 fun w6 =>
 ldA 3 w6 b3 0 fun a7 =>
 Q (VT #[ofL a7,VB true]) w6
def F133.an:Ann:=⟨[],[]⟩
theorem F133.of (x0:Int) (x1:List Value) (w:World) {Q:QT} (h:F133.vc x0 x1 w Q):Calls Tryz.prog 133 #[VI .i64 x0,ofL x1] w (fun e w'=>∃ v,e=.returned v/\Q v w'):=vcFn_of (A:=F133.an) noCount mixed h (by kernel_rfl)
def F102.vc (x0A:Option Addr) (x0n x0c:Nat) (x1A:Option Addr) (x1n x1c:Nat) (w:World) (Q:QT):Prop :=
 Calls Tryz.prog 132 #[VS x0A x0n x0c,VS x1A x1n x1c,Value.func (.func 133) #[] #[]] w fun e2 w1 =>
 ∃ (A3:Option Addr) (n4 c5:Nat),e2=.returned (VS A3 n4 c5)/\(
 Q (VS A3 n4 c5) w1)
def F102.an:Ann:=⟨[],[]⟩
theorem F102.of (x0A:Option Addr) (x0n x0c:Nat) (x1A:Option Addr) (x1n x1c:Nat) (w:World) {Q:QT} (h:F102.vc x0A x0n x0c x1A x1n x1c w Q):Calls Tryz.prog 102 #[VS x0A x0n x0c,VS x1A x1n x1c] w (fun e w'=>∃ v,e=.returned v/\Q v w'):=vcFn_of (A:=F102.an) noCount mixed h (by kernel_rfl)
def F132a.b3c (Q:QT) (C3:(Unit×ST×ST×Int×Int×Unit)->WT) (x2:Unit) (x7:ST) (x14:ST) (x15:Int) (x16:Int) (w:World):Prop :=
 vIf (decide (x16 < x15))
 (dr x14.1 fun b6 o7 =>
 gd (decide (0<=x16)) <|
 gd (decide (x16 < (x14.2.1:Int))) <|
 ldA 3 w b6 (o7+(x16).toNat * 3) fun a8 =>
 nw w [VB false,VI .i64 0,VS none 0 0] 158 fun b9 w10 =>
 gd (a8.length == 3) <|
 st w10 b9 0 a8 fun w11 =>
 ldA 3 w11 b9 0 fun a12 =>
 Calls Tryz.prog 133 #[VI .i64 x16,ofL a12] w11 fun e14 w13 =>
 ∃ a15:List Value,∃ t16:Bool,e14=.returned (VT #[ofL a15,VB t16])/\(
 nw w13 [VB false,VI .i64 0,VS none 0 0] 158 fun b17 w18 =>
 gd (a15.length == 3) <|
 st w18 b17 0 a15 fun w19 =>
 vIf t16
 (ldA 3 w19 b17 0 fun a20 =>
 Calls Tryz.prog 154 #[VS x7.1 x7.2.1 x7.2.2,ofL a20] w19 fun e22 w21 =>
 ∃ (A23:Option Addr) (n24 c25:Nat),e22=.returned (VS A23 n24 c25)/\(
 jnC C3 ((),(A23,n24,c25),(x14.1,x14.2.1,x14.2.2),x15,((WR .i64 (x16+1))),()) w21))
 (jnC C3 ((),(x7.1,x7.2.1,x7.2.2),(x14.1,x14.2.1,x14.2.2),x15,((WR .i64 (x16+1))),()) w19)))
 (Q (VS x7.1 x7.2.1 x7.2.2) w)
def F132a.b3 (Q:QT):(Unit×ST×ST×Int×Int×Unit)->World->((Unit×ST×ST×Int×Int×Unit)->WT)->Prop:=fun s w C3=>∀ _:Nat->Value,F132a.b3c Q C3 s.1 s.2.1 s.2.2.1 s.2.2.2.1 s.2.2.2.2.1 w
def F132a.l3 (Q:QT):(Unit×ST×ST×Int×Int×Unit)->WT:=fun s w=>∃ n,loopC (F132a.b3 Q) n s w
def F132a.vc (x0A:Option Addr) (x0n x0c:Nat) (x1A:Option Addr) (x1n x1c:Nat) (w:World) (Q:QT):Prop :=
 Calls Tryz.prog 28 #[VS x0A x0n x0c] w fun e2 w1 =>
 ∃ (A3:Option Addr) (n4 c5:Nat),e2=.returned (VS A3 n4 c5)/\(
 jnC (F132a.l3 Q) ((),(A3,n4,c5),(x1A,x1n,x1c),((x1n:Int)),(0),()) w1)
def F132a.an:Ann:=⟨[(3,[(2,.kF 133),(7,.kSl),(14,.kSl),(15,.kI .i64),(16,.kI .i64)])],[]⟩
theorem F132a.of (x0A:Option Addr) (x0n x0c:Nat) (x1A:Option Addr) (x1n x1c:Nat) (w:World) {Q:QT} (h:F132a.vc x0A x0n x0c x1A x1n x1c w Q):Calls Tryz.prog 132 #[VS x0A x0n x0c,VS x1A x1n x1c,Value.func (.func 133) #[] #[]] w (fun e w'=>∃ v,e=.returned v/\Q v w'):=vcFn_of (A:=F132a.an) noCount mixed h (by kernel_rfl)
def F84.k5c (Q:QT) (C2:(Int×ST×Int×Int×Unit)->WT) (x0:Int) (x6:NT) (x7:ST) (x8:Int) (x9:Int) (x25:Bool) (w:World):Prop :=
 vIf x25
 (ldI .i64 w x6.1 (x6.2+1) fun i15 =>
 ldSl w x6.1 (x6.2+2) fun A16 n17 c18 =>
 jnC C2 (((if x0 < (WR .i64 (i15+(n17:Int))) then (WR .i64 (i15+(n17:Int))) else x0)),(x7.1,x7.2.1,x7.2.2),x8,((WR .i64 (x9+1))),()) w)
 (jnC C2 (x0,(x7.1,x7.2.1,x7.2.2),x8,((WR .i64 (x9+1))),()) w)
def F84.k5 (Q:QT) (C2:(Int×ST×Int×Int×Unit)->WT):(Int×NT×ST×Int×Int×Bool×Unit)->WT:=fun s w=>∀ _:Nat->Value,F84.k5c Q C2 s.1 s.2.1 s.2.2.1 s.2.2.2.1 s.2.2.2.2.1 s.2.2.2.2.2.1 w
def F84.b2c (Q:QT) (C2:(Int×ST×Int×Int×Unit)->WT) (x0:Int) (x7:ST) (x8:Int) (x9:Int) (w:World):Prop :=
 vIf (decide (x9 < x8))
 (dr x7.1 fun b1 o2 =>
 gd (decide (0<=x9)) <|
 gd (decide (x9 < (x7.2.1:Int))) <|
 ldA 3 w b1 (o2+(x9).toNat * 3) fun a3 =>
 nw w [VB false,VI .i64 0,VS none 0 0] 158 fun b4 w5 =>
 gd (a3.length == 3) <|
 st w5 b4 0 a3 fun w6 =>
 ldA 3 w6 b4 0 fun a7 =>
 Calls Tryz.prog 109 #[ofL a7] w6 fun e9 w8 =>
 ∃ t10:Bool,e9=.returned (VB t10)/\(
 vIf t10
 (ldB w8 b4 0 fun t11 =>
 vIf (!t11)
 (ldSl w8 b4 (0+2) fun A12 n13 c14 =>
 jnC (F84.k5 Q C2) (x0,(b4,0),(x7.1,x7.2.1,x7.2.2),x8,x9,(decide ((n13:Int) > 0)),()) w8)
 (jnC (F84.k5 Q C2) (x0,(b4,0),(x7.1,x7.2.1,x7.2.2),x8,x9,false,()) w8))
 (jnC (F84.k5 Q C2) (x0,(b4,0),(x7.1,x7.2.1,x7.2.2),x8,x9,false,()) w8)))
 (Q (VI .i64 x0) w)
def F84.b2 (Q:QT):(Int×ST×Int×Int×Unit)->World->((Int×ST×Int×Int×Unit)->WT)->Prop:=fun s w C2=>∀ _:Nat->Value,F84.b2c Q C2 s.1 s.2.1 s.2.2.1 s.2.2.2.1 w
def F84.l2 (Q:QT):(Int×ST×Int×Int×Unit)->WT:=fun s w=>∃ n,loopC (F84.b2 Q) n s w
def F84.vc (x0:Int) (x1A:Option Addr) (x1n x1c:Nat) (w:World) (Q:QT):Prop :=
 jnC (F84.l2 Q) (x0,(x1A,x1n,x1c),((x1n:Int)),(0),()) w
def F84.an:Ann:=⟨[(2,[(0,.kI .i64),(7,.kSl),(8,.kI .i64),(9,.kI .i64)])],[(5,[(0,.kI .i64),(6,.kL),(7,.kSl),(8,.kI .i64),(9,.kI .i64),(25,.kB)])]⟩
theorem F84.of (x0:Int) (x1A:Option Addr) (x1n x1c:Nat) (w:World) {Q:QT} (h:F84.vc x0 x1A x1n x1c w Q):Calls Tryz.prog 84 #[VI .i64 x0,VS x1A x1n x1c] w (fun e w'=>∃ v,e=.returned v/\Q v w'):=vcFn_of (A:=F84.an) noCount mixed h (by kernel_rfl)
def F153.k3c (Q:QT) (x0:ST) (x1:Int) (w:World):Prop :=
 vIf (decide ((WR .i64 (x1 - (WR .i64 ((x0.2.2:Int) - (x0.2.1:Int))))) > 0))
 (gd (decide (0<=(x0.2.2:Int))) <|
 gd (decide ((x0.2.2:Int)<=(x0.2.2:Int))) <|
 appZ w 3 40 [VB false,VI .i64 0,VS none 0 0] 158 (slA x0.1 x0.2.2 0 3) (((x0.2.2:Int)).toNat) x0.2.2 (WR .i64 (x1 - (WR .i64 ((x0.2.2:Int) - (x0.2.1:Int))))) fun A1 n2 c3 w4 =>
 gd (decide (0<=(x0.2.1:Int))) <|
 gd (decide ((x0.2.1:Int)<=(c3:Int))) <|
 Q (VS (slA A1 c3 0 3) ((x0.2.1:Int)).toNat c3) w4)
 (Q (VS x0.1 x0.2.1 x0.2.2) w)
def F153.k3 (Q:QT):(ST×Int×Unit)->WT:=fun s w=>∀ _:Nat->Value,F153.k3c Q s.1 s.2.1 w
def F153.vc (x0A:Option Addr) (x0n x0c:Nat) (x1:Int) (w:World) (Q:QT):Prop :=
 vIf (decide (x1 < 0))
 (False)
 (jnC (F153.k3 Q) ((x0A,x0n,x0c),x1,()) w)
def F153.an:Ann:=⟨[],[(3,[(0,.kSl),(1,.kI .i64)])]⟩
theorem F153.of (x0A:Option Addr) (x0n x0c:Nat) (x1:Int) (w:World) {Q:QT} (h:F153.vc x0A x0n x0c x1 w Q):Calls Tryz.prog 153 #[VS x0A x0n x0c,VI .i64 x1] w (fun e w'=>∃ v,e=.returned v/\Q v w'):=vcFn_of (A:=F153.an) noCount mixed h (by kernel_rfl)
def F131.b11c (Q:QT) (C11:(ST×ST×Int×Int×Unit)->WT) (x6:ST) (x25:ST) (x26:Int) (x27:Int) (w:World):Prop :=
 vIf (decide (x27 < x26))
 (dr x25.1 fun b11 o12 =>
 gd (decide (0<=x27)) <|
 gd (decide (x27 < (x25.2.1:Int))) <|
 ldSl w b11 (o12+(x27).toNat * 1) fun A13 n14 c15 =>
 app w 3 40 [VB false,VI .i64 0,VS none 0 0] 158 x6.1 x6.2.1 x6.2.2 (VS A13 n14 c15) fun A16 n17 c18 w19 =>
 jnC C11 ((A16,n17,c18),(x25.1,x25.2.1,x25.2.2),x26,((WR .i64 (x27+1))),()) w19)
 (Q (VS x6.1 x6.2.1 x6.2.2) w)
def F131.b11 (Q:QT):(ST×ST×Int×Int×Unit)->World->((ST×ST×Int×Int×Unit)->WT)->Prop:=fun s w C11=>∀ _:Nat->Value,F131.b11c Q C11 s.1 s.2.1 s.2.2.1 s.2.2.2.1 w
def F131.l11 (Q:QT):(ST×ST×Int×Int×Unit)->WT:=fun s w=>∃ n,loopC (F131.b11 Q) n s w
def F131.b3c (Q:QT) (C3:(ST×Int×ST×Int×Int×Unit)->WT) (x0:ST) (x3:Int) (x9:ST) (x10:Int) (x11:Int) (w:World):Prop :=
 vIf (decide (x11 < x10))
 (dr x9.1 fun b1 o2 =>
 gd (decide (0<=x11)) <|
 gd (decide (x11 < (x9.2.1:Int))) <|
 ldSl w b1 (o2+(x11).toNat * 1) fun A3 n4 c5 =>
 vIf (decide ((WR .i64 (x3+(n4:Int))) < 0))
 (False)
 (jnC C3 ((x0.1,x0.2.1,x0.2.2),((WR .i64 (x3+(n4:Int)))),(x9.1,x9.2.1,x9.2.2),x10,((WR .i64 (x11+1))),()) w))
 (Calls Tryz.prog 153 #[VS none 0 0,VI .i64 x3] w fun e7 w6 =>
 ∃ (A8:Option Addr) (n9 c10:Nat),e7=.returned (VS A8 n9 c10)/\(
 jnC (F131.l11 Q) ((A8,n9,c10),(x0.1,x0.2.1,x0.2.2),((x0.2.1:Int)),(0),()) w6))
def F131.b3 (Q:QT):(ST×Int×ST×Int×Int×Unit)->World->((ST×Int×ST×Int×Int×Unit)->WT)->Prop:=fun s w C3=>∀ _:Nat->Value,F131.b3c Q C3 s.1 s.2.1 s.2.2.1 s.2.2.2.1 s.2.2.2.2.1 w
def F131.l3 (Q:QT):(ST×Int×ST×Int×Int×Unit)->WT:=fun s w=>∃ n,loopC (F131.b3 Q) n s w
def F131.vc (x0A:Option Addr) (x0n x0c:Nat) (w:World) (Q:QT):Prop :=
 jnC (F131.l3 Q) ((x0A,x0n,x0c),(0),(x0A,x0n,x0c),((x0n:Int)),(0),()) w
def F131.an:Ann:=⟨[(3,[(0,.kSl),(3,.kI .i64),(9,.kSl),(10,.kI .i64),(11,.kI .i64)]),(11,[(6,.kSl),(25,.kSl),(26,.kI .i64),(27,.kI .i64)])],[]⟩
theorem F131.of (x0A:Option Addr) (x0n x0c:Nat) (w:World) {Q:QT} (h:F131.vc x0A x0n x0c w Q):Calls Tryz.prog 131 #[VS x0A x0n x0c] w (fun e w'=>∃ v,e=.returned v/\Q v w'):=vcFn_of (A:=F131.an) noCount mixed h (by kernel_rfl)
def F76.vc (x0:List Value) (w:World) (Q:QT):Prop :=
 nw w x0 107 fun b1 w2 =>
 ldSl w2 b1 0 fun A3 n4 c5 =>
 ldSl w2 b1 (0+1) fun A6 n7 c8 =>
 Calls Tryz.prog 102 #[VS A3 n4 c5,VS A6 n7 c8] w2 fun e10 w9 =>
 ∃ (A11:Option Addr) (n12 c13:Nat),e10=.returned (VS A11 n12 c13)/\(
 Q (VS A11 n12 c13) w9)
def F76.an:Ann:=⟨[],[]⟩
theorem F76.of (x0:List Value) (w:World) {Q:QT} (h:F76.vc x0 w Q):Calls Tryz.prog 76 #[ofL x0] w (fun e w'=>∃ v,e=.returned v/\Q v w'):=vcFn_of (A:=F76.an) noCount mixed h (by kernel_rfl)
def F51.vc (x0:List Value) (w:World) (Q:QT):Prop :=
 nw w x0 107 fun b1 w2 =>
 ldSl w2 b1 0 fun A3 n4 c5 =>
 ldSl w2 b1 (0+1) fun A6 n7 c8 =>
 Calls Tryz.prog 84 #[VI .i64 (n4:Int),VS A6 n7 c8] w2 fun e10 w9 =>
 ∃ i11:Int,e10=.returned (VI .i64 i11)/\(
 Q (VI .i64 i11) w9)
def F51.an:Ann:=⟨[],[]⟩
theorem F51.of (x0:List Value) (w:World) {Q:QT} (h:F51.vc x0 w Q):Calls Tryz.prog 51 #[ofL x0] w (fun e w'=>∃ v,e=.returned v/\Q v w'):=vcFn_of (A:=F51.an) noCount mixed h (by kernel_rfl)
def F74.vc (x0:List Value) (w:World) (Q:QT):Prop :=
 nw w x0 107 fun b1 w2 =>
 nw w2 [VS none 0 0,VS none 0 0] 107 fun b3 w4 =>
 ldA 2 w4 b1 0 fun a5 =>
 Calls Tryz.prog 76 #[ofL a5] w4 fun e7 w6 =>
 ∃ (A8:Option Addr) (n9 c10:Nat),e7=.returned (VS A8 n9 c10)/\(
 gd (([VS A8 n9 c10] ++ ([VS none 0 0] ++ [])).length == 2) <|
 st w6 b3 0 ([VS A8 n9 c10] ++ ([VS none 0 0] ++ [])) fun w11 =>
 ldA 2 w11 b3 0 fun a12 =>
 Q (ofL a12) w11)
def F74.an:Ann:=⟨[],[]⟩
theorem F74.of (x0:List Value) (w:World) {Q:QT} (h:F74.vc x0 w Q):Calls Tryz.prog 74 #[ofL x0] w (fun e w'=>∃ v,e=.returned v/\Q v w'):=vcFn_of (A:=F74.an) noCount mixed h (by kernel_rfl)
def F98.vc (x0:List Value) (x1A:Option Addr) (x1n x1c:Nat) (w:World) (Q:QT):Prop :=
 nw w x0 107 fun b1 w2 =>
 nw w2 [VS none 0 0,VS none 0 0] 107 fun b3 w4 =>
 ldSl w4.drew b1 0 fun A5 n6 c7 =>
 ldSl w4.drew b1 (0+1) fun A8 n9 c10 =>
 nw w4.drew ([VS A8 n9 c10] ++ ([VS x1A x1n x1c] ++ [])) 105 fun b11 w12 =>
 kp w4.drew b1 0 1 w12 <|
 Calls Tryz.prog 131 #[VS (some ⟨b11,0,none⟩) 2 2] w12 fun e14 w13 =>
 ∃ (A15:Option Addr) (n16 c17:Nat),e14=.returned (VS A15 n16 c17)/\(
 kp w4.drew b1 0 1 w13 <|
 gd (([VS A5 n6 c7] ++ ([VS A15 n16 c17] ++ [])).length == 2) <|
 st w13 b3 0 ([VS A5 n6 c7] ++ ([VS A15 n16 c17] ++ [])) fun w18 =>
 ldA 2 w18 b3 0 fun a19 =>
 Q (ofL a19) w18)
def F98.an:Ann:=⟨[],[]⟩
theorem F98.of (x0:List Value) (x1A:Option Addr) (x1n x1c:Nat) (w:World) {Q:QT} (h:F98.vc x0 x1A x1n x1c w Q):Calls Tryz.prog 98 #[ofL x0,VS x1A x1n x1c] w (fun e w'=>∃ v,e=.returned v/\Q v w'):=vcFn_of (A:=F98.an) noCount mixed h (by kernel_rfl)
def F71.vc (x0:List Value) (x1A:Option Addr) (x1n x1c:Nat) (w:World) (Q:QT):Prop :=
 nw w x0 107 fun b1 w2 =>
 nw w2 [VS none 0 0,VS none 0 0] 107 fun b3 w4 =>
 ldA 2 w4 b1 0 fun a5 =>
 Calls Tryz.prog 76 #[ofL a5] w4 fun e7 w6 =>
 ∃ (A8:Option Addr) (n9 c10:Nat),e7=.returned (VS A8 n9 c10)/\(
 vIf (decide ((x1n:Int) > (WR .i64 (1048576 - (n9:Int)))))
 (ldA 2 w6 b1 0 fun a11 =>
 gd (a11.length == 2) <|
 st w6 b3 0 a11 fun w12 =>
 ldA 2 w12 b3 0 fun a13 =>
 Q (VT #[ofL a13,VI .i64 18]) w12)
 (vIf ((x1n:Int) == 0)
 (ldA 2 w6 b1 0 fun a14 =>
 gd (a14.length == 2) <|
 st w6 b3 0 a14 fun w15 =>
 ldA 2 w15 b3 0 fun a16 =>
 Q (VT #[ofL a16,VI .i64 0]) w15)
 (ldA 2 w6.drew b1 0 fun a17 =>
 Calls Tryz.prog 28 #[VS x1A x1n x1c] w6.drew fun e19 w18 =>
 ∃ (A20:Option Addr) (n21 c22:Nat),e19=.returned (VS A20 n21 c22)/\(
 kp w6.drew b1 0 2 w18 <|
 gd (([VB false] ++ ([VI .i64 (n9:Int)] ++ ([VS A20 n21 c22] ++ []))).length == 3) <|
 nw w18 (([VB false] ++ ([VI .i64 (n9:Int)] ++ ([VS A20 n21 c22] ++ []))) ++ []) 158 fun b23 w24 =>
 kp w6.drew b1 0 2 w24 <|
 Calls Tryz.prog 98 #[ofL a17,VS (some ⟨b23,0,none⟩) 1 1] w24 fun e26 w25 =>
 ∃ a27:List Value,e26=.returned (ofL a27)/\(
 gd (a27.length == 2) <|
 st w25 b3 0 a27 fun w28 =>
 ldA 2 w28 b3 0 fun a29 =>
 Q (VT #[ofL a29,VI .i64 0]) w28)))))
def F71.an:Ann:=⟨[],[]⟩
theorem F71.of (x0:List Value) (x1A:Option Addr) (x1n x1c:Nat) (w:World) {Q:QT} (h:F71.vc x0 x1A x1n x1c w Q):Calls Tryz.prog 71 #[ofL x0,VS x1A x1n x1c] w (fun e w'=>∃ v,e=.returned v/\Q v w'):=vcFn_of (A:=F71.an) noCount mixed h (by kernel_rfl)
def F97.k8c (Q:QT) (C3:(Option Addr×ST×Int×ST×Int×Int×Unit)->WT) (x0:Option Addr) (x4:ST) (x5:Int) (x7:Int) (x13:ST) (x14:Int) (x15:Int) (x44:Bool) (w:World):Prop :=
 vIf x44
 (dr x0 fun b15 o16 =>
 ldM w b15 (o16+4) fun m17 =>
 drM m17 fun r19 =>
 mdl w r19 .i64 x7 fun w18 =>
 jnC C3 (x0,(x4.1,x4.2.1,x4.2.2),x5,(x13.1,x13.2.1,x13.2.2),x14,((WR .i64 (x15+1))),()) w18)
 (jnC C3 (x0,(x4.1,x4.2.1,x4.2.2),x5,(x13.1,x13.2.1,x13.2.2),x14,((WR .i64 (x15+1))),()) w)
def F97.k8 (Q:QT) (C3:(Option Addr×ST×Int×ST×Int×Int×Unit)->WT):(Option Addr×ST×Int×Int×ST×Int×Int×Bool×Unit)->WT:=fun s w=>∀ _:Nat->Value,F97.k8c Q C3 s.1 s.2.1 s.2.2.1 s.2.2.2.1 s.2.2.2.2.1 s.2.2.2.2.2.1 s.2.2.2.2.2.2.1 s.2.2.2.2.2.2.2.1 w
def F97.k7c (Q:QT) (C3:(Option Addr×ST×Int×ST×Int×Int×Unit)->WT) (x0:Option Addr) (x4:ST) (x5:Int) (x7:Int) (x13:ST) (x14:Int) (x15:Int) (w:World):Prop :=
 vIf (x5 == (x4.2.1:Int))
 (jnC (F97.k8 Q C3) (x0,(x4.1,x4.2.1,x4.2.2),x5,x7,(x13.1,x13.2.1,x13.2.2),x14,x15,true,()) w)
 (dr x4.1 fun b20 o21 =>
 gd (decide (0<=x5)) <|
 gd (decide (x5 < (x4.2.1:Int))) <|
 ldI .i64 w b20 (o21+(x5).toNat * 1) fun i22 =>
 jnC (F97.k8 Q C3) (x0,(x4.1,x4.2.1,x4.2.2),x5,x7,(x13.1,x13.2.1,x13.2.2),x14,x15,(i22 != x7),()) w)
def F97.k7 (Q:QT) (C3:(Option Addr×ST×Int×ST×Int×Int×Unit)->WT):(Option Addr×ST×Int×Int×ST×Int×Int×Unit)->WT:=fun s w=>∀ _:Nat->Value,F97.k7c Q C3 s.1 s.2.1 s.2.2.1 s.2.2.2.1 s.2.2.2.2.1 s.2.2.2.2.2.1 s.2.2.2.2.2.2.1 w
def F97.b5c (Q:QT) (C3:(Option Addr×ST×Int×ST×Int×Int×Unit)->WT) (C5:(Option Addr×ST×Int×Int×ST×Int×Int×Unit)->WT) (x0:Option Addr) (x4:ST) (x5:Int) (x7:Int) (x13:ST) (x14:Int) (x15:Int) (w:World):Prop :=
 vIf (decide (x5 < (x4.2.1:Int)))
 (dr x4.1 fun b12 o13 =>
 gd (decide (0<=x5)) <|
 gd (decide (x5 < (x4.2.1:Int))) <|
 ldI .i64 w b12 (o13+(x5).toNat * 1) fun i14 =>
 vIf (decide (i14 < x7))
 (jnC C5 (x0,(x4.1,x4.2.1,x4.2.2),((WR .i64 (x5+1))),x7,(x13.1,x13.2.1,x13.2.2),x14,x15,()) w)
 (jnC (F97.k7 Q C3) (x0,(x4.1,x4.2.1,x4.2.2),x5,x7,(x13.1,x13.2.1,x13.2.2),x14,x15,()) w))
 (jnC (F97.k7 Q C3) (x0,(x4.1,x4.2.1,x4.2.2),x5,x7,(x13.1,x13.2.1,x13.2.2),x14,x15,()) w)
def F97.b5 (Q:QT) (C3:(Option Addr×ST×Int×ST×Int×Int×Unit)->WT):(Option Addr×ST×Int×Int×ST×Int×Int×Unit)->World->((Option Addr×ST×Int×Int×ST×Int×Int×Unit)->WT)->Prop:=fun s w C5=>∀ _:Nat->Value,F97.b5c Q C3 C5 s.1 s.2.1 s.2.2.1 s.2.2.2.1 s.2.2.2.2.1 s.2.2.2.2.2.1 s.2.2.2.2.2.2.1 w
def F97.l5 (Q:QT) (C3:(Option Addr×ST×Int×ST×Int×Int×Unit)->WT):(Option Addr×ST×Int×Int×ST×Int×Int×Unit)->WT:=fun s w=>∃ n,loopC (F97.b5 Q C3) n s w
def F97.b3c (Q:QT) (C3:(Option Addr×ST×Int×ST×Int×Int×Unit)->WT) (x0:Option Addr) (x4:ST) (x5:Int) (x13:ST) (x14:Int) (x15:Int) (w:World):Prop :=
 vIf (decide (x15 < x14))
 (dr x13.1 fun b9 o10 =>
 gd (decide (0<=x15)) <|
 gd (decide (x15 < (x13.2.1:Int))) <|
 ldI .i64 w b9 (o10+(x15).toNat * 1) fun i11 =>
 jnC (F97.l5 Q C3) (x0,(x4.1,x4.2.1,x4.2.2),x5,i11,(x13.1,x13.2.1,x13.2.2),x14,x15,()) w)
 (Q (VT #[]) w)
def F97.b3 (Q:QT):(Option Addr×ST×Int×ST×Int×Int×Unit)->World->((Option Addr×ST×Int×ST×Int×Int×Unit)->WT)->Prop:=fun s w C3=>∀ _:Nat->Value,F97.b3c Q C3 s.1 s.2.1 s.2.2.1 s.2.2.2.1 s.2.2.2.2.1 s.2.2.2.2.2.1 w
def F97.l3 (Q:QT):(Option Addr×ST×Int×ST×Int×Int×Unit)->WT:=fun s w=>∃ n,loopC (F97.b3 Q) n s w
def F97.vc (x0:Option Addr) (x1A:Option Addr) (x1n x1c:Nat) (w:World) (Q:QT):Prop :=
 dr x0 fun b1 o2 =>
 ldA 2 w b1 (o2+2) fun a3 =>
 Calls Tryz.prog 30 #[ofL a3] w fun e5 w4 =>
 ∃ (A6:Option Addr) (n7 c8:Nat),e5=.returned (VS A6 n7 c8)/\(
 jnC (F97.l3 Q) (x0,(A6,n7,c8),(0),(x1A,x1n,x1c),((x1n:Int)),(0),()) w4)
def F97.an:Ann:=⟨[(3,[(0,.kP),(4,.kSl),(5,.kI .i64),(13,.kSl),(14,.kI .i64),(15,.kI .i64)]),(5,[(0,.kP),(4,.kSl),(5,.kI .i64),(7,.kI .i64),(13,.kSl),(14,.kI .i64),(15,.kI .i64)])],[(7,[(0,.kP),(4,.kSl),(5,.kI .i64),(7,.kI .i64),(13,.kSl),(14,.kI .i64),(15,.kI .i64)]),(8,[(0,.kP),(4,.kSl),(5,.kI .i64),(7,.kI .i64),(13,.kSl),(14,.kI .i64),(15,.kI .i64),(44,.kB)])]⟩
theorem F97.of (x0:Option Addr) (x1A:Option Addr) (x1n x1c:Nat) (w:World) {Q:QT} (h:F97.vc x0 x1A x1n x1c w Q):Calls Tryz.prog 97 #[VP x0,VS x1A x1n x1c] w (fun e w'=>∃ v,e=.returned v/\Q v w'):=vcFn_of (A:=F97.an) noCount mixed h (by kernel_rfl)
def F29.b3c (Q:QT) (C3:(Option Addr×Int×ST×Int×Int×Unit)->WT) (x0:Option Addr) (x3:Int) (x10:ST) (x11:Int) (x12:Int) (w:World):Prop :=
 vIf (decide (x12 < x11))
 (dr x10.1 fun b9 o10 =>
 gd (decide (0<=x12)) <|
 gd (decide (x12 < (x10.2.1:Int))) <|
 ldI .i64 w b9 (o10+(x12).toNat * 1) fun i11 =>
 dr x0 fun b12 o13 =>
 ldM w b12 (o13+4) fun m14 =>
 drM m14 fun r17 =>
 mlk w r17 .i64 i11 fun q15 =>
 lvA [VS none 0 0,VS none 0 0] q15 fun a16 =>
 Calls Tryz.prog 51 #[ofL a16] w fun e19 w18 =>
 ∃ i20:Int,e19=.returned (VI .i64 i20)/\(
 jnC C3 (x0,((WR .i64 (x3+i20))),(x10.1,x10.2.1,x10.2.2),x11,((WR .i64 (x12+1))),()) w18))
 (Q (VI .i64 x3) w)
def F29.b3 (Q:QT):(Option Addr×Int×ST×Int×Int×Unit)->World->((Option Addr×Int×ST×Int×Int×Unit)->WT)->Prop:=fun s w C3=>∀ _:Nat->Value,F29.b3c Q C3 s.1 s.2.1 s.2.2.1 s.2.2.2.1 s.2.2.2.2.1 w
def F29.l3 (Q:QT):(Option Addr×Int×ST×Int×Int×Unit)->WT:=fun s w=>∃ n,loopC (F29.b3 Q) n s w
def F29.vc (x0:Option Addr) (w:World) (Q:QT):Prop :=
 dr x0 fun b1 o2 =>
 ldA 2 w b1 (o2+2) fun a3 =>
 Calls Tryz.prog 30 #[ofL a3] w fun e5 w4 =>
 ∃ (A6:Option Addr) (n7 c8:Nat),e5=.returned (VS A6 n7 c8)/\(
 jnC (F29.l3 Q) (x0,(0),(A6,n7,c8),((n7:Int)),(0),()) w4)
def F29.an:Ann:=⟨[(3,[(0,.kP),(3,.kI .i64),(10,.kSl),(11,.kI .i64),(12,.kI .i64)])],[]⟩
theorem F29.of (x0:Option Addr) (w:World) {Q:QT} (h:F29.vc x0 w Q):Calls Tryz.prog 29 #[VP x0] w (fun e w'=>∃ v,e=.returned v/\Q v w'):=vcFn_of (A:=F29.an) noCount mixed h (by kernel_rfl)
def F94.vc (x0:Option Addr) (x1:List Value) (w:World) (Q:QT):Prop :=
 nw w x1 147 fun b1 w2 =>
 dr x0 fun b3 o4 =>
 ldA 2 w2 b3 (o4+2) fun a5 =>
 Calls Tryz.prog 30 #[ofL a5] w2 fun e7 w6 =>
 ∃ (A8:Option Addr) (n9 c10:Nat),e7=.returned (VS A8 n9 c10)/\(
 dr x0 fun b11 o12 =>
 ldA 2 w6.drew b11 (o12+2) fun a13 =>
 ldA 4 w6.drew b1 0 fun a14 =>
 (Calls Tryz.prog 130 #[ofL a13,ofL a14] w6.drew fun e16 w15 =>
 ∃ a17:List Value,∃ i18:Int,e16=.returned (VT #[ofL a17,VI .i64 i18])/\(
 nw w15 [VS none 0 0,VS none 0 0] 50 fun b19 w20 =>
 kp w6.drew b1 0 4 w20 <|
 kp w6.drew b11 (o12+2) 2 w20 <|
 gd (a17.length == 2) <|
 st w20 b19 0 a17 fun w21 =>
 ldA 2 w21 b19 0 fun a22 =>
 dr x0 fun b23 o24 =>
 gd (a22.length == 2) <|
 st w21 b23 (o24+2) a22 fun w25 =>
 Calls Tryz.prog 97 #[VP x0,VS A8 n9 c10] w25 fun e27 w26 =>
 e27=.returned (VT #[])/\(
 Q (VI .i64 i18) w26))) /\
 (nw w6.drew [VS none 0 0,VS none 0 0] 50 fun b28 w29 =>
 kp w6.drew b1 0 4 w29 <|
 kp w6.drew b11 (o12+2) 2 w29 <|
 Calls Tryz.prog 130 #[ofL a13,ofL a14] w29 fun e31 w30 =>
 ∃ a32:List Value,∃ i33:Int,e31=.returned (VT #[ofL a32,VI .i64 i33])/\(
 gd (a32.length == 2) <|
 st w30 b28 0 a32 fun w34 =>
 ldA 2 w34 b28 0 fun a35 =>
 dr x0 fun b36 o37 =>
 gd (a35.length == 2) <|
 st w34 b36 (o37+2) a35 fun w38 =>
 Calls Tryz.prog 97 #[VP x0,VS A8 n9 c10] w38 fun e40 w39 =>
 e40=.returned (VT #[])/\(
 Q (VI .i64 i33) w39))))
def F94.an:Ann:=⟨[],[]⟩
theorem F94.of (x0:Option Addr) (x1:List Value) (w:World) {Q:QT} (h:F94.vc x0 x1 w Q):Calls Tryz.prog 94 #[VP x0,ofL x1] w (fun e w'=>∃ v,e=.returned v/\Q v w'):=vcFn_of (A:=F94.an) noCount mixed h (by kernel_rfl)
def F69a.k10c (Q:QT) (x0:Option Addr) (x7:Int) (x9:NT) (x58:Bool) (w:World):Prop :=
 vIf x58
 (dr x0 fun b45 o46 =>
 ldM w.drew b45 (o46+4) fun m47 =>
 ldA 2 w.drew x9.1 x9.2 fun a48 =>
 drM m47 fun r50 =>
 mup w.drew r50 .i64 x7 (ofL a48) fun w49 =>
 Q (VI .i64 9) w49)
 (Q (VI .i64 0) w)
def F69a.k10 (Q:QT):(Option Addr×Int×NT×Bool×Unit)->WT:=fun s w=>∀ _:Nat->Value,F69a.k10c Q s.1 s.2.1 s.2.2.1 s.2.2.2.1 w
def F69a.vc (x0:Option Addr) (x1:ByteArray) (x2:Nat×Nat) (w:World) (Q:QT):Prop :=
 dr x0 fun b1 o2 =>
 ldA 2 w b1 (o2+2) fun a3 =>
 Calls Tryz.prog 75 #[ofL a3,VG x1] w fun e5 w4 =>
 ∃ i6:Int,∃ t7:Bool,e5=.returned (VT #[VI .i64 i6,VB t7])/\(
 vIf (!t7)
 (Q (VI .i64 6) w4)
 (dr x0 fun b8 o9 =>
 ldM w4 b8 (o9+4) fun m10 =>
 drM m10 fun r13 =>
 mlk w4 r13 .i64 i6 fun q11 =>
 lvA [VS none 0 0,VS none 0 0] q11 fun a12 =>
 nw w4 [VS none 0 0,VS none 0 0] 107 fun b14 w15 =>
 gd (a12.length == 2) <|
 st w15 b14 0 a12 fun w16 =>
 ldA 2 w16 b14 0 fun a17 =>
 Calls Tryz.prog 70 #[ofL a17,VP (some ⟨x2.1,x2.2,none⟩)] w16 fun e19 w18 =>
 ∃ a20:List Value,∃ i21:Int,e19=.returned (VT #[ofL a20,VI .i64 i21])/\(
 nw w18 [VS none 0 0,VS none 0 0] 107 fun b22 w23 =>
 gd (a20.length == 2) <|
 st w23 b22 0 a20 fun w24 =>
 vIf (i21 != 0)
 (Q (VI .i64 i21) w24)
 (dr x0 fun b25 o26 =>
 ldM w24.drew b25 (o26+4) fun m27 =>
 ldA 2 w24.drew b22 0 fun a28 =>
 drM m27 fun r30 =>
 mup w24.drew r30 .i64 i6 (ofL a28) fun w29 =>
 ldA 2 w29.drew b22 0 fun a31 =>
 ldA 2 w29.drew b14 0 fun a32 =>
 Calls Tryz.prog 51 #[ofL a31] w29.drew fun e34 w33 =>
 ∃ i35:Int,e34=.returned (VI .i64 i35)/\(
 kp w29.drew b14 0 2 w33 <|
 Calls Tryz.prog 51 #[ofL a32] w33 fun e37 w36 =>
 ∃ i38:Int,e37=.returned (VI .i64 i38)/\(
 vIf (decide (i35 > i38))
 (dr x0 fun b39 o40 =>
 ldI .i64 w36 b39 o40 fun i41 =>
 Calls Tryz.prog 29 #[VP x0] w36 fun e43 w42 =>
 ∃ i44:Int,e43=.returned (VI .i64 i44)/\(
 kp w36 b39 o40 1 w42 <|
 jnC (F69a.k10 Q) (x0,i6,(b14,0),(decide (i44 > i41)),()) w42))
 (jnC (F69a.k10 Q) (x0,i6,(b14,0),false,()) w36)))))))
def F69a.an:Ann:=⟨[],[(10,[(0,.kP),(7,.kI .i64),(9,.kL),(58,.kB)])]⟩
theorem F69a.of (x0:Option Addr) (x1:ByteArray) (x2:Nat×Nat) (w:World) {Q:QT} (h:F69a.vc x0 x1 x2 w Q):Calls Tryz.prog 69 #[VP x0,VG x1,Value.func (.func 70) #[] #[VP (some ⟨x2.1,x2.2,none⟩)]] w (fun e w'=>∃ v,e=.returned v/\Q v w'):=vcFn_of (A:=F69a.an) noCount mixed h (by kernel_rfl)
def F69c.k10c (Q:QT) (x0:Option Addr) (x7:Int) (x9:NT) (x58:Bool) (w:World):Prop :=
 vIf x58
 (dr x0 fun b45 o46 =>
 ldM w.drew b45 (o46+4) fun m47 =>
 ldA 2 w.drew x9.1 x9.2 fun a48 =>
 drM m47 fun r50 =>
 mup w.drew r50 .i64 x7 (ofL a48) fun w49 =>
 Q (VI .i64 9) w49)
 (Q (VI .i64 0) w)
def F69c.k10 (Q:QT):(Option Addr×Int×NT×Bool×Unit)->WT:=fun s w=>∀ _:Nat->Value,F69c.k10c Q s.1 s.2.1 s.2.2.1 s.2.2.2.1 w
def F69c.vc (x0:Option Addr) (x1:ByteArray) (w:World) (Q:QT):Prop :=
 dr x0 fun b1 o2 =>
 ldA 2 w b1 (o2+2) fun a3 =>
 Calls Tryz.prog 75 #[ofL a3,VG x1] w fun e5 w4 =>
 ∃ i6:Int,∃ t7:Bool,e5=.returned (VT #[VI .i64 i6,VB t7])/\(
 vIf (!t7)
 (Q (VI .i64 6) w4)
 (dr x0 fun b8 o9 =>
 ldM w4 b8 (o9+4) fun m10 =>
 drM m10 fun r13 =>
 mlk w4 r13 .i64 i6 fun q11 =>
 lvA [VS none 0 0,VS none 0 0] q11 fun a12 =>
 nw w4 [VS none 0 0,VS none 0 0] 107 fun b14 w15 =>
 gd (a12.length == 2) <|
 st w15 b14 0 a12 fun w16 =>
 ldA 2 w16 b14 0 fun a17 =>
 Calls Tryz.prog 73 #[ofL a17] w16 fun e19 w18 =>
 ∃ a20:List Value,∃ i21:Int,e19=.returned (VT #[ofL a20,VI .i64 i21])/\(
 nw w18 [VS none 0 0,VS none 0 0] 107 fun b22 w23 =>
 gd (a20.length == 2) <|
 st w23 b22 0 a20 fun w24 =>
 vIf (i21 != 0)
 (Q (VI .i64 i21) w24)
 (dr x0 fun b25 o26 =>
 ldM w24.drew b25 (o26+4) fun m27 =>
 ldA 2 w24.drew b22 0 fun a28 =>
 drM m27 fun r30 =>
 mup w24.drew r30 .i64 i6 (ofL a28) fun w29 =>
 ldA 2 w29.drew b22 0 fun a31 =>
 ldA 2 w29.drew b14 0 fun a32 =>
 Calls Tryz.prog 51 #[ofL a31] w29.drew fun e34 w33 =>
 ∃ i35:Int,e34=.returned (VI .i64 i35)/\(
 kp w29.drew b14 0 2 w33 <|
 Calls Tryz.prog 51 #[ofL a32] w33 fun e37 w36 =>
 ∃ i38:Int,e37=.returned (VI .i64 i38)/\(
 vIf (decide (i35 > i38))
 (dr x0 fun b39 o40 =>
 ldI .i64 w36 b39 o40 fun i41 =>
 Calls Tryz.prog 29 #[VP x0] w36 fun e43 w42 =>
 ∃ i44:Int,e43=.returned (VI .i64 i44)/\(
 kp w36 b39 o40 1 w42 <|
 jnC (F69c.k10 Q) (x0,i6,(b14,0),(decide (i44 > i41)),()) w42))
 (jnC (F69c.k10 Q) (x0,i6,(b14,0),false,()) w36)))))))
def F69c.an:Ann:=⟨[],[(10,[(0,.kP),(7,.kI .i64),(9,.kL),(58,.kB)])]⟩
theorem F69c.of (x0:Option Addr) (x1:ByteArray) (w:World) {Q:QT} (h:F69c.vc x0 x1 w Q):Calls Tryz.prog 69 #[VP x0,VG x1,Value.func (.func 73) #[] #[]] w (fun e w'=>∃ v,e=.returned v/\Q v w'):=vcFn_of (A:=F69c.an) noCount mixed h (by kernel_rfl)
def F67a.k6c (Q:QT) (x0:Option Addr) (x1:(NT×NT× Unit)) (w:World):Prop :=
 dr x0 fun b7 o8 =>
 ldI .i64 w b7 (o8+8) fun i9 =>
 dr x0 fun b10 o11 =>
 st w b10 (o11+8) [VI .i64 (WR .i64 (i9 - 1))] fun w12 =>
 dr x0 fun b13 o14 =>
 ldI .i64 w12 b13 (o14+9) fun i15 =>
 dr x0 fun b16 o17 =>
 st w12 b16 (o17+9) [VI .i64 (WR .i64 (i15+1))] fun w18 =>
 Calls Tryz.prog 93 #[VP (some ⟨x1.1.1,x1.1.2,none⟩),VP (some ⟨x1.2.1.1,x1.2.1.2,none⟩)] w18 fun e20 w19 =>
 ∃ i21:Int,e20=.returned (VI .i64 i21)/\(
 Q (VI .i64 i21) w19)
def F67a.k6 (Q:QT):(Option Addr×(NT×NT× Unit)×Unit)->WT:=fun s w=>∀ _:Nat->Value,F67a.k6c Q s.1 s.2.1 w
def F67a.k4c (Q:QT) (x0:Option Addr) (x1:(NT×NT× Unit)) (x8:Bool) (w:World):Prop :=
 vIf x8
 (dr x0 fun b4 o5 =>
 st w b4 (o5+6) [VB true] fun w6 =>
 Q (VI .i64 11) w6)
 (jnC (F67a.k6 Q) (x0,((x1.1.1,x1.1.2),(x1.2.1.1,x1.2.1.2),()),()) w)
def F67a.k4 (Q:QT):(Option Addr×(NT×NT× Unit)×Bool×Unit)->WT:=fun s w=>∀ _:Nat->Value,F67a.k4c Q s.1 s.2.1 s.2.2.1 w
def F67a.vc (x0:Option Addr) (x1:NT×NT×Unit) (w:World) (Q:QT):Prop :=
 vIf x0.isNone
 (Q (VI .i64 1) w)
 (dr x0 fun b1 o2 =>
 ldB w b1 (o2+6) fun t3 =>
 vIf t3
 (jnC (F67a.k4 Q) (x0,((x1.1.1,x1.1.2),(x1.2.1.1,x1.2.1.2),()),true,()) w)
 (dr x0 fun b22 o23 =>
 ldB w b22 (o23+7) fun t24 =>
 vIf t24
 (dr x0 fun b25 o26 =>
 ldI .i64 w b25 (o26+8) fun i27 =>
 jnC (F67a.k4 Q) (x0,((x1.1.1,x1.1.2),(x1.2.1.1,x1.2.1.2),()),(decide (i27<=0)),()) w)
 (jnC (F67a.k4 Q) (x0,((x1.1.1,x1.1.2),(x1.2.1.1,x1.2.1.2),()),false,()) w)))
def F67a.an:Ann:=⟨[],[(4,[(0,.kP),(1,.kH 93 2),(8,.kB)]),(6,[(0,.kP),(1,.kH 93 2)])]⟩
theorem F67a.of (x0:Option Addr) (x1:NT×NT×Unit) (w:World) {Q:QT} (h:F67a.vc x0 x1 w Q):Calls Tryz.prog 67 #[VP x0,Value.func (.func 93) #[] #[VP (some ⟨x1.1.1,x1.1.2,none⟩),VP (some ⟨x1.2.1.1,x1.2.1.2,none⟩)]] w (fun e w'=>∃ v,e=.returned v/\Q v w'):=vcFn_of (A:=F67a.an) noCount mixed h (by kernel_rfl)
def F67b.k6c (Q:QT) (x0:Option Addr) (x1:(NT×NT×NT× Unit)) (w:World):Prop :=
 dr x0 fun b7 o8 =>
 ldI .i64 w b7 (o8+8) fun i9 =>
 dr x0 fun b10 o11 =>
 st w b10 (o11+8) [VI .i64 (WR .i64 (i9 - 1))] fun w12 =>
 dr x0 fun b13 o14 =>
 ldI .i64 w12 b13 (o14+9) fun i15 =>
 dr x0 fun b16 o17 =>
 st w12 b16 (o17+9) [VI .i64 (WR .i64 (i15+1))] fun w18 =>
 Calls Tryz.prog 68 #[VP (some ⟨x1.1.1,x1.1.2,none⟩),VP (some ⟨x1.2.1.1,x1.2.1.2,none⟩),VP (some ⟨x1.2.2.1.1,x1.2.2.1.2,none⟩)] w18 fun e20 w19 =>
 ∃ i21:Int,e20=.returned (VI .i64 i21)/\(
 Q (VI .i64 i21) w19)
def F67b.k6 (Q:QT):(Option Addr×(NT×NT×NT× Unit)×Unit)->WT:=fun s w=>∀ _:Nat->Value,F67b.k6c Q s.1 s.2.1 w
def F67b.k4c (Q:QT) (x0:Option Addr) (x1:(NT×NT×NT× Unit)) (x8:Bool) (w:World):Prop :=
 vIf x8
 (dr x0 fun b4 o5 =>
 st w b4 (o5+6) [VB true] fun w6 =>
 Q (VI .i64 11) w6)
 (jnC (F67b.k6 Q) (x0,((x1.1.1,x1.1.2),(x1.2.1.1,x1.2.1.2),(x1.2.2.1.1,x1.2.2.1.2),()),()) w)
def F67b.k4 (Q:QT):(Option Addr×(NT×NT×NT× Unit)×Bool×Unit)->WT:=fun s w=>∀ _:Nat->Value,F67b.k4c Q s.1 s.2.1 s.2.2.1 w
def F67b.vc (x0:Option Addr) (x1:NT×NT×NT×Unit) (w:World) (Q:QT):Prop :=
 vIf x0.isNone
 (Q (VI .i64 1) w)
 (dr x0 fun b1 o2 =>
 ldB w b1 (o2+6) fun t3 =>
 vIf t3
 (jnC (F67b.k4 Q) (x0,((x1.1.1,x1.1.2),(x1.2.1.1,x1.2.1.2),(x1.2.2.1.1,x1.2.2.1.2),()),true,()) w)
 (dr x0 fun b22 o23 =>
 ldB w b22 (o23+7) fun t24 =>
 vIf t24
 (dr x0 fun b25 o26 =>
 ldI .i64 w b25 (o26+8) fun i27 =>
 jnC (F67b.k4 Q) (x0,((x1.1.1,x1.1.2),(x1.2.1.1,x1.2.1.2),(x1.2.2.1.1,x1.2.2.1.2),()),(decide (i27<=0)),()) w)
 (jnC (F67b.k4 Q) (x0,((x1.1.1,x1.1.2),(x1.2.1.1,x1.2.1.2),(x1.2.2.1.1,x1.2.2.1.2),()),false,()) w)))
def F67b.an:Ann:=⟨[],[(4,[(0,.kP),(1,.kH 68 3),(8,.kB)]),(6,[(0,.kP),(1,.kH 68 3)])]⟩
theorem F67b.of (x0:Option Addr) (x1:NT×NT×NT×Unit) (w:World) {Q:QT} (h:F67b.vc x0 x1 w Q):Calls Tryz.prog 67 #[VP x0,Value.func (.func 68) #[] #[VP (some ⟨x1.1.1,x1.1.2,none⟩),VP (some ⟨x1.2.1.1,x1.2.1.2,none⟩),VP (some ⟨x1.2.2.1.1,x1.2.2.1.2,none⟩)]] w (fun e w'=>∃ v,e=.returned v/\Q v w'):=vcFn_of (A:=F67b.an) noCount mixed h (by kernel_rfl)
def F67d.k6c (Q:QT) (x0:Option Addr) (x1:(NT×NT× Unit)) (w:World):Prop :=
 dr x0 fun b7 o8 =>
 ldI .i64 w b7 (o8+8) fun i9 =>
 dr x0 fun b10 o11 =>
 st w b10 (o11+8) [VI .i64 (WR .i64 (i9 - 1))] fun w12 =>
 dr x0 fun b13 o14 =>
 ldI .i64 w12 b13 (o14+9) fun i15 =>
 dr x0 fun b16 o17 =>
 st w12 b16 (o17+9) [VI .i64 (WR .i64 (i15+1))] fun w18 =>
 Calls Tryz.prog 72 #[VP (some ⟨x1.1.1,x1.1.2,none⟩),VP (some ⟨x1.2.1.1,x1.2.1.2,none⟩)] w18 fun e20 w19 =>
 ∃ i21:Int,e20=.returned (VI .i64 i21)/\(
 Q (VI .i64 i21) w19)
def F67d.k6 (Q:QT):(Option Addr×(NT×NT× Unit)×Unit)->WT:=fun s w=>∀ _:Nat->Value,F67d.k6c Q s.1 s.2.1 w
def F67d.k4c (Q:QT) (x0:Option Addr) (x1:(NT×NT× Unit)) (x8:Bool) (w:World):Prop :=
 vIf x8
 (dr x0 fun b4 o5 =>
 st w b4 (o5+6) [VB true] fun w6 =>
 Q (VI .i64 11) w6)
 (jnC (F67d.k6 Q) (x0,((x1.1.1,x1.1.2),(x1.2.1.1,x1.2.1.2),()),()) w)
def F67d.k4 (Q:QT):(Option Addr×(NT×NT× Unit)×Bool×Unit)->WT:=fun s w=>∀ _:Nat->Value,F67d.k4c Q s.1 s.2.1 s.2.2.1 w
def F67d.vc (x0:Option Addr) (x1:NT×NT×Unit) (w:World) (Q:QT):Prop :=
 vIf x0.isNone
 (Q (VI .i64 1) w)
 (dr x0 fun b1 o2 =>
 ldB w b1 (o2+6) fun t3 =>
 vIf t3
 (jnC (F67d.k4 Q) (x0,((x1.1.1,x1.1.2),(x1.2.1.1,x1.2.1.2),()),true,()) w)
 (dr x0 fun b22 o23 =>
 ldB w b22 (o23+7) fun t24 =>
 vIf t24
 (dr x0 fun b25 o26 =>
 ldI .i64 w b25 (o26+8) fun i27 =>
 jnC (F67d.k4 Q) (x0,((x1.1.1,x1.1.2),(x1.2.1.1,x1.2.1.2),()),(decide (i27<=0)),()) w)
 (jnC (F67d.k4 Q) (x0,((x1.1.1,x1.1.2),(x1.2.1.1,x1.2.1.2),()),false,()) w)))
def F67d.an:Ann:=⟨[],[(4,[(0,.kP),(1,.kH 72 2),(8,.kB)]),(6,[(0,.kP),(1,.kH 72 2)])]⟩
theorem F67d.of (x0:Option Addr) (x1:NT×NT×Unit) (w:World) {Q:QT} (h:F67d.vc x0 x1 w Q):Calls Tryz.prog 67 #[VP x0,Value.func (.func 72) #[] #[VP (some ⟨x1.1.1,x1.1.2,none⟩),VP (some ⟨x1.2.1.1,x1.2.1.2,none⟩)]] w (fun e w'=>∃ v,e=.returned v/\Q v w'):=vcFn_of (A:=F67d.an) noCount mixed h (by kernel_rfl)
def F67g.k6c (Q:QT) (x0:Option Addr) (x1:NT) (w:World):Prop :=
 dr x0 fun b7 o8 =>
 ldI .i64 w b7 (o8+8) fun i9 =>
 dr x0 fun b10 o11 =>
 st w b10 (o11+8) [VI .i64 (WR .i64 (i9 - 1))] fun w12 =>
 dr x0 fun b13 o14 =>
 ldI .i64 w12 b13 (o14+9) fun i15 =>
 dr x0 fun b16 o17 =>
 st w12 b16 (o17+9) [VI .i64 (WR .i64 (i15+1))] fun w18 =>
 Calls Tryz.prog 95 #[VP (some ⟨x1.1,x1.2,none⟩)] w18 fun e20 w19 =>
 ∃ i21:Int,e20=.returned (VI .i64 i21)/\(
 Q (VI .i64 i21) w19)
def F67g.k6 (Q:QT):(Option Addr×NT×Unit)->WT:=fun s w=>∀ _:Nat->Value,F67g.k6c Q s.1 s.2.1 w
def F67g.k4c (Q:QT) (x0:Option Addr) (x1:NT) (x8:Bool) (w:World):Prop :=
 vIf x8
 (dr x0 fun b4 o5 =>
 st w b4 (o5+6) [VB true] fun w6 =>
 Q (VI .i64 11) w6)
 (jnC (F67g.k6 Q) (x0,(x1.1,x1.2),()) w)
def F67g.k4 (Q:QT):(Option Addr×NT×Bool×Unit)->WT:=fun s w=>∀ _:Nat->Value,F67g.k4c Q s.1 s.2.1 s.2.2.1 w
def F67g.vc (x0:Option Addr) (x1:Nat×Nat) (w:World) (Q:QT):Prop :=
 vIf x0.isNone
 (Q (VI .i64 1) w)
 (dr x0 fun b1 o2 =>
 ldB w b1 (o2+6) fun t3 =>
 vIf t3
 (jnC (F67g.k4 Q) (x0,(x1.1,x1.2),true,()) w)
 (dr x0 fun b22 o23 =>
 ldB w b22 (o23+7) fun t24 =>
 vIf t24
 (dr x0 fun b25 o26 =>
 ldI .i64 w b25 (o26+8) fun i27 =>
 jnC (F67g.k4 Q) (x0,(x1.1,x1.2),(decide (i27<=0)),()) w)
 (jnC (F67g.k4 Q) (x0,(x1.1,x1.2),false,()) w)))
def F67g.an:Ann:=⟨[],[(4,[(0,.kP),(1,.kG 95),(8,.kB)]),(6,[(0,.kP),(1,.kG 95)])]⟩
theorem F67g.of (x0:Option Addr) (x1:Nat×Nat) (w:World) {Q:QT} (h:F67g.vc x0 x1 w Q):Calls Tryz.prog 67 #[VP x0,Value.func (.func 95) #[] #[VP (some ⟨x1.1,x1.2,none⟩)]] w (fun e w'=>∃ v,e=.returned v/\Q v w'):=vcFn_of (A:=F67g.an) noCount mixed h (by kernel_rfl)
def F70.vc (x0:List Value) (x1:Nat×Nat) (w:World) (Q:QT):Prop :=
 nw w x0 107 fun b1 w2 =>
 nw w2 [VS none 0 0,VS none 0 0] 107 fun b3 w4 =>
 ldA 2 w4 b1 0 fun a5 =>
 ldSl w4 x1.1 x1.2 fun A6 n7 c8 =>
 Calls Tryz.prog 71 #[ofL a5,VS A6 n7 c8] w4 fun e10 w9 =>
 ∃ a11:List Value,∃ i12:Int,e10=.returned (VT #[ofL a11,VI .i64 i12])/\(
 gd (a11.length == 2) <|
 st w9 b3 0 a11 fun w13 =>
 ldA 2 w13 b3 0 fun a14 =>
 Q (VT #[ofL a14,VI .i64 i12]) w13)
def F70.an:Ann:=⟨[],[]⟩
theorem F70.of (x0:List Value) (x1:Nat×Nat) (w:World) {Q:QT} (h:F70.vc x0 x1 w Q):Calls Tryz.prog 70 #[ofL x0,VP (some ⟨x1.1,x1.2,none⟩)] w (fun e w'=>∃ v,e=.returned v/\Q v w'):=vcFn_of (A:=F70.an) noCount mixed h (by kernel_rfl)
def F73.vc (x0:List Value) (w:World) (Q:QT):Prop :=
 nw w x0 107 fun b1 w2 =>
 nw w2 [VS none 0 0,VS none 0 0] 107 fun b3 w4 =>
 ldA 2 w4 b1 0 fun a5 =>
 Calls Tryz.prog 74 #[ofL a5] w4 fun e7 w6 =>
 ∃ a8:List Value,e7=.returned (ofL a8)/\(
 gd (a8.length == 2) <|
 st w6 b3 0 a8 fun w9 =>
 ldA 2 w9 b3 0 fun a10 =>
 Q (VT #[ofL a10,VI .i64 0]) w9)
def F73.an:Ann:=⟨[],[]⟩
theorem F73.of (x0:List Value) (w:World) {Q:QT} (h:F73.vc x0 w Q):Calls Tryz.prog 73 #[ofL x0] w (fun e w'=>∃ v,e=.returned v/\Q v w'):=vcFn_of (A:=F73.an) noCount mixed h (by kernel_rfl)
def F68.vc (x0:Nat×Nat) (x1:Nat×Nat) (x2:Nat×Nat) (w:World) (Q:QT):Prop :=
 ldP w x0.1 x0.2 fun p1 =>
 ldS w x1.1 x1.2 fun s2 =>
 Calls Tryz.prog 69 #[VP p1,VG s2,Value.func (.func 70) #[] #[VP (some ⟨x2.1,x2.2,none⟩)]] w fun e4 w3 =>
 ∃ i5:Int,e4=.returned (VI .i64 i5)/\(
 Q (VI .i64 i5) w3)
def F68.an:Ann:=⟨[],[]⟩
theorem F68.of (x0:Nat×Nat) (x1:Nat×Nat) (x2:Nat×Nat) (w:World) {Q:QT} (h:F68.vc x0 x1 x2 w Q):Calls Tryz.prog 68 #[VP (some ⟨x0.1,x0.2,none⟩),VP (some ⟨x1.1,x1.2,none⟩),VP (some ⟨x2.1,x2.2,none⟩)] w (fun e w'=>∃ v,e=.returned v/\Q v w'):=vcFn_of (A:=F68.an) noCount mixed h (by kernel_rfl)
def F44.vc (x0:Option Addr) (x1:ByteArray) (x2A:Option Addr) (x2n x2c:Nat) (w:World) (Q:QT):Prop :=
 nw w [VP x0] 28 fun b1 w2 =>
 nw w2 [VG x1] 9 fun b3 w4 =>
 nw w4 [VS x2A x2n x2c] 33 fun b5 w6 =>
 ldP w6 b1 0 fun p7 =>
 Calls Tryz.prog 67 #[VP p7,Value.func (.func 68) #[] #[VP (some ⟨b1,0,none⟩),VP (some ⟨b3,0,none⟩),VP (some ⟨b5,0,none⟩)]] w6 fun e9 w8 =>
 ∃ i10:Int,e9=.returned (VI .i64 i10)/\(
 Q (VI .i64 i10) w8)
def F44.an:Ann:=⟨[],[]⟩
theorem F44.of (x0:Option Addr) (x1:ByteArray) (x2A:Option Addr) (x2n x2c:Nat) (w:World) {Q:QT} (h:F44.vc x0 x1 x2A x2n x2c w Q):Calls Tryz.prog 44 #[VP x0,VG x1,VS x2A x2n x2c] w (fun e w'=>∃ v,e=.returned v/\Q v w'):=vcFn_of (A:=F44.an) noCount mixed h (by kernel_rfl)
def F72.vc (x0:Nat×Nat) (x1:Nat×Nat) (w:World) (Q:QT):Prop :=
 ldP w x0.1 x0.2 fun p1 =>
 ldS w x1.1 x1.2 fun s2 =>
 Calls Tryz.prog 69 #[VP p1,VG s2,Value.func (.func 73) #[] #[]] w fun e4 w3 =>
 ∃ i5:Int,e4=.returned (VI .i64 i5)/\(
 Q (VI .i64 i5) w3)
def F72.an:Ann:=⟨[],[]⟩
theorem F72.of (x0:Nat×Nat) (x1:Nat×Nat) (w:World) {Q:QT} (h:F72.vc x0 x1 w Q):Calls Tryz.prog 72 #[VP (some ⟨x0.1,x0.2,none⟩),VP (some ⟨x1.1,x1.2,none⟩)] w (fun e w'=>∃ v,e=.returned v/\Q v w'):=vcFn_of (A:=F72.an) noCount mixed h (by kernel_rfl)
def F46.vc (x0:Option Addr) (x1:ByteArray) (w:World) (Q:QT):Prop :=
 nw w [VP x0] 28 fun b1 w2 =>
 nw w2 [VG x1] 9 fun b3 w4 =>
 ldP w4 b1 0 fun p5 =>
 Calls Tryz.prog 67 #[VP p5,Value.func (.func 72) #[] #[VP (some ⟨b1,0,none⟩),VP (some ⟨b3,0,none⟩)]] w4 fun e7 w6 =>
 ∃ i8:Int,e7=.returned (VI .i64 i8)/\(
 Q (VI .i64 i8) w6)
def F46.an:Ann:=⟨[],[]⟩
theorem F46.of (x0:Option Addr) (x1:ByteArray) (w:World) {Q:QT} (h:F46.vc x0 x1 w Q):Calls Tryz.prog 46 #[VP x0,VG x1] w (fun e w'=>∃ v,e=.returned v/\Q v w'):=vcFn_of (A:=F46.an) noCount mixed h (by kernel_rfl)
def F66.vc (x0:Option Addr) (w:World) (Q:QT):Prop :=
 nw w [VP x0] 28 fun b1 w2 =>
 ldP w2 b1 0 fun p3 =>
 Calls Tryz.prog 67 #[VP p3,Value.func (.func 95) #[] #[VP (some ⟨b1,0,none⟩)]] w2 fun e5 w4 =>
 ∃ i6:Int,e5=.returned (VI .i64 i6)/\(
 Q (VI .i64 i6) w4)
def F66.an:Ann:=⟨[],[]⟩
theorem F66.of (x0:Option Addr) (w:World) {Q:QT} (h:F66.vc x0 w Q):Calls Tryz.prog 66 #[VP x0] w (fun e w'=>∃ v,e=.returned v/\Q v w'):=vcFn_of (A:=F66.an) noCount mixed h (by kernel_rfl)
def F95.vc (x0:Nat×Nat) (w:World) (Q:QT):Prop :=
 ldP w x0.1 x0.2 fun p1 =>
 dr p1 fun b2 o3 =>
 ldA 2 w b2 (o3+2) fun a4 =>
 Calls Tryz.prog 30 #[ofL a4] w fun e6 w5 =>
 ∃ (A7:Option Addr) (n8 c9:Nat),e6=.returned (VS A7 n8 c9)/\(
 ldP w5.drew x0.1 x0.2 fun p10 =>
 ldP w5.drew x0.1 x0.2 fun p11 =>
 dr p11 fun b12 o13 =>
 ldA 2 w5.drew b12 (o13+2) fun a14 =>
 Calls Tryz.prog 96 #[ofL a14] w5.drew fun e16 w15 =>
 ∃ a17:List Value,e16=.returned (ofL a17)/\(
 kp w5.drew x0.1 x0.2 1 w15 <|
 dr p10 fun b18 o19 =>
 gd (a17.length == 2) <|
 st w15 b18 (o19+2) a17 fun w20 =>
 ldP w20 x0.1 x0.2 fun p21 =>
 Calls Tryz.prog 97 #[VP p21,VS A7 n8 c9] w20 fun e23 w22 =>
 e23=.returned (VT #[])/\(
 Q (VI .i64 0) w22)))
def F95.an:Ann:=⟨[],[]⟩
theorem F95.of (x0:Nat×Nat) (w:World) {Q:QT} (h:F95.vc x0 w Q):Calls Tryz.prog 95 #[VP (some ⟨x0.1,x0.2,none⟩)] w (fun e w'=>∃ v,e=.returned v/\Q v w'):=vcFn_of (A:=F95.an) noCount mixed h (by kernel_rfl)
def F63.vc (x0:Option Addr) (x1:ByteArray) (w:World) (Q:QT):Prop :=
 nw w [VP x0] 28 fun b1 w2 =>
 nw w2 [VG x1] 9 fun b3 w4 =>
 ldP w4 b1 0 fun p5 =>
 Calls Tryz.prog 67 #[VP p5,Value.func (.func 93) #[] #[VP (some ⟨b1,0,none⟩),VP (some ⟨b3,0,none⟩)]] w4 fun e7 w6 =>
 ∃ i8:Int,e7=.returned (VI .i64 i8)/\(
 Q (VI .i64 i8) w6)
def F63.an:Ann:=⟨[],[]⟩
theorem F63.of (x0:Option Addr) (x1:ByteArray) (w:World) {Q:QT} (h:F63.vc x0 x1 w Q):Calls Tryz.prog 63 #[VP x0,VG x1] w (fun e w'=>∃ v,e=.returned v/\Q v w'):=vcFn_of (A:=F63.an) noCount mixed h (by kernel_rfl)
def F93.vc (x0:Nat×Nat) (x1:Nat×Nat) (w:World) (Q:QT):Prop :=
 ldP w.drew x0.1 x0.2 fun p1 =>
 dr p1 fun b2 o3 =>
 ldA 2 w.drew b2 (o3+2) fun a4 =>
 ldP w.drew x0.1 x0.2 fun p5 =>
 dr p5 fun b6 o7 =>
 ldI .i64 w.drew b6 (o7+1) fun i8 =>
 Calls Tryz.prog 30 #[ofL a4] w.drew fun e10 w9 =>
 ∃ (A11:Option Addr) (n12 c13:Nat),e10=.returned (VS A11 n12 c13)/\(
 kp w.drew b6 (o7+1) 1 w9 <|
 kp w.drew x0.1 x0.2 1 w9 <|
 vIf (decide ((n12:Int) >= i8))
 (Q (VI .i64 8) w9)
 (ldP w9.drew x0.1 x0.2 fun p14 =>
 ldS w9.drew x1.1 x1.2 fun s15 =>
 ldP w9.drew x0.1 x0.2 fun p16 =>
 dr p16 fun b17 o18 =>
 ldI .i64 w9.drew b17 (o18+5) fun i19 =>
 Calls Tryz.prog 94 #[VP p14,ofL ([VI .i64 1] ++ ([VG s15] ++ ([VG (⟨#[]⟩:ByteArray)] ++ ([VI .i64 (WR .i64 (i19+1))] ++ []))))] w9.drew fun e21 w20 =>
 ∃ i22:Int,e21=.returned (VI .i64 i22)/\(
 vIf (i22 == 0)
 (ldP w20 x0.1 x0.2 fun p23 =>
 dr p23 fun b24 o25 =>
 ldI .i64 w20 b24 (o25+5) fun i26 =>
 dr p23 fun b27 o28 =>
 st w20 b27 (o28+5) [VI .i64 (WR .i64 (i26+1))] fun w29 =>
 ldP w29.drew x0.1 x0.2 fun p30 =>
 dr p30 fun b31 o32 =>
 ldM w29.drew b31 (o32+4) fun m33 =>
 ldP w29.drew x0.1 x0.2 fun p34 =>
 dr p34 fun b35 o36 =>
 ldI .i64 w29.drew b35 (o36+5) fun i37 =>
 drM m33 fun r39 =>
 mup w29.drew r39 .i64 i37 (ofL ([VS none 0 0] ++ ([VS none 0 0] ++ []))) fun w38 =>
 Q (VI .i64 i22) w38)
 (Q (VI .i64 i22) w20))))
def F93.an:Ann:=⟨[],[]⟩
theorem F93.of (x0:Nat×Nat) (x1:Nat×Nat) (w:World) {Q:QT} (h:F93.vc x0 x1 w Q):Calls Tryz.prog 93 #[VP (some ⟨x0.1,x0.2,none⟩),VP (some ⟨x1.1,x1.2,none⟩)] w (fun e w'=>∃ v,e=.returned v/\Q v w'):=vcFn_of (A:=F93.an) noCount mixed h (by kernel_rfl)
def F13.vc (x0:Option Addr) (x1:Int) (w:World) (Q:QT):Prop :=
 vIf (!x0.isNone)
 (dr x0 fun b1 o2 =>
 st w b1 (o2+7) [VB (decide (x1 >= 0))] fun w3 =>
 dr x0 fun b4 o5 =>
 st w3 b4 (o5+8) [VI .i64 x1] fun w6 =>
 Q (VT #[]) w6)
 (Q (VT #[]) w)
def F13.an:Ann:=⟨[],[]⟩
theorem F13.of (x0:Option Addr) (x1:Int) (w:World) {Q:QT} (h:F13.vc x0 x1 w Q):Calls Tryz.prog 13 #[VP x0,VI .i64 x1] w (fun e w'=>∃ v,e=.returned v/\Q v w'):=vcFn_of (A:=F13.an) noCount mixed h (by kernel_rfl)
def F4.vc (x0:List Value) (w:World) (Q:QT):Prop :=
 nw w x0 31 fun b1 w2 =>
 ldA 2 w2 b1 0 fun a3 =>
 mmk w2 fun m4 w5 =>
 gd (a3.length == 2) <|
 nw w5 (a3 ++ ([VS none 0 0,VS none 0 0] ++ ([Value.map (some m4)] ++ ([VI .i64 0] ++ ([VB false] ++ ([VB false] ++ ([VI .i64 0] ++ ([VI .i64 0] ++ [])))))))) 52 fun b6 w7 =>
 Q (VP (some ⟨b6,0,none⟩)) w7
def F4.an:Ann:=⟨[],[]⟩
theorem F4.of (x0:List Value) (w:World) {Q:QT} (h:F4.vc x0 w Q):Calls Tryz.prog 4 #[ofL x0] w (fun e w'=>∃ v,e=.returned v/\Q v w'):=vcFn_of (A:=F4.an) noCount mixed h (by kernel_rfl)
def F165.b7c (Q:QT) (C3:(NT×NT×Int×Unit)->WT) (C7:(NT×NT×Int×Int×Int×Int×Unit)->WT) (x0:NT) (x1:NT) (x2:Int) (x3:Int) (x4:Int) (x9:Int) (w:World):Prop :=
 vIf (decide (x9 < 4))
 (vIf ((iAnd .u32 x3 1) == 1)
 (jnC C7 ((x0.1,x0.2),(x1.1,x1.2),x2,((iXor .u32 (Int.fdiv x3 (2 ^ 1)) 2197175160)),x4,((WR .i64 (x9+1))),()) w)
 (jnC C7 ((x0.1,x0.2),(x1.1,x1.2),x2,((Int.fdiv x3 (2 ^ 1))),x4,((WR .i64 (x9+1))),()) w))
 (gd (decide (0<=x2)) <|
 gd (decide (x2 < 16)) <|
 st w x1.1 (x1.2+(x2).toNat * 1) [VI .u32 x3] fun w5 =>
 jnC C3 ((x0.1,x0.2),(x1.1,x1.2),((WR .i64 (x4+1))),()) w5)
def F165.b7 (Q:QT) (C3:(NT×NT×Int×Unit)->WT):(NT×NT×Int×Int×Int×Int×Unit)->World->((NT×NT×Int×Int×Int×Int×Unit)->WT)->Prop:=fun s w C7=>∀ _:Nat->Value,F165.b7c Q C3 C7 s.1 s.2.1 s.2.2.1 s.2.2.2.1 s.2.2.2.2.1 s.2.2.2.2.2.1 w
def F165.l7 (Q:QT) (C3:(NT×NT×Int×Unit)->WT):(NT×NT×Int×Int×Int×Int×Unit)->WT:=fun s w=>∃ n,loopC (F165.b7 Q C3) n s w
def F165.b3c (Q:QT) (C3:(NT×NT×Int×Unit)->WT) (x0:NT) (x1:NT) (x4:Int) (w:World):Prop :=
 vIf (decide (x4 < 16))
 (jnC (F165.l7 Q C3) ((x0.1,x0.2),(x1.1,x1.2),x4,((WR .u32 x4)),x4,(0),()) w)
 (ldA 16 w x1.1 x1.2 fun a6 =>
 gd (a6.length == 16) <|
 st w x0.1 x0.2 a6 fun w7 =>
 ldA 16 w7 x0.1 x0.2 fun a8 =>
 Q (ofL a8) w7)
def F165.b3 (Q:QT):(NT×NT×Int×Unit)->World->((NT×NT×Int×Unit)->WT)->Prop:=fun s w C3=>∀ _:Nat->Value,F165.b3c Q C3 s.1 s.2.1 s.2.2.1 w
def F165.l3 (Q:QT):(NT×NT×Int×Unit)->WT:=fun s w=>∃ n,loopC (F165.b3 Q) n s w
def F165.vc  (w:World) (Q:QT):Prop :=
 nw w Z226 226 fun b1 w2 =>
 nw w2 Z226 226 fun b3 w4 =>
 jnC (F165.l3 Q) ((b1,0),(b3,0),(0),()) w4
def F165.an:Ann:=⟨[(3,[(0,.kL),(1,.kL),(4,.kI .i64)]),(7,[(0,.kL),(1,.kL),(2,.kI .i64),(3,.kI .u32),(4,.kI .i64),(9,.kI .i64)])],[]⟩
theorem F165.of  (w:World) {Q:QT} (h:F165.vc  w Q):Calls Tryz.prog 165 #[] w (fun e w'=>∃ v,e=.returned v/\Q v w'):=vcFn_of (A:=F165.an) noCount mixed h (by kernel_rfl)
def F129.vc (x0A:Option Addr) (x0n x0c:Nat) (w:World) (Q:QT):Prop :=
 Calls Tryz.prog 150 #[VI .u32 0,VS x0A x0n x0c] w fun e2 w1 =>
 ∃ i3:Int,e2=.returned (VI .u32 i3)/\(
 Q (VI .u32 i3) w1)
def F129.an:Ann:=⟨[],[]⟩
theorem F129.of (x0A:Option Addr) (x0n x0c:Nat) (w:World) {Q:QT} (h:F129.vc x0A x0n x0c w Q):Calls Tryz.prog 129 #[VS x0A x0n x0c] w (fun e w'=>∃ v,e=.returned v/\Q v w'):=vcFn_of (A:=F129.an) noCount mixed h (by kernel_rfl)
def F150.b4c (Q:QT) (C4:(NT×Int×ST×Int×Int×Unit)->WT) (x5:NT) (x6:Int) (x12:ST) (x13:Int) (x14:Int) (w:World):Prop :=
 vIf (decide (x14 < x13))
 (dr x12.1 fun b7 o8 =>
 gd (decide (0<=x14)) <|
 gd (decide (x14 < (x12.2.1:Int))) <|
 ldI .u8 w b7 (o8+(x14).toNat * 1) fun i9 =>
 gd (decide (0<=(iXor .u8 (iAnd .u8 (WR .u8 x6) 15) (iAnd .u8 i9 15)))) <|
 gd (decide ((iXor .u8 (iAnd .u8 (WR .u8 x6) 15) (iAnd .u8 i9 15)) < 16)) <|
 ldI .u32 w x5.1 (x5.2+((iXor .u8 (iAnd .u8 (WR .u8 x6) 15) (iAnd .u8 i9 15))).toNat * 1) fun i10 =>
 gd (decide (0<=(iXor .u8 (iAnd .u8 (WR .u8 (iXor .u32 (Int.fdiv x6 (2 ^ 4)) i10)) 15) (Int.fdiv i9 (2 ^ 4))))) <|
 gd (decide ((iXor .u8 (iAnd .u8 (WR .u8 (iXor .u32 (Int.fdiv x6 (2 ^ 4)) i10)) 15) (Int.fdiv i9 (2 ^ 4))) < 16)) <|
 ldI .u32 w x5.1 (x5.2+((iXor .u8 (iAnd .u8 (WR .u8 (iXor .u32 (Int.fdiv x6 (2 ^ 4)) i10)) 15) (Int.fdiv i9 (2 ^ 4)))).toNat * 1) fun i11 =>
 jnC C4 ((x5.1,x5.2),((iXor .u32 (Int.fdiv (iXor .u32 (Int.fdiv x6 (2 ^ 4)) i10) (2 ^ 4)) i11)),(x12.1,x12.2.1,x12.2.2),x13,((WR .i64 (x14+1))),()) w)
 (Q (VI .u32 (iXor .u32 4294967295 x6)) w)
def F150.b4 (Q:QT):(NT×Int×ST×Int×Int×Unit)->World->((NT×Int×ST×Int×Int×Unit)->WT)->Prop:=fun s w C4=>∀ _:Nat->Value,F150.b4c Q C4 s.1 s.2.1 s.2.2.1 s.2.2.2.1 s.2.2.2.2.1 w
def F150.l4 (Q:QT):(NT×Int×ST×Int×Int×Unit)->WT:=fun s w=>∃ n,loopC (F150.b4 Q) n s w
def F150.vc (x0:Int) (x1A:Option Addr) (x1n x1c:Nat) (w:World) (Q:QT):Prop :=
 Calls Tryz.prog 165 #[] w fun e2 w1 =>
 ∃ a3:List Value,e2=.returned (ofL a3)/\(
 nw w1 Z226 226 fun b4 w5 =>
 gd (a3.length == 16) <|
 st w5 b4 0 a3 fun w6 =>
 jnC (F150.l4 Q) ((b4,0),((iXor .u32 4294967295 x0)),(x1A,x1n,x1c),((x1n:Int)),(0),()) w6)
def F150.an:Ann:=⟨[(4,[(5,.kL),(6,.kI .u32),(12,.kSl),(13,.kI .i64),(14,.kI .i64)])],[]⟩
theorem F150.of (x0:Int) (x1A:Option Addr) (x1n x1c:Nat) (w:World) {Q:QT} (h:F150.vc x0 x1A x1n x1c w Q):Calls Tryz.prog 150 #[VI .u32 x0,VS x1A x1n x1c] w (fun e w'=>∃ v,e=.returned v/\Q v w'):=vcFn_of (A:=F150.an) noCount mixed h (by kernel_rfl)
def F36.vc (x0:Int) (w:World) (Q:QT):Prop :=
 Q (VI .i64 (WR .i64 ((WR .i64 (17+x0))+4))) w
def F36.an:Ann:=⟨[],[]⟩
theorem F36.of (x0:Int) (w:World) {Q:QT} (h:F36.vc x0 w Q):Calls Tryz.prog 36 #[VI .i64 x0] w (fun e w'=>∃ v,e=.returned v/\Q v w'):=vcFn_of (A:=F36.an) noCount mixed h (by kernel_rfl)
def F90.vc (x0:Int) (w:World) (Q:QT):Prop :=
 vIf (decide (x0 >= 97))
 (vIf (decide (x0<=122))
 (Q (VB true) w)
 (vIf (decide (x0 >= 48))
 (Q (VB (decide (x0<=57))) w)
 (Q (VB false) w)))
 (vIf (decide (x0 >= 48))
 (Q (VB (decide (x0<=57))) w)
 (Q (VB false) w))
def F90.an:Ann:=⟨[],[]⟩
theorem F90.of (x0:Int) (w:World) {Q:QT} (h:F90.vc x0 w Q):Calls Tryz.prog 90 #[VI .u8 x0] w (fun e w'=>∃ v,e=.returned v/\Q v w'):=vcFn_of (A:=F90.an) noCount mixed h (by kernel_rfl)
def F57.b4c (Q:QT) (C4:(ByteArray×Int×Int×Unit)->WT) (x0:ByteArray) (x19:Int) (x20:Int) (w:World):Prop :=
 vIf (decide (x20 < x19))
 (gd (decide (0<=x20)) <|
 gd (decide (x20 < (x0.size:Int))) <|
 Calls Tryz.prog 90 #[VI .u8 (byteAt x0 (x20).toNat)] w fun e5 w4 =>
 ∃ t6:Bool,e5=.returned (VB t6)/\(
 vIf (!t6)
 (vIf ((byteAt x0 (x20).toNat) != 46)
 (vIf ((byteAt x0 (x20).toNat) != 95)
 (vIf ((byteAt x0 (x20).toNat) != 45)
 (Q (VB false) w4)
 (jnC C4 (x0,x19,((WR .i64 (x20+1))),()) w4))
 (jnC C4 (x0,x19,((WR .i64 (x20+1))),()) w4))
 (jnC C4 (x0,x19,((WR .i64 (x20+1))),()) w4))
 (jnC C4 (x0,x19,((WR .i64 (x20+1))),()) w4)))
 (Q (VB true) w)
def F57.b4 (Q:QT):(ByteArray×Int×Int×Unit)->World->((ByteArray×Int×Int×Unit)->WT)->Prop:=fun s w C4=>∀ _:Nat->Value,F57.b4c Q C4 s.1 s.2.1 s.2.2.1 w
def F57.l4 (Q:QT):(ByteArray×Int×Int×Unit)->WT:=fun s w=>∃ n,loopC (F57.b4 Q) n s w
def F57.k3c (Q:QT) (x0:ByteArray) (w:World):Prop :=
 jnC (F57.l4 Q) (x0,((x0.size:Int)),(0),()) w
def F57.k3 (Q:QT):(ByteArray×Unit)->WT:=fun s w=>∀ _:Nat->Value,F57.k3c Q s.1 w
def F57.vc (x0:ByteArray) (w:World) (Q:QT):Prop :=
 vIf (x0.toList == (⟨#[]⟩:ByteArray).toList)
 (Q (VB false) w)
 (vIf (decide ((x0.size:Int) > 32))
 (Q (VB false) w)
 (gd (decide ((0:Int) < (x0.size:Int))) <|
 Calls Tryz.prog 90 #[VI .u8 (byteAt x0 0)] w fun e2 w1 =>
 ∃ t3:Bool,e2=.returned (VB t3)/\(
 vIf (!t3)
 (Q (VB false) w1)
 (jnC (F57.k3 Q) (x0,()) w1))))
def F57.an:Ann:=⟨[(4,[(0,.kS),(19,.kI .i64),(20,.kI .i64)])],[(3,[(0,.kS)])]⟩
theorem F57.of (x0:ByteArray) (w:World) {Q:QT} (h:F57.vc x0 w Q):Calls Tryz.prog 57 #[VG x0] w (fun e w'=>∃ v,e=.returned v/\Q v w'):=vcFn_of (A:=F57.an) noCount mixed h (by kernel_rfl)
def F35.k14c (Q:QT) (x1:NT) (x3:Int) (x5:Int) (x20:Bool) (w:World):Prop :=
 vIf x20
 (ldI .i64 w x1.1 (x1.2+36) fun i11 =>
 vIf (decide (i11 < 0))
 (Q (VI .i64 20) w)
 (ldI .i64 w x1.1 (x1.2+36) fun i12 =>
 vIf (decide (i12 > x3))
 (Q (VI .i64 20) w)
 (ldI .i64 w x1.1 (x1.2+37) fun i13 =>
 vIf (decide (i13 < 0))
 (Q (VI .i64 20) w)
 (ldI .i64 w x1.1 (x1.2+37) fun i14 =>
 vIf (decide (i14 > x3))
 (Q (VI .i64 20) w)
 (Q (VI .i64 0) w)))))
 (vIf (x5 == 7)
 (ldI .i64 w x1.1 (x1.2+36) fun i15 =>
 vIf (decide (i15 < 1))
 (Q (VI .i64 20) w)
 (ldI .i64 w x1.1 (x1.2+36) fun i16 =>
 vIf (decide (i16 > 99999999))
 (Q (VI .i64 20) w)
 (Q (VI .i64 0) w)))
 (vIf (x5 == 5)
 (Q (VI .i64 0) w)
 (Q (VI .i64 2) w)))
def F35.k14 (Q:QT):(NT×Int×Int×Bool×Unit)->WT:=fun s w=>∀ _:Nat->Value,F35.k14c Q s.1 s.2.1 s.2.2.1 s.2.2.2.1 w
def F35.k10c (Q:QT) (x1:NT) (x3:Int) (x5:Int) (x13:Bool) (w:World):Prop :=
 vIf x13
 (ldS w x1.1 (x1.2+34) fun s7 =>
 Calls Tryz.prog 57 #[VG s7] w fun e9 w8 =>
 ∃ t10:Bool,e9=.returned (VB t10)/\(
 vIf (!t10)
 (Q (VI .i64 12) w8)
 (Q (VI .i64 0) w8)))
 (vIf (x5 == 6)
 (jnC (F35.k14 Q) ((x1.1,x1.2),x3,x5,(x5 == 6),()) w)
 (jnC (F35.k14 Q) ((x1.1,x1.2),x3,x5,(x5 == 8),()) w))
def F35.k10 (Q:QT):(NT×Int×Int×Bool×Unit)->WT:=fun s w=>∀ _:Nat->Value,F35.k10c Q s.1 s.2.1 s.2.2.1 s.2.2.2.1 w
def F35.k6c (Q:QT) (x1:NT) (x3:Int) (x5:Int) (x6:Bool) (w:World):Prop :=
 vIf x6
 (ldSl w x1.1 (x1.2+35) fun A4 n5 c6 =>
 vIf (decide ((n5:Int) > 65504))
 (Q (VI .i64 18) w)
 (Q (VI .i64 0) w))
 (vIf (x5 == 3)
 (jnC (F35.k10 Q) ((x1.1,x1.2),x3,x5,(x5 == 3),()) w)
 (jnC (F35.k10 Q) ((x1.1,x1.2),x3,x5,(x5 == 4),()) w))
def F35.k6 (Q:QT):(NT×Int×Int×Bool×Unit)->WT:=fun s w=>∀ _:Nat->Value,F35.k6c Q s.1 s.2.1 s.2.2.1 s.2.2.2.1 w
def F35.vc (x0:List Value) (w:World) (Q:QT):Prop :=
 nw w x0 71 fun b1 w2 =>
 ldI .i64 w2 b1 0 fun i3 =>
 vIf (i3 == 1)
 (jnC (F35.k6 Q) ((b1,0),(4294967295),i3,(i3 == 1),()) w2)
 (jnC (F35.k6 Q) ((b1,0),(4294967295),i3,(i3 == 2),()) w2)
def F35.an:Ann:=⟨[],[(6,[(1,.kL),(3,.kI .i64),(5,.kI .i64),(6,.kB)]),(10,[(1,.kL),(3,.kI .i64),(5,.kI .i64),(13,.kB)]),(14,[(1,.kL),(3,.kI .i64),(5,.kI .i64),(20,.kB)])]⟩
theorem F35.of (x0:List Value) (w:World) {Q:QT} (h:F35.vc x0 w Q):Calls Tryz.prog 35 #[ofL x0] w (fun e w'=>∃ v,e=.returned v/\Q v w'):=vcFn_of (A:=F35.an) noCount mixed h (by kernel_rfl)
def F41.k5c (Q:QT) (x2:NT) (x4:NT) (x5:NT) (x13:Int) (w:World):Prop :=
 vIf (x13 == 5)
 (ldA 32 w x2.1 (x2.2+2) fun a23 =>
 gd (a23.length == 32) <|
 st w x5.1 (x5.2+2) a23 fun w24 =>
 ldA 39 w24 x5.1 x5.2 fun a25 =>
 gd (a25.length == 39) <|
 st w24 x4.1 x4.2 a25 fun w26 =>
 ldA 39 w26 x4.1 x4.2 fun a27 =>
 Q (ofL a27) w26)
 (vIf (x13 == 3)
 (ldA 32 w x2.1 (x2.2+2) fun a28 =>
 gd (a28.length == 32) <|
 st w x5.1 (x5.2+2) a28 fun w29 =>
 ldS w29 x2.1 (x2.2+34) fun s30 =>
 st w29 x5.1 (x5.2+34) [VG s30] fun w31 =>
 ldA 39 w31 x5.1 x5.2 fun a32 =>
 gd (a32.length == 39) <|
 st w31 x4.1 x4.2 a32 fun w33 =>
 ldA 39 w33 x4.1 x4.2 fun a34 =>
 Q (ofL a34) w33)
 (vIf (x13 == 4)
 (ldS w x2.1 (x2.2+34) fun s35 =>
 st w x5.1 (x5.2+34) [VG s35] fun w36 =>
 ldA 39 w36 x5.1 x5.2 fun a37 =>
 gd (a37.length == 39) <|
 st w36 x4.1 x4.2 a37 fun w38 =>
 ldA 39 w38 x4.1 x4.2 fun a39 =>
 Q (ofL a39) w38)
 (vIf (x13 == 6)
 (vIf (x13 == 6)
 (ldI .i64 w x2.1 (x2.2+37) fun i40 =>
 st w x5.1 (x5.2+35) [VI .i64 i40] fun w41 =>
 ldA 39 w41 x5.1 x5.2 fun a42 =>
 gd (a42.length == 39) <|
 st w41 x4.1 x4.2 a42 fun w43 =>
 ldA 39 w43 x4.1 x4.2 fun a44 =>
 Q (ofL a44) w43)
 (ldA 39 w x5.1 x5.2 fun a45 =>
 gd (a45.length == 39) <|
 st w x4.1 x4.2 a45 fun w46 =>
 ldA 39 w46 x4.1 x4.2 fun a47 =>
 Q (ofL a47) w46))
 (vIf (x13 == 8)
 (ldI .i64 w x2.1 (x2.2+37) fun i48 =>
 st w x5.1 (x5.2+35) [VI .i64 i48] fun w49 =>
 ldA 39 w49 x5.1 x5.2 fun a50 =>
 gd (a50.length == 39) <|
 st w49 x4.1 x4.2 a50 fun w51 =>
 ldA 39 w51 x4.1 x4.2 fun a52 =>
 Q (ofL a52) w51)
 (ldA 39 w x5.1 x5.2 fun a53 =>
 gd (a53.length == 39) <|
 st w x4.1 x4.2 a53 fun w54 =>
 ldA 39 w54 x4.1 x4.2 fun a55 =>
 Q (ofL a55) w54)))))
def F41.k5 (Q:QT):(NT×NT×NT×Int×Unit)->WT:=fun s w=>∀ _:Nat->Value,F41.k5c Q s.1 s.2.1 s.2.2.1 s.2.2.2.1 w
def F41.vc (x0:List Value) (x1:List Value) (w:World) (Q:QT):Prop :=
 nw w x0 71 fun b1 w2 =>
 nw w2 x1 24 fun b3 w4 =>
 nw w4 Z73 73 fun b5 w6 =>
 ldI .i64 w6 b1 0 fun i7 =>
 ldI .u64 w6 b1 (0+1) fun i8 =>
 ldA 3 w6 b3 0 fun a9 =>
 gd (a9.length == 3) <|
 nw w6 Z73 73 fun b10 w11 =>
 gd (([VI .i64 i7] ++ ([VI .u64 i8] ++ ([VI .u8 0,VI .u8 0,VI .u8 0,VI .u8 0,VI .u8 0,VI .u8 0,VI .u8 0,VI .u8 0,VI .u8 0,VI .u8 0,VI .u8 0,VI .u8 0,VI .u8 0,VI .u8 0,VI .u8 0,VI .u8 0,VI .u8 0,VI .u8 0,VI .u8 0,VI .u8 0,VI .u8 0,VI .u8 0,VI .u8 0,VI .u8 0,VI .u8 0,VI .u8 0,VI .u8 0,VI .u8 0,VI .u8 0,VI .u8 0,VI .u8 0,VI .u8 0] ++ ([VG (⟨#[]⟩:ByteArray)] ++ ([VI .i64 0] ++ (a9 ++ [])))))).length == 39) <|
 st w11 b10 0 ([VI .i64 i7] ++ ([VI .u64 i8] ++ ([VI .u8 0,VI .u8 0,VI .u8 0,VI .u8 0,VI .u8 0,VI .u8 0,VI .u8 0,VI .u8 0,VI .u8 0,VI .u8 0,VI .u8 0,VI .u8 0,VI .u8 0,VI .u8 0,VI .u8 0,VI .u8 0,VI .u8 0,VI .u8 0,VI .u8 0,VI .u8 0,VI .u8 0,VI .u8 0,VI .u8 0,VI .u8 0,VI .u8 0,VI .u8 0,VI .u8 0,VI .u8 0,VI .u8 0,VI .u8 0,VI .u8 0,VI .u8 0] ++ ([VG (⟨#[]⟩:ByteArray)] ++ ([VI .i64 0] ++ (a9 ++ [])))))) fun w12 =>
 ldI .i64 w12 b1 0 fun i13 =>
 vIf (i13 == 1)
 (vIf (i13 == 1)
 (ldSl w12 b1 (0+35) fun A14 n15 c16 =>
 st w12 b10 (0+35) [VI .i64 (n15:Int)] fun w17 =>
 ldA 32 w17 b1 (0+2) fun a18 =>
 gd (a18.length == 32) <|
 st w17 b10 (0+2) a18 fun w19 =>
 ldA 39 w19 b10 0 fun a20 =>
 gd (a20.length == 39) <|
 st w19 b5 0 a20 fun w21 =>
 ldA 39 w21 b5 0 fun a22 =>
 Q (ofL a22) w21)
 (jnC (F41.k5 Q) ((b1,0),(b5,0),(b10,0),i13,()) w12))
 (vIf (i13 == 2)
 (ldSl w12 b1 (0+35) fun A56 n57 c58 =>
 st w12 b10 (0+35) [VI .i64 (n57:Int)] fun w59 =>
 ldA 32 w59 b1 (0+2) fun a60 =>
 gd (a60.length == 32) <|
 st w59 b10 (0+2) a60 fun w61 =>
 ldA 39 w61 b10 0 fun a62 =>
 gd (a62.length == 39) <|
 st w61 b5 0 a62 fun w63 =>
 ldA 39 w63 b5 0 fun a64 =>
 Q (ofL a64) w63)
 (jnC (F41.k5 Q) ((b1,0),(b5,0),(b10,0),i13,()) w12))
def F41.an:Ann:=⟨[],[(5,[(2,.kL),(4,.kL),(5,.kL),(13,.kI .i64)])]⟩
theorem F41.of (x0:List Value) (x1:List Value) (w:World) {Q:QT} (h:F41.vc x0 x1 w Q):Calls Tryz.prog 41 #[ofL x0,ofL x1] w (fun e w'=>∃ v,e=.returned v/\Q v w'):=vcFn_of (A:=F41.an) noCount mixed h (by kernel_rfl)
def F55.vc (x0:Int) (w:World) (Q:QT):Prop :=
 vIf (decide (x0 >= 1))
 (Q (VB (decide (x0<=5))) w)
 (Q (VB false) w)
def F55.an:Ann:=⟨[],[]⟩
theorem F55.of (x0:Int) (w:World) {Q:QT} (h:F55.vc x0 w Q):Calls Tryz.prog 55 #[VI .i64 x0] w (fun e w'=>∃ v,e=.returned v/\Q v w'):=vcFn_of (A:=F55.an) noCount mixed h (by kernel_rfl)
def F92.k3c (Q:QT) (x0:ST) (x1:Int) (w:World):Prop :=
 vIf (decide ((WR .i64 (x1 - (WR .i64 ((x0.2.2:Int) - (x0.2.1:Int))))) > 0))
 (gd (decide (0<=(x0.2.2:Int))) <|
 gd (decide ((x0.2.2:Int)<=(x0.2.2:Int))) <|
 appZ w 1 1 [VI .u8 0] 5 (slA x0.1 x0.2.2 0 1) (((x0.2.2:Int)).toNat) x0.2.2 (WR .i64 (x1 - (WR .i64 ((x0.2.2:Int) - (x0.2.1:Int))))) fun A1 n2 c3 w4 =>
 gd (decide (0<=(x0.2.1:Int))) <|
 gd (decide ((x0.2.1:Int)<=(c3:Int))) <|
 Q (VS (slA A1 c3 0 1) ((x0.2.1:Int)).toNat c3) w4)
 (Q (VS x0.1 x0.2.1 x0.2.2) w)
def F92.k3 (Q:QT):(ST×Int×Unit)->WT:=fun s w=>∀ _:Nat->Value,F92.k3c Q s.1 s.2.1 w
def F92.vc (x0A:Option Addr) (x0n x0c:Nat) (x1:Int) (w:World) (Q:QT):Prop :=
 vIf (decide (x1 < 0))
 (False)
 (jnC (F92.k3 Q) ((x0A,x0n,x0c),x1,()) w)
def F92.an:Ann:=⟨[],[(3,[(0,.kSl),(1,.kI .i64)])]⟩
theorem F92.of (x0A:Option Addr) (x0n x0c:Nat) (x1:Int) (w:World) {Q:QT} (h:F92.vc x0A x0n x0c x1 w Q):Calls Tryz.prog 92 #[VS x0A x0n x0c,VI .i64 x1] w (fun e w'=>∃ v,e=.returned v/\Q v w'):=vcFn_of (A:=F92.an) noCount mixed h (by kernel_rfl)
def F59.b11c (Q:QT) (C11:(ST×ST×Int×Int×Unit)->WT) (x6:ST) (x25:ST) (x26:Int) (x27:Int) (w:World):Prop :=
 vIf (decide (x27 < x26))
 (dr x25.1 fun b11 o12 =>
 gd (decide (0<=x27)) <|
 gd (decide (x27 < (x25.2.1:Int))) <|
 ldSl w b11 (o12+(x27).toNat * 1) fun A13 n14 c15 =>
 app w 1 1 [VI .u8 0] 5 x6.1 x6.2.1 x6.2.2 (VS A13 n14 c15) fun A16 n17 c18 w19 =>
 jnC C11 ((A16,n17,c18),(x25.1,x25.2.1,x25.2.2),x26,((WR .i64 (x27+1))),()) w19)
 (Q (VS x6.1 x6.2.1 x6.2.2) w)
def F59.b11 (Q:QT):(ST×ST×Int×Int×Unit)->World->((ST×ST×Int×Int×Unit)->WT)->Prop:=fun s w C11=>∀ _:Nat->Value,F59.b11c Q C11 s.1 s.2.1 s.2.2.1 s.2.2.2.1 w
def F59.l11 (Q:QT):(ST×ST×Int×Int×Unit)->WT:=fun s w=>∃ n,loopC (F59.b11 Q) n s w
def F59.b3c (Q:QT) (C3:(ST×Int×ST×Int×Int×Unit)->WT) (x0:ST) (x3:Int) (x9:ST) (x10:Int) (x11:Int) (w:World):Prop :=
 vIf (decide (x11 < x10))
 (dr x9.1 fun b1 o2 =>
 gd (decide (0<=x11)) <|
 gd (decide (x11 < (x9.2.1:Int))) <|
 ldSl w b1 (o2+(x11).toNat * 1) fun A3 n4 c5 =>
 vIf (decide ((WR .i64 (x3+(n4:Int))) < 0))
 (False)
 (jnC C3 ((x0.1,x0.2.1,x0.2.2),((WR .i64 (x3+(n4:Int)))),(x9.1,x9.2.1,x9.2.2),x10,((WR .i64 (x11+1))),()) w))
 (Calls Tryz.prog 92 #[VS none 0 0,VI .i64 x3] w fun e7 w6 =>
 ∃ (A8:Option Addr) (n9 c10:Nat),e7=.returned (VS A8 n9 c10)/\(
 jnC (F59.l11 Q) ((A8,n9,c10),(x0.1,x0.2.1,x0.2.2),((x0.2.1:Int)),(0),()) w6))
def F59.b3 (Q:QT):(ST×Int×ST×Int×Int×Unit)->World->((ST×Int×ST×Int×Int×Unit)->WT)->Prop:=fun s w C3=>∀ _:Nat->Value,F59.b3c Q C3 s.1 s.2.1 s.2.2.1 s.2.2.2.1 s.2.2.2.2.1 w
def F59.l3 (Q:QT):(ST×Int×ST×Int×Int×Unit)->WT:=fun s w=>∃ n,loopC (F59.b3 Q) n s w
def F59.vc (x0A:Option Addr) (x0n x0c:Nat) (w:World) (Q:QT):Prop :=
 jnC (F59.l3 Q) ((x0A,x0n,x0c),(0),(x0A,x0n,x0c),((x0n:Int)),(0),()) w
def F59.an:Ann:=⟨[(3,[(0,.kSl),(3,.kI .i64),(9,.kSl),(10,.kI .i64),(11,.kI .i64)]),(11,[(6,.kSl),(25,.kSl),(26,.kI .i64),(27,.kI .i64)])],[]⟩
theorem F59.of (x0A:Option Addr) (x0n x0c:Nat) (w:World) {Q:QT} (h:F59.vc x0A x0n x0c w Q):Calls Tryz.prog 59 #[VS x0A x0n x0c] w (fun e w'=>∃ v,e=.returned v/\Q v w'):=vcFn_of (A:=F59.an) noCount mixed h (by kernel_rfl)
def F91.vc (x0A:Option Addr) (x0n x0c:Nat) (x1:Int) (w:World) (Q:QT):Prop :=
 gd (decide (0<=(x0n:Int))) <|
 gd (decide ((x0n:Int)<=(WR .i64 ((x0n:Int)+x1)))) <|
 gd (decide ((WR .i64 ((x0n:Int)+x1)) * 1<=281474976710656/\(WR .i64 ((x0n:Int)+x1))<=9223372036854775807)) <|
 nw w (zeros ((WR .i64 ((x0n:Int)+x1))).toNat [VI .u8 0]) 5 fun b1 w2 =>
 cpy w2 1 (some ⟨b1,0,none⟩) (((x0n:Int)).toNat) (VS x0A x0n x0c) fun n3 w4 =>
 Q (VS (some ⟨b1,0,none⟩) ((x0n:Int)).toNat ((WR .i64 ((x0n:Int)+x1))).toNat) w4
def F91.an:Ann:=⟨[],[]⟩
theorem F91.of (x0A:Option Addr) (x0n x0c:Nat) (x1:Int) (w:World) {Q:QT} (h:F91.vc x0A x0n x0c x1 w Q):Calls Tryz.prog 91 #[VS x0A x0n x0c,VI .i64 x1] w (fun e w'=>∃ v,e=.returned v/\Q v w'):=vcFn_of (A:=F91.an) noCount mixed h (by kernel_rfl)
def F60.b5c (Q:QT) (C5:(Int×ST×Int×Int×Unit)->WT) (x1:Int) (x7:ST) (x17:Int) (x18:Int) (w:World):Prop :=
 vIf (decide (x18 < x17))
 (nw w ([VI .u8 (WR .u8 x1)] ++ []) 5 fun b6 w7 =>
 app w7 1 1 [VI .u8 0] 5 x7.1 x7.2.1 x7.2.2 (VS (some ⟨b6,0,none⟩) 1 1) fun A8 n9 c10 w11 =>
 jnC C5 (((Int.fdiv x1 (2 ^ 8))),(A8,n9,c10),x17,((WR .i64 (x18+1))),()) w11)
 (Q (VS x7.1 x7.2.1 x7.2.2) w)
def F60.b5 (Q:QT):(Int×ST×Int×Int×Unit)->World->((Int×ST×Int×Int×Unit)->WT)->Prop:=fun s w C5=>∀ _:Nat->Value,F60.b5c Q C5 s.1 s.2.1 s.2.2.1 s.2.2.2.1 w
def F60.l5 (Q:QT):(Int×ST×Int×Int×Unit)->WT:=fun s w=>∃ n,loopC (F60.b5 Q) n s w
def F60.k4c (Q:QT) (x1:Int) (x2:Int) (x7:ST) (w:World):Prop :=
 jnC (F60.l5 Q) (x1,(x7.1,x7.2.1,x7.2.2),x2,(0),()) w
def F60.k4 (Q:QT):(Int×Int×ST×Unit)->WT:=fun s w=>∀ _:Nat->Value,F60.k4c Q s.1 s.2.1 s.2.2.1 w
def F60.vc (x0A:Option Addr) (x0n x0c:Nat) (x1:Int) (x2:Int) (w:World) (Q:QT):Prop :=
 Calls Tryz.prog 91 #[VS x0A x0n x0c,VI .i64 8] w fun e2 w1 =>
 ∃ (A3:Option Addr) (n4 c5:Nat),e2=.returned (VS A3 n4 c5)/\(
 vIf (decide (x2 < 1))
 (Q (VS A3 n4 c5) w1)
 (vIf (decide (x2 > 8))
 (Q (VS A3 n4 c5) w1)
 (jnC (F60.k4 Q) (x1,x2,(A3,n4,c5),()) w1)))
def F60.an:Ann:=⟨[(5,[(1,.kI .u64),(7,.kSl),(17,.kI .i64),(18,.kI .i64)])],[(4,[(1,.kI .u64),(2,.kI .i64),(7,.kSl)])]⟩
theorem F60.of (x0A:Option Addr) (x0n x0c:Nat) (x1:Int) (x2:Int) (w:World) {Q:QT} (h:F60.vc x0A x0n x0c x1 x2 w Q):Calls Tryz.prog 60 #[VS x0A x0n x0c,VI .u64 x1,VI .i64 x2] w (fun e w'=>∃ v,e=.returned v/\Q v w'):=vcFn_of (A:=F60.an) noCount mixed h (by kernel_rfl)
def F58.vc (x0A:Option Addr) (x0n x0c:Nat) (x1:ByteArray) (w:World) (Q:QT):Prop :=
 Calls Tryz.prog 91 #[VS x0A x0n x0c,VI .i64 (WR .i64 ((x1.size:Int)+1))] w fun e2 w1 =>
 ∃ (A3:Option Addr) (n4 c5:Nat),e2=.returned (VS A3 n4 c5)/\(
 vIf (decide ((x1.size:Int) > 255))
 (Q (VT #[VS A3 n4 c5,VB false]) w1)
 (nw w1 ([VI .u8 (WR .u8 (x1.size:Int))] ++ []) 5 fun b6 w7 =>
 app w7 1 1 [VI .u8 0] 5 A3 n4 c5 (VS (some ⟨b6,0,none⟩) 1 1) fun A8 n9 c10 w11 =>
 app w11 1 1 [VI .u8 0] 5 A8 n9 c10 (VG x1) fun A12 n13 c14 w15 =>
 Q (VT #[VS A12 n13 c14,VB true]) w15))
def F58.an:Ann:=⟨[],[]⟩
theorem F58.of (x0A:Option Addr) (x0n x0c:Nat) (x1:ByteArray) (w:World) {Q:QT} (h:F58.vc x0A x0n x0c x1 w Q):Calls Tryz.prog 58 #[VS x0A x0n x0c,VG x1] w (fun e w'=>∃ v,e=.returned v/\Q v w'):=vcFn_of (A:=F58.an) noCount mixed h (by kernel_rfl)
def F89.vc (x0A:Option Addr) (x0n x0c:Nat) (w:World) (Q:QT):Prop :=
 Calls Tryz.prog 129 #[VS x0A x0n x0c] w fun e2 w1 =>
 ∃ i3:Int,e2=.returned (VI .u32 i3)/\(
 Calls Tryz.prog 60 #[VS x0A x0n x0c,VI .u64 (WR .u64 i3),VI .i64 4] w1 fun e5 w4 =>
 ∃ (A6:Option Addr) (n7 c8:Nat),e5=.returned (VS A6 n7 c8)/\(
 Q (VS A6 n7 c8) w4))
def F89.an:Ann:=⟨[],[]⟩
theorem F89.of (x0A:Option Addr) (x0n x0c:Nat) (w:World) {Q:QT} (h:F89.vc x0A x0n x0c w Q):Calls Tryz.prog 89 #[VS x0A x0n x0c] w (fun e w'=>∃ v,e=.returned v/\Q v w'):=vcFn_of (A:=F89.an) noCount mixed h (by kernel_rfl)
def F56.vc (x0:Int) (x1:Int) (x2A:Option Addr) (x2n x2c:Nat) (w:World) (Q:QT):Prop :=
 Calls Tryz.prog 60 #[VS none 0 0,VI .u64 (WR .u64 x0),VI .i64 1] w fun e2 w1 =>
 ∃ (A3:Option Addr) (n4 c5:Nat),e2=.returned (VS A3 n4 c5)/\(
 Calls Tryz.prog 60 #[VS A3 n4 c5,VI .u64 x1,VI .i64 8] w1 fun e7 w6 =>
 ∃ (A8:Option Addr) (n9 c10:Nat),e7=.returned (VS A8 n9 c10)/\(
 Calls Tryz.prog 60 #[VS A8 n9 c10,VI .u64 (WR .u64 (x2n:Int)),VI .i64 4] w6 fun e12 w11 =>
 ∃ (A13:Option Addr) (n14 c15:Nat),e12=.returned (VS A13 n14 c15)/\(
 Calls Tryz.prog 89 #[VS A13 n14 c15] w11 fun e17 w16 =>
 ∃ (A18:Option Addr) (n19 c20:Nat),e17=.returned (VS A18 n19 c20)/\(
 app w16 1 1 [VI .u8 0] 5 A18 n19 c20 (VS x2A x2n x2c) fun A21 n22 c23 w24 =>
 Calls Tryz.prog 89 #[VS A21 n22 c23] w24 fun e26 w25 =>
 ∃ (A27:Option Addr) (n28 c29:Nat),e26=.returned (VS A27 n28 c29)/\(
 Q (VS A27 n28 c29) w25)))))
def F56.an:Ann:=⟨[],[]⟩
theorem F56.of (x0:Int) (x1:Int) (x2A:Option Addr) (x2n x2c:Nat) (w:World) {Q:QT} (h:F56.vc x0 x1 x2A x2n x2c w Q):Calls Tryz.prog 56 #[VI .i64 x0,VI .u64 x1,VS x2A x2n x2c] w (fun e w'=>∃ v,e=.returned v/\Q v w'):=vcFn_of (A:=F56.an) noCount mixed h (by kernel_rfl)
def F37.k12c (Q:QT) (x1:NT) (x3:ST) (w:World):Prop :=
 app w 1 1 [VI .u8 0] 5 x3.1 x3.2.1 x3.2.2 (VS (some ⟨x1.1,(x1.2+2),none⟩) 32 32) fun A12 n13 c14 w15 =>
 Q (VS A12 n13 c14) w15
def F37.k12 (Q:QT):(NT×ST×Unit)->WT:=fun s w=>∀ _:Nat->Value,F37.k12c Q s.1 s.2.1 w
def F37.k9c (Q:QT) (x1:NT) (x3:ST) (w:World):Prop :=
 ldS w x1.1 (x1.2+34) fun s4 =>
 Calls Tryz.prog 58 #[VS x3.1 x3.2.1 x3.2.2,VG s4] w fun e6 w5 =>
 ∃ (A7:Option Addr) (n8 c9:Nat),∃ t10:Bool,e6=.returned (VT #[VS A7 n8 c9,VB t10])/\(
 ldI .i64 w5 x1.1 x1.2 fun i11 =>
 vIf (i11 == 4)
 (Q (VS A7 n8 c9) w5)
 (jnC (F37.k12 Q) ((x1.1,x1.2),(A7,n8,c9),()) w5))
def F37.k9 (Q:QT):(NT×ST×Unit)->WT:=fun s w=>∀ _:Nat->Value,F37.k9c Q s.1 s.2.1 w
def F37.k13c (Q:QT) (x1:NT) (w:World):Prop :=
 ldSl w.drew x1.1 (x1.2+35) fun A16 n17 c18 =>
 nw w.drew ([VS (some ⟨x1.1,(x1.2+2),none⟩) 32 32] ++ ([VS A16 n17 c18] ++ [])) 33 fun b19 w20 =>
 Calls Tryz.prog 59 #[VS (some ⟨b19,0,none⟩) 2 2] w20 fun e22 w21 =>
 ∃ (A23:Option Addr) (n24 c25:Nat),e22=.returned (VS A23 n24 c25)/\(
 Q (VS A23 n24 c25) w21)
def F37.k13 (Q:QT):(NT×Unit)->WT:=fun s w=>∀ _:Nat->Value,F37.k13c Q s.1 w
def F37.k14c (Q:QT) (x1:NT) (w:World):Prop :=
 nw w ([VI .u8 115] ++ ([VI .u8 116] ++ ([VI .u8 105] ++ ([VI .u8 108] ++ ([VI .u8 108] ++ ([VI .u8 97] ++ ([VI .u8 103] ++ ([VI .u8 101] ++ [])))))))) 5 fun b26 w27 =>
 mkS w27 b26 fun w28 =>
 ldI .i64 w28 x1.1 (x1.2+36) fun i29 =>
 Calls Tryz.prog 60 #[VS (some ⟨b26,0,none⟩) 8 8,VI .u64 (WR .u64 i29),VI .i64 8] w28 fun e31 w30 =>
 ∃ (A32:Option Addr) (n33 c34:Nat),e31=.returned (VS A32 n33 c34)/\(
 Q (VS A32 n33 c34) w30)
def F37.k14 (Q:QT):(NT×Unit)->WT:=fun s w=>∀ _:Nat->Value,F37.k14c Q s.1 w
def F37.k15c (Q:QT) (x1:NT) (x3:ST) (w:World):Prop :=
 ldI .i64 w.drew x1.1 (x1.2+36) fun i35 =>
 ldI .i64 w.drew x1.1 (x1.2+37) fun i36 =>
 Calls Tryz.prog 60 #[VS x3.1 x3.2.1 x3.2.2,VI .u64 (WR .u64 i35),VI .i64 4] w.drew fun e38 w37 =>
 ∃ (A39:Option Addr) (n40 c41:Nat),e38=.returned (VS A39 n40 c41)/\(
 kp w.drew x1.1 (x1.2+37) 1 w37 <|
 Calls Tryz.prog 60 #[VS A39 n40 c41,VI .u64 (WR .u64 i36),VI .i64 4] w37 fun e43 w42 =>
 ∃ (A44:Option Addr) (n45 c46:Nat),e43=.returned (VS A44 n45 c46)/\(
 Q (VS A44 n45 c46) w42))
def F37.k15 (Q:QT):(NT×ST×Unit)->WT:=fun s w=>∀ _:Nat->Value,F37.k15c Q s.1 s.2.1 w
def F37.k5c (Q:QT) (x1:NT) (x3:ST) (x5:Int) (w:World):Prop :=
 vIf (x5 == 5)
 (jnC (F37.k12 Q) ((x1.1,x1.2),(x3.1,x3.2.1,x3.2.2),()) w)
 (vIf (x5 == 1)
 (vIf (x5 == 1)
 (jnC (F37.k13 Q) ((x1.1,x1.2),()) w)
 (vIf (x5 == 7)
 (jnC (F37.k14 Q) ((x1.1,x1.2),()) w)
 (jnC (F37.k15 Q) ((x1.1,x1.2),(x3.1,x3.2.1,x3.2.2),()) w)))
 (vIf (x5 == 2)
 (jnC (F37.k13 Q) ((x1.1,x1.2),()) w)
 (vIf (x5 == 7)
 (jnC (F37.k14 Q) ((x1.1,x1.2),()) w)
 (jnC (F37.k15 Q) ((x1.1,x1.2),(x3.1,x3.2.1,x3.2.2),()) w))))
def F37.k5 (Q:QT):(NT×ST×Int×Unit)->WT:=fun s w=>∀ _:Nat->Value,F37.k5c Q s.1 s.2.1 s.2.2.1 w
def F37.vc (x0:List Value) (w:World) (Q:QT):Prop :=
 nw w x0 71 fun b1 w2 =>
 ldI .i64 w2 b1 0 fun i3 =>
 vIf (i3 == 3)
 (vIf (i3 == 3)
 (jnC (F37.k9 Q) ((b1,0),(none,0,0),()) w2)
 (jnC (F37.k5 Q) ((b1,0),(none,0,0),i3,()) w2))
 (vIf (i3 == 4)
 (jnC (F37.k9 Q) ((b1,0),(none,0,0),()) w2)
 (jnC (F37.k5 Q) ((b1,0),(none,0,0),i3,()) w2))
def F37.an:Ann:=⟨[],[(5,[(1,.kL),(3,.kSl),(5,.kI .i64)]),(9,[(1,.kL),(3,.kSl)]),(12,[(1,.kL),(3,.kSl)]),(13,[(1,.kL)]),(14,[(1,.kL)]),(15,[(1,.kL),(3,.kSl)])]⟩
theorem F37.of (x0:List Value) (w:World) {Q:QT} (h:F37.vc x0 w Q):Calls Tryz.prog 37 #[ofL x0] w (fun e w'=>∃ v,e=.returned v/\Q v w'):=vcFn_of (A:=F37.an) noCount mixed h (by kernel_rfl)
def F33.vc (x0:List Value) (w:World) (Q:QT):Prop :=
 nw w x0 71 fun b1 w2 =>
 ldA 38 w2 b1 0 fun a3 =>
 Calls Tryz.prog 35 #[ofL a3] w2 fun e5 w4 =>
 ∃ i6:Int,e5=.returned (VI .i64 i6)/\(
 vIf (i6 != 0)
 (Q (VT #[VS none 0 0,VI .i64 i6]) w4)
 (ldI .i64 w4.drew b1 0 fun i7 =>
 ldI .u64 w4.drew b1 (0+1) fun i8 =>
 ldA 38 w4.drew b1 0 fun a9 =>
 Calls Tryz.prog 37 #[ofL a9] w4.drew fun e11 w10 =>
 ∃ (A12:Option Addr) (n13 c14:Nat),e11=.returned (VS A12 n13 c14)/\(
 kp w4.drew b1 (0+1) 1 w10 <|
 kp w4.drew b1 0 1 w10 <|
 Calls Tryz.prog 56 #[VI .i64 i7,VI .u64 i8,VS A12 n13 c14] w10 fun e16 w15 =>
 ∃ (A17:Option Addr) (n18 c19:Nat),e16=.returned (VS A17 n18 c19)/\(
 Q (VT #[VS A17 n18 c19,VI .i64 0]) w15))))
def F33.an:Ann:=⟨[],[]⟩
theorem F33.of (x0:List Value) (w:World) {Q:QT} (h:F33.vc x0 w Q):Calls Tryz.prog 33 #[ofL x0] w (fun e w'=>∃ v,e=.returned v/\Q v w'):=vcFn_of (A:=F33.an) noCount mixed h (by kernel_rfl)
def F20.vc (x0:List Value) (w:World) (Q:QT):Prop :=
 nw w x0 71 fun b1 w2 =>
 ldA 38 w2 b1 0 fun a3 =>
 Calls Tryz.prog 35 #[ofL a3] w2 fun e5 w4 =>
 ∃ i6:Int,e5=.returned (VI .i64 i6)/\(
 vIf (i6 != 0)
 (Q (VI .i64 0) w4)
 (ldA 38 w4 b1 0 fun a7 =>
 Calls Tryz.prog 37 #[ofL a7] w4 fun e9 w8 =>
 ∃ (A10:Option Addr) (n11 c12:Nat),e9=.returned (VS A10 n11 c12)/\(
 Calls Tryz.prog 36 #[VI .i64 (n11:Int)] w8 fun e14 w13 =>
 ∃ i15:Int,e14=.returned (VI .i64 i15)/\(
 Q (VI .i64 i15) w13))))
def F20.an:Ann:=⟨[],[]⟩
theorem F20.of (x0:List Value) (w:World) {Q:QT} (h:F20.vc x0 w Q):Calls Tryz.prog 20 #[ofL x0] w (fun e w'=>∃ v,e=.returned v/\Q v w'):=vcFn_of (A:=F20.an) noCount mixed h (by kernel_rfl)
def F61.vc (x0:Int) (x1:Int) (w:World) (Q:QT):Prop :=
 Calls Tryz.prog 33 #[ofL ([VI .i64 7] ++ ([VI .u64 x1] ++ ([VI .u8 0,VI .u8 0,VI .u8 0,VI .u8 0,VI .u8 0,VI .u8 0,VI .u8 0,VI .u8 0,VI .u8 0,VI .u8 0,VI .u8 0,VI .u8 0,VI .u8 0,VI .u8 0,VI .u8 0,VI .u8 0,VI .u8 0,VI .u8 0,VI .u8 0,VI .u8 0,VI .u8 0,VI .u8 0,VI .u8 0,VI .u8 0,VI .u8 0,VI .u8 0,VI .u8 0,VI .u8 0,VI .u8 0,VI .u8 0,VI .u8 0,VI .u8 0] ++ ([VG (⟨#[]⟩:ByteArray)] ++ ([VS none 0 0] ++ ([VI .i64 x0] ++ ([VI .i64 0] ++ [])))))))] w fun e2 w1 =>
 ∃ (A3:Option Addr) (n4 c5:Nat),∃ i6:Int,e2=.returned (VT #[VS A3 n4 c5,VI .i64 i6])/\(
 Q (VS A3 n4 c5) w1)
def F61.an:Ann:=⟨[],[]⟩
theorem F61.of (x0:Int) (x1:Int) (w:World) {Q:QT} (h:F61.vc x0 x1 w Q):Calls Tryz.prog 61 #[VI .i64 x0,VI .u64 x1] w (fun e w'=>∃ v,e=.returned v/\Q v w'):=vcFn_of (A:=F61.an) noCount mixed h (by kernel_rfl)
def F25.vc (x0:Int) (x1:Int) (x2:Int) (w:World) (Q:QT):Prop :=
 Calls Tryz.prog 33 #[ofL ([VI .i64 8] ++ ([VI .u64 x2] ++ ([VI .u8 0,VI .u8 0,VI .u8 0,VI .u8 0,VI .u8 0,VI .u8 0,VI .u8 0,VI .u8 0,VI .u8 0,VI .u8 0,VI .u8 0,VI .u8 0,VI .u8 0,VI .u8 0,VI .u8 0,VI .u8 0,VI .u8 0,VI .u8 0,VI .u8 0,VI .u8 0,VI .u8 0,VI .u8 0,VI .u8 0,VI .u8 0,VI .u8 0,VI .u8 0,VI .u8 0,VI .u8 0,VI .u8 0,VI .u8 0,VI .u8 0,VI .u8 0] ++ ([VG (⟨#[]⟩:ByteArray)] ++ ([VS none 0 0] ++ ([VI .i64 x0] ++ ([VI .i64 x1] ++ [])))))))] w fun e2 w1 =>
 ∃ (A3:Option Addr) (n4 c5:Nat),∃ i6:Int,e2=.returned (VT #[VS A3 n4 c5,VI .i64 i6])/\(
 Q (VS A3 n4 c5) w1)
def F25.an:Ann:=⟨[],[]⟩
theorem F25.of (x0:Int) (x1:Int) (x2:Int) (w:World) {Q:QT} (h:F25.vc x0 x1 x2 w Q):Calls Tryz.prog 25 #[VI .i64 x0,VI .i64 x1,VI .u64 x2] w (fun e w'=>∃ v,e=.returned v/\Q v w'):=vcFn_of (A:=F25.an) noCount mixed h (by kernel_rfl)
def F32.b10c (Q:QT) (C10:(ST×Int×Int×Unit)->WT) (x22:ST) (x23:Int) (x24:Int) (w:World):Prop :=
 vIf (decide (x24 < x23))
 (dr x22.1 fun b11 o12 =>
 gd (decide (0<=x24)) <|
 gd (decide (x24 < (x22.2.1:Int))) <|
 ldA 38 w b11 (o12+(x24).toNat * 38) fun a13 =>
 nw w Z71 71 fun b14 w15 =>
 gd (a13.length == 38) <|
 st w15 b14 0 a13 fun w16 =>
 ldA 38 w16 b14 0 fun a17 =>
 Calls Tryz.prog 35 #[ofL a17] w16 fun e19 w18 =>
 ∃ i20:Int,e19=.returned (VI .i64 i20)/\(
 vIf (i20 != 0)
 (Q (VI .i64 i20) w18)
 (jnC C10 ((x22.1,x22.2.1,x22.2.2),x23,((WR .i64 (x24+1))),()) w18)))
 (Q (VI .i64 0) w)
def F32.b10 (Q:QT):(ST×Int×Int×Unit)->World->((ST×Int×Int×Unit)->WT)->Prop:=fun s w C10=>∀ _:Nat->Value,F32.b10c Q C10 s.1 s.2.1 s.2.2.1 w
def F32.l10 (Q:QT):(ST×Int×Int×Unit)->WT:=fun s w=>∃ n,loopC (F32.b10 Q) n s w
def F32.b4c (Q:QT) (C4:(ST×ST×Int×Int×Unit)->WT) (x0:ST) (x11:ST) (x12:Int) (x13:Int) (w:World):Prop :=
 vIf (decide (x13 < x12))
 (dr x11.1 fun b1 o2 =>
 gd (decide (0<=x13)) <|
 gd (decide (x13 < (x11.2.1:Int))) <|
 ldA 38 w b1 (o2+(x13).toNat * 38) fun a3 =>
 nw w Z71 71 fun b4 w5 =>
 gd (a3.length == 38) <|
 st w5 b4 0 a3 fun w6 =>
 ldI .i64 w6 b4 0 fun i7 =>
 Calls Tryz.prog 55 #[VI .i64 i7] w6 fun e9 w8 =>
 ∃ t10:Bool,e9=.returned (VB t10)/\(
 vIf (!t10)
 (Q (VI .i64 2) w8)
 (jnC C4 ((x0.1,x0.2.1,x0.2.2),(x11.1,x11.2.1,x11.2.2),x12,((WR .i64 (x13+1))),()) w8)))
 (jnC (F32.l10 Q) ((x0.1,x0.2.1,x0.2.2),((x0.2.1:Int)),(0),()) w)
def F32.b4 (Q:QT):(ST×ST×Int×Int×Unit)->World->((ST×ST×Int×Int×Unit)->WT)->Prop:=fun s w C4=>∀ _:Nat->Value,F32.b4c Q C4 s.1 s.2.1 s.2.2.1 s.2.2.2.1 w
def F32.l4 (Q:QT):(ST×ST×Int×Int×Unit)->WT:=fun s w=>∃ n,loopC (F32.b4 Q) n s w
def F32.vc (x0A:Option Addr) (x0n x0c:Nat) (w:World) (Q:QT):Prop :=
 vIf ((x0n:Int) == 0)
 (Q (VI .i64 2) w)
 (jnC (F32.l4 Q) ((x0A,x0n,x0c),(x0A,x0n,x0c),((x0n:Int)),(0),()) w)
def F32.an:Ann:=⟨[(4,[(0,.kSl),(11,.kSl),(12,.kI .i64),(13,.kI .i64)]),(10,[(22,.kSl),(23,.kI .i64),(24,.kI .i64)])],[]⟩
theorem F32.of (x0A:Option Addr) (x0n x0c:Nat) (w:World) {Q:QT} (h:F32.vc x0A x0n x0c w Q):Calls Tryz.prog 32 #[VS x0A x0n x0c] w (fun e w'=>∃ v,e=.returned v/\Q v w'):=vcFn_of (A:=F32.an) noCount mixed h (by kernel_rfl)
def F34.vc (x0:Int) (x1:Int) (x2:Int) (w:World) (Q:QT):Prop :=
 nw w Z71 71 fun b1 w2 =>
 gd (([VI .i64 6] ++ ([VI .u64 x2] ++ ([VI .u8 0,VI .u8 0,VI .u8 0,VI .u8 0,VI .u8 0,VI .u8 0,VI .u8 0,VI .u8 0,VI .u8 0,VI .u8 0,VI .u8 0,VI .u8 0,VI .u8 0,VI .u8 0,VI .u8 0,VI .u8 0,VI .u8 0,VI .u8 0,VI .u8 0,VI .u8 0,VI .u8 0,VI .u8 0,VI .u8 0,VI .u8 0,VI .u8 0,VI .u8 0,VI .u8 0,VI .u8 0,VI .u8 0,VI .u8 0,VI .u8 0,VI .u8 0] ++ ([VG (⟨#[]⟩:ByteArray)] ++ ([VS none 0 0] ++ ([VI .i64 x0] ++ ([VI .i64 x1] ++ []))))))).length == 38) <|
 st w2 b1 0 ([VI .i64 6] ++ ([VI .u64 x2] ++ ([VI .u8 0,VI .u8 0,VI .u8 0,VI .u8 0,VI .u8 0,VI .u8 0,VI .u8 0,VI .u8 0,VI .u8 0,VI .u8 0,VI .u8 0,VI .u8 0,VI .u8 0,VI .u8 0,VI .u8 0,VI .u8 0,VI .u8 0,VI .u8 0,VI .u8 0,VI .u8 0,VI .u8 0,VI .u8 0,VI .u8 0,VI .u8 0,VI .u8 0,VI .u8 0,VI .u8 0,VI .u8 0,VI .u8 0,VI .u8 0,VI .u8 0,VI .u8 0] ++ ([VG (⟨#[]⟩:ByteArray)] ++ ([VS none 0 0] ++ ([VI .i64 x0] ++ ([VI .i64 x1] ++ []))))))) fun w3 =>
 ldA 38 w3 b1 0 fun a4 =>
 Q (ofL a4) w3
def F34.an:Ann:=⟨[],[]⟩
theorem F34.of (x0:Int) (x1:Int) (x2:Int) (w:World) {Q:QT} (h:F34.vc x0 x1 x2 w Q):Calls Tryz.prog 34 #[VI .i64 x0,VI .i64 x1,VI .u64 x2] w (fun e w'=>∃ v,e=.returned v/\Q v w'):=vcFn_of (A:=F34.an) noCount mixed h (by kernel_rfl)
def F19.b9c (Q:QT) (C9:(ST×ST×Int×ST×Int×Int×Unit)->WT) (x0:ST) (x8:ST) (x9:Int) (x30:ST) (x31:Int) (x32:Int) (w:World):Prop :=
 vIf (decide (x32 < x31))
 (dr x30.1 fun b4 o5 =>
 gd (decide (0<=x32)) <|
 gd (decide (x32 < (x30.2.1:Int))) <|
 ldA 38 w b4 (o5+(x32).toNat * 38) fun a6 =>
 nw w Z71 71 fun b7 w8 =>
 gd (a6.length == 38) <|
 st w8 b7 0 a6 fun w9 =>
 st w9 b7 (0+1) [VI .u64 x9] fun w10 =>
 ldA 38 w10 b7 0 fun a11 =>
 Calls Tryz.prog 33 #[ofL a11] w10 fun e13 w12 =>
 ∃ (A14:Option Addr) (n15 c16:Nat),∃ i17:Int,e13=.returned (VT #[VS A14 n15 c16,VI .i64 i17])/\(
 app w12 1 1 [VI .u8 0] 5 x8.1 x8.2.1 x8.2.2 (VS A14 n15 c16) fun A18 n19 c20 w21 =>
 jnC C9 ((x0.1,x0.2.1,x0.2.2),(A18,n19,c20),((WR .u64 (x9+1))),(x30.1,x30.2.1,x30.2.2),x31,((WR .i64 (x32+1))),()) w21))
 (Calls Tryz.prog 34 #[VI .i64 (x0.2.1:Int),VI .i64 (x8.2.1:Int),VI .u64 x9] w fun e23 w22 =>
 ∃ a24:List Value,e23=.returned (ofL a24)/\(
 Calls Tryz.prog 33 #[ofL a24] w22 fun e26 w25 =>
 ∃ (A27:Option Addr) (n28 c29:Nat),∃ i30:Int,e26=.returned (VT #[VS A27 n28 c29,VI .i64 i30])/\(
 app w25 1 1 [VI .u8 0] 5 x8.1 x8.2.1 x8.2.2 (VS A27 n28 c29) fun A31 n32 c33 w34 =>
 Q (VT #[VS A31 n32 c33,VI .u64 (WR .u64 (x9+1)),VI .i64 0]) w34)))
def F19.b9 (Q:QT):(ST×ST×Int×ST×Int×Int×Unit)->World->((ST×ST×Int×ST×Int×Int×Unit)->WT)->Prop:=fun s w C9=>∀ _:Nat->Value,F19.b9c Q C9 s.1 s.2.1 s.2.2.1 s.2.2.2.1 s.2.2.2.2.1 s.2.2.2.2.2.1 w
def F19.l9 (Q:QT):(ST×ST×Int×ST×Int×Int×Unit)->WT:=fun s w=>∃ n,loopC (F19.b9 Q) n s w
def F19.vc (x0A:Option Addr) (x0n x0c:Nat) (x1:Int) (w:World) (Q:QT):Prop :=
 Calls Tryz.prog 32 #[VS x0A x0n x0c] w fun e2 w1 =>
 ∃ i3:Int,e2=.returned (VI .i64 i3)/\(
 vIf (i3 != 0)
 (Q (VT #[VS none 0 0,VI .u64 x1,VI .i64 i3]) w1)
 (vIf (decide ((WR .u64 (x0n:Int)) >= (WR .u64 (18446744073709551615 - x1))))
 (Q (VT #[VS none 0 0,VI .u64 x1,VI .i64 20]) w1)
 (jnC (F19.l9 Q) ((x0A,x0n,x0c),(none,0,0),x1,(x0A,x0n,x0c),((x0n:Int)),(0),()) w1)))
def F19.an:Ann:=⟨[(9,[(0,.kSl),(8,.kSl),(9,.kI .u64),(30,.kSl),(31,.kI .i64),(32,.kI .i64)])],[]⟩
theorem F19.of (x0A:Option Addr) (x0n x0c:Nat) (x1:Int) (w:World) {Q:QT} (h:F19.vc x0A x0n x0c x1 w Q):Calls Tryz.prog 19 #[VS x0A x0n x0c,VI .u64 x1] w (fun e w'=>∃ v,e=.returned v/\Q v w'):=vcFn_of (A:=F19.an) noCount mixed h (by kernel_rfl)
def F42.k8c (Q:QT) (x0:Option Addr) (w:World):Prop :=
 dr x0 fun b9 o10 =>
 ldI .i64 w b9 (o10+15) fun i11 =>
 Q (VI .i64 i11) w
def F42.k8 (Q:QT):(Option Addr×Unit)->WT:=fun s w=>∀ _:Nat->Value,F42.k8c Q s.1 w
def F42.k5c (Q:QT) (C2:(Option Addr×ST×Int×Int×Unit)->WT) (x0:Option Addr) (x7:Int) (x8:ST) (x9:Int) (x10:Int) (w:World):Prop :=
 vIf (x7 != 0)
 (dr x0 fun b6 o7 =>
 st w b6 (o7+15) [VI .i64 x7] fun w8 =>
 jnC (F42.k8 Q) (x0,()) w8)
 (jnC C2 (x0,(x8.1,x8.2.1,x8.2.2),x9,((WR .i64 (x10+1))),()) w)
def F42.k5 (Q:QT) (C2:(Option Addr×ST×Int×Int×Unit)->WT):(Option Addr×Int×ST×Int×Int×Unit)->WT:=fun s w=>∀ _:Nat->Value,F42.k5c Q C2 s.1 s.2.1 s.2.2.1 s.2.2.2.1 s.2.2.2.2.1 w
def F42.b2c (Q:QT) (C2:(Option Addr×ST×Int×Int×Unit)->WT) (x0:Option Addr) (x8:ST) (x9:Int) (x10:Int) (w:World):Prop :=
 vIf (decide (x10 < x9))
 (dr x8.1 fun b1 o2 =>
 gd (decide (0<=x10)) <|
 gd (decide (x10 < (x8.2.1:Int))) <|
 ldV w b1 (o2+(x10).toNat * 1) fun v3 =>
 vcCallU Tryz.prog v3 [] w fun v4 w5 =>
 gd (SK.ok (SK.kI .i64) v4 && true) (jnC (F42.k5 Q C2) (x0,(SK.dec (SK.kI .i64) v4),(x8.1,x8.2.1,x8.2.2),x9,x10,()) w5))
 (jnC (F42.k8 Q) (x0,()) w)
def F42.b2 (Q:QT):(Option Addr×ST×Int×Int×Unit)->World->((Option Addr×ST×Int×Int×Unit)->WT)->Prop:=fun s w C2=>∀ _:Nat->Value,F42.b2c Q C2 s.1 s.2.1 s.2.2.1 s.2.2.2.1 w
def F42.l2 (Q:QT):(Option Addr×ST×Int×Int×Unit)->WT:=fun s w=>∃ n,loopC (F42.b2 Q) n s w
def F42.vc (x0:Option Addr) (x1A:Option Addr) (x1n x1c:Nat) (w:World) (Q:QT):Prop :=
 jnC (F42.l2 Q) (x0,(x1A,x1n,x1c),((x1n:Int)),(0),()) w
def F42.an:Ann:=⟨[(2,[(0,.kP),(8,.kSl),(9,.kI .i64),(10,.kI .i64)])],[(5,[(0,.kP),(7,.kI .i64),(8,.kSl),(9,.kI .i64),(10,.kI .i64)]),(8,[(0,.kP)])]⟩
theorem F42.of (x0:Option Addr) (x1A:Option Addr) (x1n x1c:Nat) (w:World) {Q:QT} (h:F42.vc x0 x1A x1n x1c w Q):Calls Tryz.prog 42 #[VP x0,VS x1A x1n x1c] w (fun e w'=>∃ v,e=.returned v/\Q v w'):=vcFn_of (A:=F42.an) noCount mixed h (by kernel_rfl)
def F48.k4c (Q:QT) (x0:Int) (x3:NT) (w:World):Prop :=
 gd (decide (0<=x0)) <|
 gd (decide (x0 < 4)) <|
 ldS w x3.1 (x3.2+(x0).toNat * 1) fun s4 =>
 Q (VG s4) w
def F48.k4 (Q:QT):(Int×NT×Unit)->WT:=fun s w=>∀ _:Nat->Value,F48.k4c Q s.1 s.2.1 w
def F48.vc (x0:Int) (w:World) (Q:QT):Prop :=
 nw w Z131 131 fun b1 w2 =>
 gd (([VG (⟨#[]⟩:ByteArray)] ++ ([VG (⟨#[115,101,103,45]⟩:ByteArray)] ++ ([VG (⟨#[104,105,110,116,45]⟩:ByteArray)] ++ ([VG (⟨#[112,111,105,110,116,45]⟩:ByteArray)] ++ [])))).length == 4) <|
 st w2 b1 0 ([VG (⟨#[]⟩:ByteArray)] ++ ([VG (⟨#[115,101,103,45]⟩:ByteArray)] ++ ([VG (⟨#[104,105,110,116,45]⟩:ByteArray)] ++ ([VG (⟨#[112,111,105,110,116,45]⟩:ByteArray)] ++ [])))) fun w3 =>
 vIf (decide (x0<=0))
 (Q (VG (⟨#[]⟩:ByteArray)) w3)
 (vIf (decide (x0 >= 4))
 (Q (VG (⟨#[]⟩:ByteArray)) w3)
 (jnC (F48.k4 Q) (x0,(b1,0),()) w3))
def F48.an:Ann:=⟨[],[(4,[(0,.kI .i64),(3,.kL)])]⟩
theorem F48.of (x0:Int) (w:World) {Q:QT} (h:F48.vc x0 w Q):Calls Tryz.prog 48 #[VI .i64 x0] w (fun e w'=>∃ v,e=.returned v/\Q v w'):=vcFn_of (A:=F48.an) noCount mixed h (by kernel_rfl)
def F27.k4c (Q:QT) (x1:Int) (x5:ByteArray) (w:World):Prop :=
 Calls Tryz.prog 49 #[VI .i64 x1] w fun e5 w4 =>
 ∃ s6:ByteArray,e5=.returned (VG s6)/\(
 Calls Tryz.prog 50 #[VG (⟨#[48]⟩:ByteArray),VI .i64 (WR .i64 (8 - (s6.size:Int)))] w4 fun e8 w7 =>
 ∃ s9:ByteArray,e8=.returned (VG s9)/\(
 gd (decide (x5.size+s9.size<=9223372036854775807)) <|
 gd (decide ((x5 ++ s9).size+s6.size<=9223372036854775807)) <|
 Q (VG ((x5 ++ s9) ++ s6)) w7))
def F27.k4 (Q:QT):(Int×ByteArray×Unit)->WT:=fun s w=>∀ _:Nat->Value,F27.k4c Q s.1 s.2.1 w
def F27.vc (x0:Int) (x1:Int) (w:World) (Q:QT):Prop :=
 Calls Tryz.prog 48 #[VI .i64 x0] w fun e2 w1 =>
 ∃ s3:ByteArray,e2=.returned (VG s3)/\(
 vIf (s3.toList == (⟨#[]⟩:ByteArray).toList)
 (Q (VG (⟨#[]⟩:ByteArray)) w1)
 (vIf (decide (x1 < 1))
 (Q (VG (⟨#[]⟩:ByteArray)) w1)
 (vIf (decide (x1 > 99999999))
 (Q (VG (⟨#[]⟩:ByteArray)) w1)
 (jnC (F27.k4 Q) (x1,s3,()) w1))))
def F27.an:Ann:=⟨[],[(4,[(1,.kI .i64),(5,.kS)])]⟩
theorem F27.of (x0:Int) (x1:Int) (w:World) {Q:QT} (h:F27.vc x0 x1 w Q):Calls Tryz.prog 27 #[VI .i64 x0,VI .i64 x1] w (fun e w'=>∃ v,e=.returned v/\Q v w'):=vcFn_of (A:=F27.an) noCount mixed h (by kernel_rfl)
def F24.vc (x0:Option Addr) (x1A:Option Addr) (x1n x1c:Nat) (w:World) (Q:QT):Prop :=
 nw w [VP x0] 27 fun b1 w2 =>
 nw w2 [VS x1A x1n x1c] 33 fun b3 w4 =>
 ldP w4 b1 0 fun p5 =>
 dr p5 fun b6 o7 =>
 ldI .i64 w4 b6 (o7+7) fun i8 =>
 Calls Tryz.prog 27 #[VI .i64 1,VI .i64 i8] w4 fun e10 w9 =>
 ∃ s11:ByteArray,e10=.returned (VG s11)/\(
 nw w9 [VG (⟨#[]⟩:ByteArray)] 9 fun b12 w13 =>
 st w13 b12 0 [VG s11] fun w14 =>
 ldP w14 b1 0 fun p15 =>
 nw w14 ([Value.func (.func 43) #[] #[VP (some ⟨b1,0,none⟩),VP (some ⟨b12,0,none⟩),VP (some ⟨b3,0,none⟩)]] ++ ([Value.func (.func 45) #[] #[VP (some ⟨b1,0,none⟩),VP (some ⟨b12,0,none⟩)]] ++ [])) 55 fun b16 w17 =>
 Calls Tryz.prog 42 #[VP p15,VS (some ⟨b16,0,none⟩) 2 2] w17 fun e19 w18 =>
 ∃ i20:Int,e19=.returned (VI .i64 i20)/\(
 Q (VI .i64 i20) w18))
def F24.an:Ann:=⟨[],[]⟩
theorem F24.of (x0:Option Addr) (x1A:Option Addr) (x1n x1c:Nat) (w:World) {Q:QT} (h:F24.vc x0 x1A x1n x1c w Q):Calls Tryz.prog 24 #[VP x0,VS x1A x1n x1c] w (fun e w'=>∃ v,e=.returned v/\Q v w'):=vcFn_of (A:=F24.an) noCount mixed h (by kernel_rfl)
def F43.vc (x0:Nat×Nat) (x1:Nat×Nat) (x2:Nat×Nat) (w:World) (Q:QT):Prop :=
 ldP w.drew x0.1 x0.2 fun p1 =>
 dr p1 fun b2 o3 =>
 ldP w.drew b2 o3 fun p4 =>
 ldS w.drew x1.1 x1.2 fun s5 =>
 ldSl w.drew x2.1 x2.2 fun A6 n7 c8 =>
 Calls Tryz.prog 44 #[VP p4,VG s5,VS A6 n7 c8] w.drew fun e10 w9 =>
 ∃ i11:Int,e10=.returned (VI .i64 i11)/\(
 Q (VI .i64 i11) w9)
def F43.an:Ann:=⟨[],[]⟩
theorem F43.of (x0:Nat×Nat) (x1:Nat×Nat) (x2:Nat×Nat) (w:World) {Q:QT} (h:F43.vc x0 x1 x2 w Q):Calls Tryz.prog 43 #[VP (some ⟨x0.1,x0.2,none⟩),VP (some ⟨x1.1,x1.2,none⟩),VP (some ⟨x2.1,x2.2,none⟩)] w (fun e w'=>∃ v,e=.returned v/\Q v w'):=vcFn_of (A:=F43.an) noCount mixed h (by kernel_rfl)
def F45.vc (x0:Nat×Nat) (x1:Nat×Nat) (w:World) (Q:QT):Prop :=
 ldP w.drew x0.1 x0.2 fun p1 =>
 dr p1 fun b2 o3 =>
 ldP w.drew b2 o3 fun p4 =>
 ldS w.drew x1.1 x1.2 fun s5 =>
 Calls Tryz.prog 46 #[VP p4,VG s5] w.drew fun e7 w6 =>
 ∃ i8:Int,e7=.returned (VI .i64 i8)/\(
 Q (VI .i64 i8) w6)
def F45.an:Ann:=⟨[],[]⟩
theorem F45.of (x0:Nat×Nat) (x1:Nat×Nat) (w:World) {Q:QT} (h:F45.vc x0 x1 w Q):Calls Tryz.prog 45 #[VP (some ⟨x0.1,x0.2,none⟩),VP (some ⟨x1.1,x1.2,none⟩)] w (fun e w'=>∃ v,e=.returned v/\Q v w'):=vcFn_of (A:=F45.an) noCount mixed h (by kernel_rfl)
def F18.vc (x0:Option Addr) (w:World) (Q:QT):Prop :=
 vIf x0.isNone
 (Q (VI .i64 1) w)
 (dr x0 fun b1 o2 =>
 ldI .i64 w b1 (o2+15) fun i3 =>
 Q (VI .i64 i3) w)
def F18.an:Ann:=⟨[],[]⟩
theorem F18.of (x0:Option Addr) (w:World) {Q:QT} (h:F18.vc x0 w Q):Calls Tryz.prog 18 #[VP x0] w (fun e w'=>∃ v,e=.returned v/\Q v w'):=vcFn_of (A:=F18.an) noCount mixed h (by kernel_rfl)
def F11.k4c (Q:QT) (x0:Option Addr) (w:World):Prop :=
 dr x0 fun b9 o10 =>
 ldSl w.drew b9 (o10+12) fun A11 n12 c13 =>
 dr x0 fun b14 o15 =>
 ldI .u64 w.drew b14 ((o15+7)+4) fun i16 =>
 Calls Tryz.prog 19 #[VS A11 n12 c13,VI .u64 i16] w.drew fun e18 w17 =>
 ∃ (A19:Option Addr) (n20 c21:Nat),∃ i22:Int,∃ i23:Int,e18=.returned (VT #[VS A19 n20 c21,VI .u64 i22,VI .i64 i23])/\(
 vIf (i23 != 0)
 (Q (VI .i64 i23) w17)
 (Calls Tryz.prog 24 #[VP x0,VS A19 n20 c21] w17 fun e25 w24 =>
 ∃ i26:Int,e25=.returned (VI .i64 i26)/\(
 vIf (i26 != 0)
 (Q (VI .i64 i26) w24)
 (dr x0 fun b27 o28 =>
 ldI .i64 w24 b27 ((o28+7)+1) fun i29 =>
 dr x0 fun b30 o31 =>
 st w24 b30 ((o31+7)+1) [VI .i64 (WR .i64 (i29+(n20:Int)))] fun w32 =>
 dr x0 fun b33 o34 =>
 ldI .i64 w32.drew b33 ((o34+7)+2) fun i35 =>
 dr x0 fun b36 o37 =>
 ldSl w32.drew b36 (o37+12) fun A38 n39 c40 =>
 dr x0 fun b41 o42 =>
 st w32.drew b41 ((o42+7)+2) [VI .i64 (WR .i64 (i35+(n39:Int)))] fun w43 =>
 dr x0 fun b44 o45 =>
 st w43 b44 ((o45+7)+4) [VI .u64 i22] fun w46 =>
 dr x0 fun b47 o48 =>
 st w46 b47 (o48+12) [VS none 0 0] fun w49 =>
 dr x0 fun b50 o51 =>
 st w49 b50 (o51+13) [VS none 0 0] fun w52 =>
 dr x0 fun b53 o54 =>
 st w52 b53 (o54+14) [VI .i64 0] fun w55 =>
 Q (VI .i64 0) w55))))
def F11.k4 (Q:QT):(Option Addr×Unit)->WT:=fun s w=>∀ _:Nat->Value,F11.k4c Q s.1 w
def F11.vc (x0:Option Addr) (w:World) (Q:QT):Prop :=
 Calls Tryz.prog 18 #[VP x0] w fun e2 w1 =>
 ∃ i3:Int,e2=.returned (VI .i64 i3)/\(
 vIf (i3 != 0)
 (Q (VI .i64 i3) w1)
 (dr x0 fun b4 o5 =>
 ldSl w1 b4 (o5+12) fun A6 n7 c8 =>
 vIf ((n7:Int) == 0)
 (Q (VI .i64 i3) w1)
 (jnC (F11.k4 Q) (x0,()) w1)))
def F11.an:Ann:=⟨[],[(4,[(0,.kP)])]⟩
theorem F11.of (x0:Option Addr) (w:World) {Q:QT} (h:F11.vc x0 w Q):Calls Tryz.prog 11 #[VP x0] w (fun e w'=>∃ v,e=.returned v/\Q v w'):=vcFn_of (A:=F11.an) noCount mixed h (by kernel_rfl)
def F12.k6c (Q:QT) (x0:Option Addr) (w:World):Prop :=
 dr x0 fun b10 o11 =>
 ldI .i64 w.drew b10 ((o11+7)+2) fun i12 =>
 dr x0 fun b13 o14 =>
 ldI .i64 w.drew b13 ((o14+7)+1) fun i15 =>
 dr x0 fun b16 o17 =>
 ldI .u64 w.drew b16 ((o17+7)+4) fun i18 =>
 Calls Tryz.prog 25 #[VI .i64 i12,VI .i64 i15,VI .u64 i18] w.drew fun e20 w19 =>
 ∃ (A21:Option Addr) (n22 c23:Nat),e20=.returned (VS A21 n22 c23)/\(
 Calls Tryz.prog 24 #[VP x0,VS A21 n22 c23] w19 fun e25 w24 =>
 ∃ i26:Int,e25=.returned (VI .i64 i26)/\(
 vIf (i26 != 0)
 (Q (VI .i64 i26) w24)
 (dr x0 fun b27 o28 =>
 ldI .i64 w24 b27 ((o28+7)+1) fun i29 =>
 dr x0 fun b30 o31 =>
 st w24 b30 ((o31+7)+1) [VI .i64 (WR .i64 (i29+(n22:Int)))] fun w32 =>
 dr x0 fun b33 o34 =>
 ldI .u64 w32 b33 ((o34+7)+4) fun i35 =>
 dr x0 fun b36 o37 =>
 st w32 b36 ((o37+7)+4) [VI .u64 (WR .u64 (i35+1))] fun w38 =>
 dr x0 fun b39 o40 =>
 st w38 b39 ((o40+7)+3) [VB true] fun w41 =>
 Q (VI .i64 0) w41)))
def F12.k6 (Q:QT):(Option Addr×Unit)->WT:=fun s w=>∀ _:Nat->Value,F12.k6c Q s.1 w
def F12.vc (x0:Option Addr) (w:World) (Q:QT):Prop :=
 Calls Tryz.prog 11 #[VP x0] w fun e2 w1 =>
 ∃ i3:Int,e2=.returned (VI .i64 i3)/\(
 vIf (i3 != 0)
 (Q (VI .i64 i3) w1)
 (dr x0 fun b4 o5 =>
 ldI .i64 w1 b4 (o5+7) fun i6 =>
 vIf (i6 == 0)
 (Q (VI .i64 0) w1)
 (dr x0 fun b7 o8 =>
 ldB w1 b7 ((o8+7)+3) fun t9 =>
 vIf t9
 (Q (VI .i64 0) w1)
 (jnC (F12.k6 Q) (x0,()) w1))))
def F12.an:Ann:=⟨[],[(6,[(0,.kP)])]⟩
theorem F12.of (x0:Option Addr) (w:World) {Q:QT} (h:F12.vc x0 w Q):Calls Tryz.prog 12 #[VP x0] w (fun e w'=>∃ v,e=.returned v/\Q v w'):=vcFn_of (A:=F12.an) noCount mixed h (by kernel_rfl)
def F39.vc (x0:Option Addr) (w:World) (Q:QT):Prop :=
 nw w [VP x0] 27 fun b1 w2 =>
 ldP w2 b1 0 fun p3 =>
 Calls Tryz.prog 12 #[VP p3] w2 fun e5 w4 =>
 ∃ i6:Int,e5=.returned (VI .i64 i6)/\(
 vIf (i6 != 0)
 (Q (VI .i64 i6) w4)
 (ldP w4 b1 0 fun p7 =>
 dr p7 fun b8 o9 =>
 ldI .i64 w4 b8 (o9+7) fun i10 =>
 Calls Tryz.prog 27 #[VI .i64 1,VI .i64 (WR .i64 (i10+1))] w4 fun e12 w11 =>
 ∃ s13:ByteArray,e12=.returned (VG s13)/\(
 nw w11 [VG (⟨#[]⟩:ByteArray)] 9 fun b14 w15 =>
 st w15 b14 0 [VG s13] fun w16 =>
 ldP w16 b1 0 fun p17 =>
 dr p17 fun b18 o19 =>
 ldI .u64 w16 b18 ((o19+7)+4) fun i20 =>
 Calls Tryz.prog 61 #[VI .i64 (WR .i64 (i10+1)),VI .u64 i20] w16 fun e22 w21 =>
 ∃ (A23:Option Addr) (n24 c25:Nat),e22=.returned (VS A23 n24 c25)/\(
 nw w21 [VS none 0 0] 33 fun b26 w27 =>
 st w27 b26 0 [VS A23 n24 c25] fun w28 =>
 ldP w28.drew b1 0 fun p29 =>
 ldP w28.drew b1 0 fun p30 =>
 dr p30 fun b31 o32 =>
 ldP w28.drew b31 o32 fun p33 =>
 nw w28.drew ([Value.func (.func 62) #[] #[VP (some ⟨b1,0,none⟩),VP (some ⟨b14,0,none⟩)]] ++ ([Value.func (.func 64) #[] #[VP (some ⟨b1,0,none⟩),VP (some ⟨b14,0,none⟩),VP (some ⟨b26,0,none⟩)]] ++ ([Value.func (.func 65) #[] #[VP (some ⟨b1,0,none⟩),VP (some ⟨b14,0,none⟩)]] ++ ([Value.func (.func 66) #[VP p33] #[]] ++ [])))) 55 fun b34 w35 =>
 kp w28.drew b1 0 1 w35 <|
 Calls Tryz.prog 42 #[VP p29,VS (some ⟨b34,0,none⟩) 4 4] w35 fun e37 w36 =>
 ∃ i38:Int,e37=.returned (VI .i64 i38)/\(
 vIf (i38 == 0)
 (ldP w36.drew b1 0 fun p39 =>
 ldSl w36.drew b26 0 fun A40 n41 c42 =>
 ldP w36.drew b1 0 fun p43 =>
 dr p43 fun b44 o45 =>
 ldI .u64 w36.drew b44 ((o45+7)+4) fun i46 =>
 dr p39 fun b47 o48 =>
 gd (([VI .i64 (WR .i64 (i10+1))] ++ ([VI .i64 (n41:Int)] ++ ([VI .i64 0] ++ ([VB false] ++ ([VI .u64 (WR .u64 (i46+1))] ++ []))))).length == 5) <|
 st w36.drew b47 (o48+7) ([VI .i64 (WR .i64 (i10+1))] ++ ([VI .i64 (n41:Int)] ++ ([VI .i64 0] ++ ([VB false] ++ ([VI .u64 (WR .u64 (i46+1))] ++ []))))) fun w49 =>
 Q (VI .i64 i38) w49)
 (Q (VI .i64 i38) w36))))))
def F39.an:Ann:=⟨[],[]⟩
theorem F39.of (x0:Option Addr) (w:World) {Q:QT} (h:F39.vc x0 w Q):Calls Tryz.prog 39 #[VP x0] w (fun e w'=>∃ v,e=.returned v/\Q v w'):=vcFn_of (A:=F39.an) noCount mixed h (by kernel_rfl)
def F62.vc (x0:Nat×Nat) (x1:Nat×Nat) (w:World) (Q:QT):Prop :=
 ldP w.drew x0.1 x0.2 fun p1 =>
 dr p1 fun b2 o3 =>
 ldP w.drew b2 o3 fun p4 =>
 ldS w.drew x1.1 x1.2 fun s5 =>
 Calls Tryz.prog 63 #[VP p4,VG s5] w.drew fun e7 w6 =>
 ∃ i8:Int,e7=.returned (VI .i64 i8)/\(
 Q (VI .i64 i8) w6)
def F62.an:Ann:=⟨[],[]⟩
theorem F62.of (x0:Nat×Nat) (x1:Nat×Nat) (w:World) {Q:QT} (h:F62.vc x0 x1 w Q):Calls Tryz.prog 62 #[VP (some ⟨x0.1,x0.2,none⟩),VP (some ⟨x1.1,x1.2,none⟩)] w (fun e w'=>∃ v,e=.returned v/\Q v w'):=vcFn_of (A:=F62.an) noCount mixed h (by kernel_rfl)
def F64.vc (x0:Nat×Nat) (x1:Nat×Nat) (x2:Nat×Nat) (w:World) (Q:QT):Prop :=
 ldP w.drew x0.1 x0.2 fun p1 =>
 dr p1 fun b2 o3 =>
 ldP w.drew b2 o3 fun p4 =>
 ldS w.drew x1.1 x1.2 fun s5 =>
 ldSl w.drew x2.1 x2.2 fun A6 n7 c8 =>
 Calls Tryz.prog 44 #[VP p4,VG s5,VS A6 n7 c8] w.drew fun e10 w9 =>
 ∃ i11:Int,e10=.returned (VI .i64 i11)/\(
 Q (VI .i64 i11) w9)
def F64.an:Ann:=⟨[],[]⟩
theorem F64.of (x0:Nat×Nat) (x1:Nat×Nat) (x2:Nat×Nat) (w:World) {Q:QT} (h:F64.vc x0 x1 x2 w Q):Calls Tryz.prog 64 #[VP (some ⟨x0.1,x0.2,none⟩),VP (some ⟨x1.1,x1.2,none⟩),VP (some ⟨x2.1,x2.2,none⟩)] w (fun e w'=>∃ v,e=.returned v/\Q v w'):=vcFn_of (A:=F64.an) noCount mixed h (by kernel_rfl)
def F65.vc (x0:Nat×Nat) (x1:Nat×Nat) (w:World) (Q:QT):Prop :=
 ldP w.drew x0.1 x0.2 fun p1 =>
 dr p1 fun b2 o3 =>
 ldP w.drew b2 o3 fun p4 =>
 ldS w.drew x1.1 x1.2 fun s5 =>
 Calls Tryz.prog 46 #[VP p4,VG s5] w.drew fun e7 w6 =>
 ∃ i8:Int,e7=.returned (VI .i64 i8)/\(
 Q (VI .i64 i8) w6)
def F65.an:Ann:=⟨[],[]⟩
theorem F65.of (x0:Nat×Nat) (x1:Nat×Nat) (w:World) {Q:QT} (h:F65.vc x0 x1 w Q):Calls Tryz.prog 65 #[VP (some ⟨x0.1,x0.2,none⟩),VP (some ⟨x1.1,x1.2,none⟩)] w (fun e w'=>∃ v,e=.returned v/\Q v w'):=vcFn_of (A:=F65.an) noCount mixed h (by kernel_rfl)
def F40.vc (x0:List Value) (x1:Int) (w:World) (Q:QT):Prop :=
 nw w x0 71 fun b1 w2 =>
 nw w2 Z71 71 fun b3 w4 =>
 ldSl w4 b1 (0+35) fun A5 n6 c7 =>
 Calls Tryz.prog 28 #[VS A5 n6 c7] w4 fun e9 w8 =>
 ∃ (A10:Option Addr) (n11 c12:Nat),e9=.returned (VS A10 n11 c12)/\(
 st w8 b1 (0+35) [VS A10 n11 c12] fun w13 =>
 st w13 b1 (0+1) [VI .u64 x1] fun w14 =>
 ldA 38 w14 b1 0 fun a15 =>
 gd (a15.length == 38) <|
 st w14 b3 0 a15 fun w16 =>
 ldA 38 w16 b3 0 fun a17 =>
 Q (ofL a17) w16)
def F40.an:Ann:=⟨[],[]⟩
theorem F40.of (x0:List Value) (x1:Int) (w:World) {Q:QT} (h:F40.vc x0 x1 w Q):Calls Tryz.prog 40 #[ofL x0,VI .u64 x1] w (fun e w'=>∃ v,e=.returned v/\Q v w'):=vcFn_of (A:=F40.an) noCount mixed h (by kernel_rfl)
def F23.b3c (Q:QT) (C3:(Option Addr×ST×ST×Int×Int×Unit)->WT) (x0:Option Addr) (x5:ST) (x10:ST) (x11:Int) (x12:Int) (w:World):Prop :=
 vIf (decide (x12 < x11))
 (dr x10.1 fun b1 o2 =>
 gd (decide (0<=x12)) <|
 gd (decide (x12 < (x10.2.1:Int))) <|
 ldA 38 w b1 (o2+(x12).toNat * 38) fun a3 =>
 nw w Z71 71 fun b4 w5 =>
 gd (a3.length == 38) <|
 st w5 b4 0 a3 fun w6 =>
 ldA 38 w6.drew b4 0 fun a7 =>
 dr x0 fun b8 o9 =>
 ldI .u64 w6.drew b8 ((o9+7)+4) fun i10 =>
 dr x0 fun b11 o12 =>
 ldSl w6.drew b11 (o12+12) fun A13 n14 c15 =>
 Calls Tryz.prog 40 #[ofL a7,VI .u64 (WR .u64 (i10+(WR .u64 (n14:Int))))] w6.drew fun e17 w16 =>
 ∃ a18:List Value,e17=.returned (ofL a18)/\(
 gd (a18.length == 38) <|
 st w16 b4 0 a18 fun w19 =>
 ldA 38 w19 b4 0 fun a20 =>
 Calls Tryz.prog 33 #[ofL a20] w19 fun e22 w21 =>
 ∃ (A23:Option Addr) (n24 c25:Nat),∃ i26:Int,e22=.returned (VT #[VS A23 n24 c25,VI .i64 i26])/\(
 ldA 38 w21.drew b4 0 fun a27 =>
 dr x0 fun b28 o29 =>
 ldI .i64 w21.drew b28 (o29+7) fun i30 =>
 dr x0 fun b31 o32 =>
 ldI .i64 w21.drew b31 ((o32+7)+1) fun i33 =>
 dr x0 fun b34 o35 =>
 ldSl w21.drew b34 (o35+13) fun A36 n37 c38 =>
 Calls Tryz.prog 41 #[ofL a27,ofL ([VI .i64 i30] ++ ([VI .i64 (WR .i64 (i33+(n37:Int)))] ++ ([VI .i64 (n24:Int)] ++ [])))] w21.drew fun e40 w39 =>
 ∃ a41:List Value,e40=.returned (ofL a41)/\(
 gd (a41.length == 39) <|
 nw w39 (a41 ++ []) 73 fun b42 w43 =>
 app w43 39 96 Z73 73 x5.1 x5.2.1 x5.2.2 (VS (some ⟨b42,0,none⟩) 1 1) fun A44 n45 c46 w47 =>
 dr x0 fun b48 o49 =>
 ldSl w47 b48 (o49+13) fun A50 n51 c52 =>
 app w47 1 1 [VI .u8 0] 5 A50 n51 c52 (VS A23 n24 c25) fun A53 n54 c55 w56 =>
 dr x0 fun b57 o58 =>
 st w56 b57 (o58+13) [VS A53 n54 c55] fun w59 =>
 dr x0 fun b60 o61 =>
 ldSl w59.drew b60 (o61+12) fun A62 n63 c64 =>
 ldA 38 w59.drew b4 0 fun a65 =>
 gd (a65.length == 38) <|
 nw w59.drew (a65 ++ []) 71 fun b66 w67 =>
 kp w59.drew b60 (o61+12) 1 w67 <|
 app w67 38 104 Z71 71 A62 n63 c64 (VS (some ⟨b66,0,none⟩) 1 1) fun A68 n69 c70 w71 =>
 dr x0 fun b72 o73 =>
 st w71 b72 (o73+12) [VS A68 n69 c70] fun w74 =>
 jnC C3 (x0,(A44,n45,c46),(x10.1,x10.2.1,x10.2.2),x11,((WR .i64 (x12+1))),()) w74))))
 (Q (VS x5.1 x5.2.1 x5.2.2) w)
def F23.b3 (Q:QT):(Option Addr×ST×ST×Int×Int×Unit)->World->((Option Addr×ST×ST×Int×Int×Unit)->WT)->Prop:=fun s w C3=>∀ _:Nat->Value,F23.b3c Q C3 s.1 s.2.1 s.2.2.1 s.2.2.2.1 s.2.2.2.2.1 w
def F23.l3 (Q:QT):(Option Addr×ST×ST×Int×Int×Unit)->WT:=fun s w=>∃ n,loopC (F23.b3 Q) n s w
def F23.vc (x0:Option Addr) (x1A:Option Addr) (x1n x1c:Nat) (w:World) (Q:QT):Prop :=
 jnC (F23.l3 Q) (x0,(none,0,0),(x1A,x1n,x1c),((x1n:Int)),(0),()) w
def F23.an:Ann:=⟨[(3,[(0,.kP),(5,.kSl),(10,.kSl),(11,.kI .i64),(12,.kI .i64)])],[]⟩
theorem F23.of (x0:Option Addr) (x1A:Option Addr) (x1n x1c:Nat) (w:World) {Q:QT} (h:F23.vc x0 x1A x1n x1c w Q):Calls Tryz.prog 23 #[VP x0,VS x1A x1n x1c] w (fun e w'=>∃ v,e=.returned v/\Q v w'):=vcFn_of (A:=F23.an) noCount mixed h (by kernel_rfl)
def F38.b3c (Q:QT) (C3:(Int×ST×Int×Int×Unit)->WT) (x3:Int) (x6:ST) (x7:Int) (x8:Int) (w:World):Prop :=
 vIf (decide (x8 < x7))
 (dr x6.1 fun b1 o2 =>
 gd (decide (0<=x8)) <|
 gd (decide (x8 < (x6.2.1:Int))) <|
 ldI .i64 w b1 (o2+(x8).toNat * 1) fun i3 =>
 Calls Tryz.prog 20 #[ofL ([VI .i64 i3] ++ ([VI .u64 0] ++ ([VI .u8 0,VI .u8 0,VI .u8 0,VI .u8 0,VI .u8 0,VI .u8 0,VI .u8 0,VI .u8 0,VI .u8 0,VI .u8 0,VI .u8 0,VI .u8 0,VI .u8 0,VI .u8 0,VI .u8 0,VI .u8 0,VI .u8 0,VI .u8 0,VI .u8 0,VI .u8 0,VI .u8 0,VI .u8 0,VI .u8 0,VI .u8 0,VI .u8 0,VI .u8 0,VI .u8 0,VI .u8 0,VI .u8 0,VI .u8 0,VI .u8 0,VI .u8 0] ++ ([VG (⟨#[]⟩:ByteArray)] ++ ([VS none 0 0] ++ ([VI .i64 1] ++ ([VI .i64 0] ++ [])))))))] w fun e5 w4 =>
 ∃ i6:Int,e5=.returned (VI .i64 i6)/\(
 jnC C3 (((WR .i64 (x3+i6))),(x6.1,x6.2.1,x6.2.2),x7,((WR .i64 (x8+1))),()) w4))
 (Q (VI .i64 x3) w)
def F38.b3 (Q:QT):(Int×ST×Int×Int×Unit)->World->((Int×ST×Int×Int×Unit)->WT)->Prop:=fun s w C3=>∀ _:Nat->Value,F38.b3c Q C3 s.1 s.2.1 s.2.2.1 s.2.2.2.1 w
def F38.l3 (Q:QT):(Int×ST×Int×Int×Unit)->WT:=fun s w=>∃ n,loopC (F38.b3 Q) n s w
def F38.vc (x0A:Option Addr) (x0n x0c:Nat) (w:World) (Q:QT):Prop :=
 jnC (F38.l3 Q) ((0),(x0A,x0n,x0c),((x0n:Int)),(0),()) w
def F38.an:Ann:=⟨[(3,[(3,.kI .i64),(6,.kSl),(7,.kI .i64),(8,.kI .i64)])],[]⟩
theorem F38.of (x0A:Option Addr) (x0n x0c:Nat) (w:World) {Q:QT} (h:F38.vc x0A x0n x0c w Q):Calls Tryz.prog 38 #[VS x0A x0n x0c] w (fun e w'=>∃ v,e=.returned v/\Q v w'):=vcFn_of (A:=F38.an) noCount mixed h (by kernel_rfl)
def F21.vc (x0:List Value) (w:World) (Q:QT):Prop :=
 nw w x0 61 fun b1 w2 =>
 ldI .i64 w2.drew b1 0 fun i3 =>
 nw w2.drew ([VI .i64 7] ++ ([VI .i64 6] ++ ([VI .i64 8] ++ []))) 3 fun b4 w5 =>
 kp w2.drew b1 0 1 w5 <|
 Calls Tryz.prog 38 #[VS (some ⟨b4,0,none⟩) 3 3] w5 fun e7 w6 =>
 ∃ i8:Int,e7=.returned (VI .i64 i8)/\(
 kp w2.drew b1 0 1 w6 <|
 Q (VI .i64 (WR .i64 (i3 - i8))) w6)
def F21.an:Ann:=⟨[],[]⟩
theorem F21.of (x0:List Value) (w:World) {Q:QT} (h:F21.vc x0 w Q):Calls Tryz.prog 21 #[ofL x0] w (fun e w'=>∃ v,e=.returned v/\Q v w'):=vcFn_of (A:=F21.an) noCount mixed h (by kernel_rfl)
def F22.k5c (Q:QT) (x0:Option Addr) (x52:Bool) (w:World):Prop :=
 vIf x52
 (Calls Tryz.prog 11 #[VP x0] w fun e27 w26 =>
 ∃ i28:Int,e27=.returned (VI .i64 i28)/\(
 Q (VI .i64 i28) w26))
 (Q (VI .i64 0) w)
def F22.k5 (Q:QT):(Option Addr×Bool×Unit)->WT:=fun s w=>∀ _:Nat->Value,F22.k5c Q s.1 s.2.1 w
def F22.k3c (Q:QT) (x0:Option Addr) (x1:Int) (x13:Bool) (w:World):Prop :=
 vIf x13
 (Calls Tryz.prog 39 #[VP x0] w fun e11 w10 =>
 ∃ i12:Int,e11=.returned (VI .i64 i12)/\(
 Q (VI .i64 i12) w10))
 (dr x0 fun b13 o14 =>
 ldSl w.drew b13 (o14+12) fun A15 n16 c17 =>
 vIf (decide ((n16:Int) > 0))
 (dr x0 fun b18 o19 =>
 ldSl w.drew b18 (o19+12) fun A20 n21 c22 =>
 dr x0 fun b23 o24 =>
 ldI .i64 w.drew b23 ((o24+1)+1) fun i25 =>
 jnC (F22.k5 Q) (x0,(decide ((WR .i64 ((n21:Int)+x1)) > i25)),()) w.drew)
 (jnC (F22.k5 Q) (x0,false,()) w.drew))
def F22.k3 (Q:QT):(Option Addr×Int×Bool×Unit)->WT:=fun s w=>∀ _:Nat->Value,F22.k3c Q s.1 s.2.1 s.2.2.1 w
def F22.vc (x0:Option Addr) (x1:Int) (x2:Int) (w:World) (Q:QT):Prop :=
 Calls Tryz.prog 20 #[ofL ([VI .i64 6] ++ ([VI .u64 0] ++ ([VI .u8 0,VI .u8 0,VI .u8 0,VI .u8 0,VI .u8 0,VI .u8 0,VI .u8 0,VI .u8 0,VI .u8 0,VI .u8 0,VI .u8 0,VI .u8 0,VI .u8 0,VI .u8 0,VI .u8 0,VI .u8 0,VI .u8 0,VI .u8 0,VI .u8 0,VI .u8 0,VI .u8 0,VI .u8 0,VI .u8 0,VI .u8 0,VI .u8 0,VI .u8 0,VI .u8 0,VI .u8 0,VI .u8 0,VI .u8 0,VI .u8 0,VI .u8 0] ++ ([VG (⟨#[]⟩:ByteArray)] ++ ([VS none 0 0] ++ ([VI .i64 0] ++ ([VI .i64 0] ++ [])))))))] w fun e2 w1 =>
 ∃ i3:Int,e2=.returned (VI .i64 i3)/\(
 Calls Tryz.prog 20 #[ofL ([VI .i64 8] ++ ([VI .u64 0] ++ ([VI .u8 0,VI .u8 0,VI .u8 0,VI .u8 0,VI .u8 0,VI .u8 0,VI .u8 0,VI .u8 0,VI .u8 0,VI .u8 0,VI .u8 0,VI .u8 0,VI .u8 0,VI .u8 0,VI .u8 0,VI .u8 0,VI .u8 0,VI .u8 0,VI .u8 0,VI .u8 0,VI .u8 0,VI .u8 0,VI .u8 0,VI .u8 0,VI .u8 0,VI .u8 0,VI .u8 0,VI .u8 0,VI .u8 0,VI .u8 0,VI .u8 0,VI .u8 0] ++ ([VG (⟨#[]⟩:ByteArray)] ++ ([VS none 0 0] ++ ([VI .i64 0] ++ ([VI .i64 0] ++ [])))))))] w1 fun e5 w4 =>
 ∃ i6:Int,e5=.returned (VI .i64 i6)/\(
 dr x0 fun b7 o8 =>
 ldI .i64 w4.drew b7 (o8+7) fun i9 =>
 vIf (i9 == 0)
 (jnC (F22.k3 Q) (x0,x1,true,()) w4.drew)
 (dr x0 fun b29 o30 =>
 ldB w4.drew b29 ((o30+7)+3) fun t31 =>
 vIf t31
 (jnC (F22.k3 Q) (x0,x1,true,()) w4.drew)
 (dr x0 fun b32 o33 =>
 ldI .i64 w4.drew b32 ((o33+7)+1) fun i34 =>
 dr x0 fun b35 o36 =>
 ldSl w4.drew b35 (o36+13) fun A37 n38 c39 =>
 dr x0 fun b40 o41 =>
 ldI .i64 w4.drew b40 (o41+1) fun i42 =>
 jnC (F22.k3 Q) (x0,x1,(decide ((WR .i64 ((WR .i64 ((WR .i64 (i34+(n38:Int)))+x2))+(WR .i64 (i3+i6)))) > i42)),()) w4.drew))))
def F22.an:Ann:=⟨[],[(3,[(0,.kP),(1,.kI .i64),(13,.kB)]),(5,[(0,.kP),(52,.kB)])]⟩
theorem F22.of (x0:Option Addr) (x1:Int) (x2:Int) (w:World) {Q:QT} (h:F22.vc x0 x1 x2 w Q):Calls Tryz.prog 22 #[VP x0,VI .i64 x1,VI .i64 x2] w (fun e w'=>∃ v,e=.returned v/\Q v w'):=vcFn_of (A:=F22.an) noCount mixed h (by kernel_rfl)
def F10.k24c (Q:QT) (x16:ST) (w:World):Prop :=
 Q (VT #[VS x16.1 x16.2.1 x16.2.2,VI .i64 0]) w
def F10.k24 (Q:QT):(ST×Unit)->WT:=fun s w=>∀ _:Nat->Value,F10.k24c Q s.1 w
def F10.b9c (Q:QT) (C9:(Option Addr×ST×Int×Int×ST×Int×Int×Unit)->WT) (x0:Option Addr) (x1:ST) (x2:Int) (x12:Int) (x32:ST) (x33:Int) (x34:Int) (w:World):Prop :=
 vIf (decide (x34 < x33))
 (dr x32.1 fun b11 o12 =>
 gd (decide (0<=x34)) <|
 gd (decide (x34 < (x32.2.1:Int))) <|
 ldA 38 w b11 (o12+(x34).toNat * 38) fun a13 =>
 nw w Z71 71 fun b14 w15 =>
 gd (a13.length == 38) <|
 st w15 b14 0 a13 fun w16 =>
 ldA 38 w16 b14 0 fun a17 =>
 Calls Tryz.prog 20 #[ofL a17] w16 fun e19 w18 =>
 ∃ i20:Int,e19=.returned (VI .i64 i20)/\(
 jnC C9 (x0,(x1.1,x1.2.1,x1.2.2),x2,((WR .i64 (x12+i20))),(x32.1,x32.2.1,x32.2.2),x33,((WR .i64 (x34+1))),()) w18))
 (dr x0 fun b21 o22 =>
 ldA 6 w b21 (o22+1) fun a23 =>
 Calls Tryz.prog 21 #[ofL a23] w fun e25 w24 =>
 ∃ i26:Int,e25=.returned (VI .i64 i26)/\(
 vIf (decide (x12 > i26))
 (Q (VT #[VS none 0 0,VI .i64 18]) w24)
 (Calls Tryz.prog 22 #[VP x0,VI .i64 (x1.2.1:Int),VI .i64 x12] w24 fun e28 w27 =>
 ∃ i29:Int,e28=.returned (VI .i64 i29)/\(
 vIf (i29 != 0)
 (Q (VT #[VS none 0 0,VI .i64 i29]) w27)
 (Calls Tryz.prog 23 #[VP x0,VS x1.1 x1.2.1 x1.2.2] w27 fun e31 w30 =>
 ∃ (A32:Option Addr) (n33 c34:Nat),e31=.returned (VS A32 n33 c34)/\(
 dr x0 fun b35 o36 =>
 ldI .i64 w30 b35 (o36+14) fun i37 =>
 dr x0 fun b38 o39 =>
 st w30 b38 (o39+14) [VI .i64 (WR .i64 (i37+x2))] fun w40 =>
 dr x0 fun b41 o42 =>
 ldSl w40.drew b41 (o42+12) fun A43 n44 c45 =>
 dr x0 fun b46 o47 =>
 ldI .i64 w40.drew b46 ((o47+1)+1) fun i48 =>
 vIf (decide ((n44:Int) >= i48))
 (Calls Tryz.prog 11 #[VP x0] w40.drew fun e50 w49 =>
 ∃ i51:Int,e50=.returned (VI .i64 i51)/\(
 vIf (i51 != 0)
 (Q (VT #[VS none 0 0,VI .i64 i51]) w49)
 (jnC (F10.k24 Q) ((A32,n33,c34),()) w49)))
 (jnC (F10.k24 Q) ((A32,n33,c34),()) w40.drew)))))))
def F10.b9 (Q:QT):(Option Addr×ST×Int×Int×ST×Int×Int×Unit)->World->((Option Addr×ST×Int×Int×ST×Int×Int×Unit)->WT)->Prop:=fun s w C9=>∀ _:Nat->Value,F10.b9c Q C9 s.1 s.2.1 s.2.2.1 s.2.2.2.1 s.2.2.2.2.1 s.2.2.2.2.2.1 s.2.2.2.2.2.2.1 w
def F10.l9 (Q:QT):(Option Addr×ST×Int×Int×ST×Int×Int×Unit)->WT:=fun s w=>∃ n,loopC (F10.b9 Q) n s w
def F10.vc (x0:Option Addr) (x1A:Option Addr) (x1n x1c:Nat) (x2:Int) (w:World) (Q:QT):Prop :=
 Calls Tryz.prog 18 #[VP x0] w fun e2 w1 =>
 ∃ i3:Int,e2=.returned (VI .i64 i3)/\(
 vIf (i3 != 0)
 (Q (VT #[VS none 0 0,VI .i64 i3]) w1)
 (Calls Tryz.prog 19 #[VS x1A x1n x1c,VI .u64 0] w1 fun e5 w4 =>
 ∃ (A6:Option Addr) (n7 c8:Nat),∃ i9:Int,∃ i10:Int,e5=.returned (VT #[VS A6 n7 c8,VI .u64 i9,VI .i64 i10])/\(
 vIf (i10 != 0)
 (Q (VT #[VS none 0 0,VI .i64 i10]) w4)
 (jnC (F10.l9 Q) (x0,(x1A,x1n,x1c),x2,(0),(x1A,x1n,x1c),((x1n:Int)),(0),()) w4))))
def F10.an:Ann:=⟨[(9,[(0,.kP),(1,.kSl),(2,.kI .i64),(12,.kI .i64),(32,.kSl),(33,.kI .i64),(34,.kI .i64)])],[(24,[(16,.kSl)])]⟩
theorem F10.of (x0:Option Addr) (x1A:Option Addr) (x1n x1c:Nat) (x2:Int) (w:World) {Q:QT} (h:F10.vc x0 x1A x1n x1c x2 w Q):Calls Tryz.prog 10 #[VP x0,VS x1A x1n x1c,VI .i64 x2] w (fun e w'=>∃ v,e=.returned v/\Q v w'):=vcFn_of (A:=F10.an) noCount mixed h (by kernel_rfl)
def F3.vc (x0:List Value) (w:World) (Q:QT):Prop :=
 nw w x0 26 fun b1 w2 =>
 Calls Tryz.prog 4 #[ofL ([VI .i64 0] ++ ([VI .i64 0] ++ []))] w2 fun e4 w3 =>
 ∃ p5:Option Addr,e4=.returned (VP p5)/\(
 ldA 7 w3 b1 0 fun a6 =>
 Calls Tryz.prog 5 #[VP p5,VP none,ofL a6] w3 fun e8 w7 =>
 ∃ (A9:Option Addr) (n10 c11:Nat),∃ (A12:Option Addr) (n13 c14:Nat),∃ i15:Int,e8=.returned (VT #[VS A9 n10 c11,VS A12 n13 c14,VI .i64 i15])/\(
 Calls Tryz.prog 6 #[VP none] w7 fun e17 w16 =>
 ∃ i18:Int,∃ i19:Int,∃ i20:Int,e17=.returned (VT #[VI .i64 i18,VI .i64 i19,VI .i64 i20])/\(
 vIf ((n10:Int) == 0)
 (vIf ((n13:Int) == 0)
 (ldI .i64 w16 b1 0 fun i21 =>
 vIf ((i15 == 1) == (i21 != 3))
 (vIf ((WR .i64 ((WR .i64 (i18+i19))+i20)) == 0)
 (Calls Tryz.prog 7 #[VP none] w16 fun e23 w22 =>
 ∃ a24:List Value,e23=.returned (ofL a24)/\(
 eqPl PK40 a24 ([VI .i64 0] ++ ([VI .i64 0] ++ ([VI .i64 0] ++ ([VB false] ++ ([VI .u64 0] ++ []))))) fun t25 =>
 vIf t25
 (Calls Tryz.prog 8 #[VP none,VI .i64 0,VI .i64 0] w22 fun e27 w26 =>
 ∃ t28:Bool,e27=.returned (VB t28)/\(
 vIf (!t28)
 (Calls Tryz.prog 9 #[] w26 fun e30 w29 =>
 ∃ t31:Bool,e30=.returned (VB t31)/\(
 Q (VB t31) w29))
 (Q (VB false) w26)))
 (Q (VB false) w22)))
 (Q (VB false) w16))
 (Q (VB false) w16))
 (Q (VB false) w16))
 (Q (VB false) w16))))
def F3.an:Ann:=⟨[],[]⟩
theorem F3.of (x0:List Value) (w:World) {Q:QT} (h:F3.vc x0 w Q):Calls Tryz.prog 3 #[ofL x0] w (fun e w'=>∃ v,e=.returned v/\Q v w'):=vcFn_of (A:=F3.an) noCount mixed h (by kernel_rfl)
def F5.vc (x0:Option Addr) (x1:Option Addr) (x2:List Value) (w:World) (Q:QT):Prop :=
 nw w x2 26 fun b1 w2 =>
 ldI .i64 w2 b1 0 fun i3 =>
 vIf (i3 == 0)
 (ldSl w2 b1 (0+1) fun A4 n5 c6 =>
 ldI .i64 w2 b1 (0+2) fun i7 =>
 Calls Tryz.prog 10 #[VP x1,VS A4 n5 c6,VI .i64 i7] w2 fun e9 w8 =>
 ∃ (A10:Option Addr) (n11 c12:Nat),∃ i13:Int,e9=.returned (VT #[VS A10 n11 c12,VI .i64 i13])/\(
 Q (VT #[VS A10 n11 c12,VS none 0 0,VI .i64 i13]) w8))
 (vIf (i3 == 1)
 (Calls Tryz.prog 11 #[VP x1] w2 fun e15 w14 =>
 ∃ i16:Int,e15=.returned (VI .i64 i16)/\(
 Q (VT #[VS none 0 0,VS none 0 0,VI .i64 i16]) w14))
 (vIf (i3 == 2)
 (Calls Tryz.prog 12 #[VP x1] w2 fun e18 w17 =>
 ∃ i19:Int,e18=.returned (VI .i64 i19)/\(
 Q (VT #[VS none 0 0,VS none 0 0,VI .i64 i19]) w17))
 (vIf (i3 == 3)
 (ldI .i64 w2 b1 (0+3) fun i20 =>
 Calls Tryz.prog 13 #[VP x0,VI .i64 i20] w2 fun e22 w21 =>
 e22=.returned (VT #[])/\(
 Q (VT #[VS none 0 0,VS none 0 0,VI .i64 0]) w21))
 (ldA 3 w2 b1 (0+4) fun a23 =>
 Calls Tryz.prog 14 #[VP x1,ofL a23] w2 fun e25 w24 =>
 ∃ (A26:Option Addr) (n27 c28:Nat),∃ i29:Int,e25=.returned (VT #[VS A26 n27 c28,VI .i64 i29])/\(
 Q (VT #[VS none 0 0,VS A26 n27 c28,VI .i64 i29]) w24)))))
def F5.an:Ann:=⟨[],[]⟩
theorem F5.of (x0:Option Addr) (x1:Option Addr) (x2:List Value) (w:World) {Q:QT} (h:F5.vc x0 x1 x2 w Q):Calls Tryz.prog 5 #[VP x0,VP x1,ofL x2] w (fun e w'=>∃ v,e=.returned v/\Q v w'):=vcFn_of (A:=F5.an) noCount mixed h (by kernel_rfl)
def F6.vc (x0:Option Addr) (w:World) (Q:QT):Prop :=
 vIf x0.isNone
 (Q (VT #[VI .i64 0,VI .i64 0,VI .i64 0]) w)
 (dr x0 fun b1 o2 =>
 ldI .i64 w.drew b1 (o2+14) fun i3 =>
 dr x0 fun b4 o5 =>
 ldSl w.drew b4 (o5+12) fun A6 n7 c8 =>
 dr x0 fun b9 o10 =>
 ldSl w.drew b9 (o10+13) fun A11 n12 c13 =>
 Q (VT #[VI .i64 i3,VI .i64 (n7:Int),VI .i64 (n12:Int)]) w.drew)
def F6.an:Ann:=⟨[],[]⟩
theorem F6.of (x0:Option Addr) (w:World) {Q:QT} (h:F6.vc x0 w Q):Calls Tryz.prog 6 #[VP x0] w (fun e w'=>∃ v,e=.returned v/\Q v w'):=vcFn_of (A:=F6.an) noCount mixed h (by kernel_rfl)
def F7.vc (x0:Option Addr) (w:World) (Q:QT):Prop :=
 nw w Z41 41 fun b1 w2 =>
 vIf x0.isNone
 (gd (([VI .i64 0] ++ ([VI .i64 0] ++ ([VI .i64 0] ++ ([VB false] ++ ([VI .u64 0] ++ []))))).length == 5) <|
 st w2 b1 0 ([VI .i64 0] ++ ([VI .i64 0] ++ ([VI .i64 0] ++ ([VB false] ++ ([VI .u64 0] ++ []))))) fun w3 =>
 ldA 5 w3 b1 0 fun a4 =>
 Q (ofL a4) w3)
 (dr x0 fun b5 o6 =>
 ldA 5 w2 b5 (o6+7) fun a7 =>
 gd (a7.length == 5) <|
 st w2 b1 0 a7 fun w8 =>
 ldA 5 w8 b1 0 fun a9 =>
 Q (ofL a9) w8)
def F7.an:Ann:=⟨[],[]⟩
theorem F7.of (x0:Option Addr) (w:World) {Q:QT} (h:F7.vc x0 w Q):Calls Tryz.prog 7 #[VP x0] w (fun e w'=>∃ v,e=.returned v/\Q v w'):=vcFn_of (A:=F7.an) noCount mixed h (by kernel_rfl)
def F8.k3c (Q:QT) (x0:Option Addr) (x1:Int) (x2:Int) (w:World):Prop :=
 dr x0 fun b1 o2 =>
 ldP w b1 o2 fun p3 =>
 Calls Tryz.prog 15 #[VP p3] w fun e5 w4 =>
 ∃ i6:Int,∃ i7:Int,e5=.returned (VT #[VI .i64 i6,VI .i64 i7])/\(
 dr x0 fun b8 o9 =>
 ldSl w4 b8 (o9+13) fun A10 n11 c12 =>
 vIf (decide ((n11:Int)<=i6))
 (dr x0 fun b13 o14 =>
 ldSl w4 b13 (o14+13) fun A15 n16 c17 =>
 Calls Tryz.prog 16 #[VI .i64 (WR .i64 (i6 - (n16:Int))),VI .i64 i7,VI .i64 x1,VI .i64 x2] w4 fun e19 w18 =>
 ∃ t20:Bool,e19=.returned (VB t20)/\(
 Q (VB t20) w18))
 (Q (VB false) w4))
def F8.k3 (Q:QT):(Option Addr×Int×Int×Unit)->WT:=fun s w=>∀ _:Nat->Value,F8.k3c Q s.1 s.2.1 s.2.2.1 w
def F8.vc (x0:Option Addr) (x1:Int) (x2:Int) (w:World) (Q:QT):Prop :=
 vIf x0.isNone
 (Q (VB false) w)
 (vIf (decide (x1 < 0))
 (Q (VB false) w)
 (jnC (F8.k3 Q) (x0,x1,x2,()) w))
def F8.an:Ann:=⟨[],[(3,[(0,.kP),(1,.kI .i64),(2,.kI .i64)])]⟩
theorem F8.of (x0:Option Addr) (x1:Int) (x2:Int) (w:World) {Q:QT} (h:F8.vc x0 x1 x2 w Q):Calls Tryz.prog 8 #[VP x0,VI .i64 x1,VI .i64 x2] w (fun e w'=>∃ v,e=.returned v/\Q v w'):=vcFn_of (A:=F8.an) noCount mixed h (by kernel_rfl)
def F9.k6c (Q:QT) (x2:Option Addr) (w:World):Prop :=
 Calls Tryz.prog 11 #[VP x2] w fun e20 w19 =>
 ∃ i21:Int,e20=.returned (VI .i64 i21)/\(
 vIf (i21 == 0)
 (Calls Tryz.prog 7 #[VP x2] w19 fun e23 w22 =>
 ∃ a24:List Value,e23=.returned (ofL a24)/\(
 eqPl PK40 a24 ([VI .i64 1] ++ ([VI .i64 119] ++ ([VI .i64 1] ++ ([VB false] ++ ([VI .u64 3] ++ []))))) fun t25 =>
 Q (VB t25) w22))
 (Q (VB false) w19))
def F9.k6 (Q:QT):(Option Addr×Unit)->WT:=fun s w=>∀ _:Nat->Value,F9.k6c Q s.1 w
def F9.vc  (w:World) (Q:QT):Prop :=
 Calls Tryz.prog 4 #[ofL ([VI .i64 9000] ++ ([VI .i64 9] ++ []))] w fun e2 w1 =>
 ∃ p3:Option Addr,e2=.returned (VP p3)/\(
 Calls Tryz.prog 17 #[VP p3,ofL ([VI .i64 1024] ++ ([VI .i64 4] ++ ([VI .i64 0] ++ ([VI .i64 0] ++ ([VI .i64 0] ++ ([Value.float .f64 0] ++ [])))))),ofL ([VI .i64 0] ++ ([VI .i64 0] ++ ([VI .i64 0] ++ ([VB false] ++ ([VI .u64 0] ++ [])))))] w1 fun e5 w4 =>
 ∃ p6:Option Addr,e5=.returned (VP p6)/\(
 gd (([VI .u8 7] ++ ([VI .u8 0] ++ ([VI .u8 0] ++ ([VI .u8 0] ++ ([VI .u8 0] ++ ([VI .u8 0] ++ ([VI .u8 0] ++ ([VI .u8 0] ++ ([VI .u8 0] ++ ([VI .u8 0] ++ ([VI .u8 0] ++ ([VI .u8 0] ++ ([VI .u8 0] ++ ([VI .u8 0] ++ ([VI .u8 0] ++ ([VI .u8 0] ++ ([VI .u8 0] ++ ([VI .u8 0] ++ ([VI .u8 0] ++ ([VI .u8 0] ++ ([VI .u8 0] ++ ([VI .u8 0] ++ ([VI .u8 0] ++ ([VI .u8 0] ++ ([VI .u8 0] ++ ([VI .u8 0] ++ ([VI .u8 0] ++ ([VI .u8 0] ++ ([VI .u8 0] ++ ([VI .u8 0] ++ ([VI .u8 0] ++ ([VI .u8 0] ++ [])))))))))))))))))))))))))))))))).length == 32) <|
 gd (([VI .i64 5] ++ ([VI .u64 0] ++ (([VI .u8 7] ++ ([VI .u8 0] ++ ([VI .u8 0] ++ ([VI .u8 0] ++ ([VI .u8 0] ++ ([VI .u8 0] ++ ([VI .u8 0] ++ ([VI .u8 0] ++ ([VI .u8 0] ++ ([VI .u8 0] ++ ([VI .u8 0] ++ ([VI .u8 0] ++ ([VI .u8 0] ++ ([VI .u8 0] ++ ([VI .u8 0] ++ ([VI .u8 0] ++ ([VI .u8 0] ++ ([VI .u8 0] ++ ([VI .u8 0] ++ ([VI .u8 0] ++ ([VI .u8 0] ++ ([VI .u8 0] ++ ([VI .u8 0] ++ ([VI .u8 0] ++ ([VI .u8 0] ++ ([VI .u8 0] ++ ([VI .u8 0] ++ ([VI .u8 0] ++ ([VI .u8 0] ++ ([VI .u8 0] ++ ([VI .u8 0] ++ ([VI .u8 0] ++ [])))))))))))))))))))))))))))))))) ++ ([VG (⟨#[]⟩:ByteArray)] ++ ([VS none 0 0] ++ ([VI .i64 0] ++ ([VI .i64 0] ++ []))))))).length == 38) <|
 nw w4 (([VI .i64 5] ++ ([VI .u64 0] ++ (([VI .u8 7] ++ ([VI .u8 0] ++ ([VI .u8 0] ++ ([VI .u8 0] ++ ([VI .u8 0] ++ ([VI .u8 0] ++ ([VI .u8 0] ++ ([VI .u8 0] ++ ([VI .u8 0] ++ ([VI .u8 0] ++ ([VI .u8 0] ++ ([VI .u8 0] ++ ([VI .u8 0] ++ ([VI .u8 0] ++ ([VI .u8 0] ++ ([VI .u8 0] ++ ([VI .u8 0] ++ ([VI .u8 0] ++ ([VI .u8 0] ++ ([VI .u8 0] ++ ([VI .u8 0] ++ ([VI .u8 0] ++ ([VI .u8 0] ++ ([VI .u8 0] ++ ([VI .u8 0] ++ ([VI .u8 0] ++ ([VI .u8 0] ++ ([VI .u8 0] ++ ([VI .u8 0] ++ ([VI .u8 0] ++ ([VI .u8 0] ++ ([VI .u8 0] ++ [])))))))))))))))))))))))))))))))) ++ ([VG (⟨#[]⟩:ByteArray)] ++ ([VS none 0 0] ++ ([VI .i64 0] ++ ([VI .i64 0] ++ []))))))) ++ []) 71 fun b7 w8 =>
 Calls Tryz.prog 10 #[VP p6,VS (some ⟨b7,0,none⟩) 1 1,VI .i64 1] w8 fun e10 w9 =>
 ∃ (A11:Option Addr) (n12 c13:Nat),∃ i14:Int,e10=.returned (VT #[VS A11 n12 c13,VI .i64 i14])/\(
 vIf (i14 != 0)
 (Q (VB false) w9)
 (vIf ((n12:Int) != 1)
 (Q (VB false) w9)
 (dr A11 fun b15 o16 =>
 gd (decide ((0:Int) < (n12:Int))) <|
 ldA 3 w9 b15 (o16+36) fun a17 =>
 eqI64 3 a17 ([VI .i64 1] ++ ([VI .i64 37] ++ ([VI .i64 53] ++ []))) fun t18 =>
 vIf (!t18)
 (Q (VB false) w9)
 (jnC (F9.k6 Q) (p6,()) w9))))))
def F9.an:Ann:=⟨[],[(6,[(2,.kP)])]⟩
theorem F9.of  (w:World) {Q:QT} (h:F9.vc  w Q):Calls Tryz.prog 9 #[] w (fun e w'=>∃ v,e=.returned v/\Q v w'):=vcFn_of (A:=F9.an) noCount mixed h (by kernel_rfl)
def F14.k8c (Q:QT) (x0:Option Addr) (x3:NT) (x6:Int) (w:World):Prop :=
 dr x0 fun b38 o39 =>
 ldSl w.drew b38 (o39+13) fun A40 n41 c42 =>
 ldI .i64 w.drew x3.1 (x3.2+2) fun i43 =>
 gd (decide (0<=(WR .i64 (x6+i43)))) <|
 gd (decide ((WR .i64 (x6+i43))<=(c42:Int))) <|
 gd (decide (0<=x6)) <|
 gd (decide (x6<=((((WR .i64 (x6+i43))).toNat:Nat):Int))) <|
 Calls Tryz.prog 28 #[VS (slA A40 c42 (x6).toNat 1) (((WR .i64 (x6+i43))).toNat - (x6).toNat) (c42 - (x6).toNat)] w.drew fun e45 w44 =>
 ∃ (A46:Option Addr) (n47 c48:Nat),e45=.returned (VS A46 n47 c48)/\(
 Q (VT #[VS A46 n47 c48,VI .i64 0]) w44)
def F14.k8 (Q:QT):(Option Addr×NT×Int×Unit)->WT:=fun s w=>∀ _:Nat->Value,F14.k8c Q s.1 s.2.1 s.2.2.1 w
def F14.k5c (Q:QT) (x0:Option Addr) (x3:NT) (w:World):Prop :=
 ldI .i64 w.drew x3.1 (x3.2+1) fun i22 =>
 dr x0 fun b23 o24 =>
 ldI .i64 w.drew b23 ((o24+7)+1) fun i25 =>
 ldI .i64 w.drew.drew x3.1 (x3.2+2) fun i26 =>
 vIf (decide (i26 < 0))
 (Q (VT #[VS none 0 0,VI .i64 20]) w.drew.drew)
 (vIf (decide ((WR .i64 (i22 - i25)) < 0))
 (Q (VT #[VS none 0 0,VI .i64 20]) w.drew.drew)
 (dr x0 fun b27 o28 =>
 ldSl w.drew.drew b27 (o28+13) fun A29 n30 c31 =>
 vIf (decide ((WR .i64 (i22 - i25)) > (n30:Int)))
 (Q (VT #[VS none 0 0,VI .i64 20]) w.drew.drew)
 (ldI .i64 w.drew.drew x3.1 (x3.2+2) fun i32 =>
 dr x0 fun b33 o34 =>
 ldSl w.drew.drew b33 (o34+13) fun A35 n36 c37 =>
 vIf (decide (i32 > (WR .i64 ((n36:Int) - (WR .i64 (i22 - i25))))))
 (Q (VT #[VS none 0 0,VI .i64 20]) w.drew.drew)
 (jnC (F14.k8 Q) (x0,(x3.1,x3.2),((WR .i64 (i22 - i25))),()) w.drew.drew))))
def F14.k5 (Q:QT):(Option Addr×NT×Unit)->WT:=fun s w=>∀ _:Nat->Value,F14.k5c Q s.1 s.2.1 w
def F14.k4c (Q:QT) (x0:Option Addr) (x3:NT) (x26:Bool) (w:World):Prop :=
 vIf x26
 (dr x0 fun b7 o8 =>
 ldP w.drew b7 o8 fun p9 =>
 ldI .i64 w.drew x3.1 x3.2 fun i10 =>
 ldI .i64 w.drew x3.1 (x3.2+1) fun i11 =>
 ldI .i64 w.drew x3.1 (x3.2+2) fun i12 =>
 Calls Tryz.prog 27 #[VI .i64 1,VI .i64 i10] w.drew fun e14 w13 =>
 ∃ s15:ByteArray,e14=.returned (VG s15)/\(
 kp w.drew x3.1 (x3.2+2) 1 w13 <|
 kp w.drew x3.1 (x3.2+1) 1 w13 <|
 kp w.drew b7 o8 1 w13 <|
 Calls Tryz.prog 26 #[VP p9,VG s15,VI .i64 i11,VI .i64 i12] w13 fun e17 w16 =>
 ∃ (A18:Option Addr) (n19 c20:Nat),∃ i21:Int,e17=.returned (VT #[VS A18 n19 c20,VI .i64 i21])/\(
 Q (VT #[VS A18 n19 c20,VI .i64 i21]) w16)))
 (jnC (F14.k5 Q) (x0,(x3.1,x3.2),()) w)
def F14.k4 (Q:QT):(Option Addr×NT×Bool×Unit)->WT:=fun s w=>∀ _:Nat->Value,F14.k4c Q s.1 s.2.1 s.2.2.1 w
def F14.vc (x0:Option Addr) (x1:List Value) (w:World) (Q:QT):Prop :=
 nw w x1 24 fun b1 w2 =>
 vIf x0.isNone
 (Q (VT #[VS none 0 0,VI .i64 1]) w2)
 (ldI .i64 w2.drew b1 0 fun i3 =>
 dr x0 fun b4 o5 =>
 ldI .i64 w2.drew b4 (o5+7) fun i6 =>
 vIf (i3 != i6)
 (jnC (F14.k4 Q) (x0,(b1,0),true,()) w2.drew)
 (ldI .i64 w2.drew b1 (0+1) fun i49 =>
 dr x0 fun b50 o51 =>
 ldI .i64 w2.drew b50 ((o51+7)+1) fun i52 =>
 jnC (F14.k4 Q) (x0,(b1,0),(decide (i49 < i52)),()) w2.drew))
def F14.an:Ann:=⟨[],[(4,[(0,.kP),(3,.kL),(26,.kB)]),(5,[(0,.kP),(3,.kL)]),(8,[(0,.kP),(3,.kL),(6,.kI .i64)])]⟩
theorem F14.of (x0:Option Addr) (x1:List Value) (w:World) {Q:QT} (h:F14.vc x0 x1 w Q):Calls Tryz.prog 14 #[VP x0,ofL x1] w (fun e w'=>∃ v,e=.returned v/\Q v w'):=vcFn_of (A:=F14.an) noCount mixed h (by kernel_rfl)
def F17.vc (x0:Option Addr) (x1:List Value) (x2:List Value) (w:World) (Q:QT):Prop :=
 nw w x1 61 fun b1 w2 =>
 nw w2 x2 41 fun b3 w4 =>
 ldA 6 w4 b1 0 fun a5 =>
 ldA 5 w4 b3 0 fun a6 =>
 gd (a5.length == 6) <|
 gd (a6.length == 5) <|
 nw w4 ([VP x0] ++ (a5 ++ (a6 ++ ([VS none 0 0] ++ ([VS none 0 0] ++ ([VI .i64 0] ++ ([VI .i64 0] ++ []))))))) 63 fun b7 w8 =>
 Q (VP (some ⟨b7,0,none⟩)) w8
def F17.an:Ann:=⟨[],[]⟩
theorem F17.of (x0:Option Addr) (x1:List Value) (x2:List Value) (w:World) {Q:QT} (h:F17.vc x0 x1 x2 w Q):Calls Tryz.prog 17 #[VP x0,ofL x1,ofL x2] w (fun e w'=>∃ v,e=.returned v/\Q v w'):=vcFn_of (A:=F17.an) noCount mixed h (by kernel_rfl)
end Go.Proofs.YtadbakmblklncaaGreatDoor
namespace Go.Proofs.YtadbakmblklncaaGreatDoor
open Go.GV Go.RowKit Go.Lib
def cmpN (a b:ByteArray):Int:=compareBytes a.data.toList b.data.toList
theorem ba_ext {a b:ByteArray} (h:a.data.toList=b.data.toList):a=b:=by
 obtain ⟨⟨x⟩⟩:=a
 obtain ⟨⟨y⟩⟩:=b
 have h:x=y:=h
 rw [h]
theorem neq (a b:ByteArray):(a.toList == b.toList)=decide (a=b):=by
 rw [toList_data,toList_data,Bool.eq_iff_iff,beq_iff_eq,decide_eq_true_iff]
 exact ⟨ba_ext,fun h=>by rw [h]⟩
theorem cmpN_zero (a b:ByteArray):cmpN a b=0 ↔ a=b:=by
 unfold cmpN
 rw [cmp_zero]
 exact ⟨ba_ext,fun h=>by rw [h]⟩
theorem cmpN_self (a:ByteArray):cmpN a a=0:=(cmpN_zero a a).2 rfl
theorem cmpN_anti (a b:ByteArray):cmpN a b = - cmpN b a:=cmp_anti _ _
theorem cmpN_trans {a b c:ByteArray} (h1:cmpN a b < 0) (h2:cmpN b c < 0):cmpN a c < 0:=by
 have h:=cmp_trans a.data.toList b.data.toList c.data.toList (by unfold cmpN at h1; omega) (by unfold cmpN at h2; omega)
 have h:cmpN a c<=0:=h
 by_cases h0:cmpN a c=0
 ·have:=(cmpN_zero a c).1 h0
  subst this
  have:=cmpN_anti a b
  omega
 ·omega
theorem strcmp_calls (a b:ByteArray) (w:World):Calls Tryz.prog 113 #[.string a,.string b] w fun e w'=>e=.returned (.int .i64 (cmpN a b))/\w'=w:=by
 refine (F113.of a b w (Q:=fun v w'=>v=.int .i64 (cmpN a b)/\w'=w) ?_).mono (fun e w' ⟨v,he,hv,h⟩=>⟨by rw [he,hv],h⟩)
 refine (F141.of a b w (Q:=fun v w'=>v=.int .i64 (cmpN a b)/\w'=w) ?_).mono ?_
 ·exact ⟨_,Extern.BytealgCompare.compare,_,_,Tryz.func161,by kernel_rfl,by kernel_rfl,by kernel_rfl,Lib.run_compareString a b w,cmpN a b,rfl,rfl,rfl⟩
 ·rintro e w' ⟨v,rfl,rfl,rfl⟩
  exact ⟨_,rfl,rfl,rfl⟩
end Go.Proofs.YtadbakmblklncaaGreatDoor
namespace Go.Stb
variable {α β:Type}
theorem get_mid {P R:List α} {x:α} {i:Nat} (hi:i=P.length):(P ++ x :: R)[i]?=some x:=by subst hi; simp
theorem set_mid {P R:List α} {x y:α} {i:Nat} (hi:i=P.length):(P ++ x :: R).set i y=P ++ y :: R:=by subst hi; simp
structure OrdC (cmp:β->β->Int):Prop where
 anti:∀ a b,cmp a b = - cmp b a
 trans:∀ a b c,cmp a b<=0->cmp b c<=0->cmp a c<=0
section
variable {cmp:β->β->Int}
def lt (cmp:β->β->Int) (x y:β×Nat):Prop:=cmp x.1 y.1 < 0\/(cmp x.1 y.1=0/\x.2 < y.2)
def Sorted (cmp:β->β->Int) (l:List (β×Nat)):Prop:=l.Pairwise (lt cmp)
def bef (x y:β×Nat):Prop:=x.2 < y.2
theorem OrdC.lt_le (h:OrdC cmp) {a b c:β} (h1:cmp a b < 0) (h2:cmp b c<=0):cmp a c < 0:=by
 have h3:=h.trans a b c (by omega) h2
 by_cases h0:cmp a c=0
 ·have h4:=h.anti c a
  have h5:=h.trans b c a h2 (by omega)
  have h6:=h.anti a b
  omega
 ·omega
theorem OrdC.le_lt (h:OrdC cmp) {a b c:β} (h1:cmp a b<=0) (h2:cmp b c < 0):cmp a c < 0:=by
 have h3:=h.trans a b c h1 (by omega)
 by_cases h0:cmp a c=0
 ·have h4:=h.anti c a
  have h5:=h.trans c a b (by omega) h1
  have h6:=h.anti b c
  omega
 ·omega
theorem lt_trans (h:OrdC cmp) {x y z:β×Nat} (h1:lt cmp x y) (h2:lt cmp y z):lt cmp x z:=by
 rcases h1 with h1 | ⟨h1,h1'⟩ <;> rcases h2 with h2 | ⟨h2,h2'⟩
 ·exact .inl (h.lt_le h1 (by omega))
 ·exact .inl (h.lt_le h1 (by omega))
 ·exact .inl (h.le_lt (by omega) h2)
 ·have h3:=h.trans x.1 y.1 z.1 (by omega) (by omega)
  have h4:=h.trans z.1 y.1 x.1 (by have:=h.anti z.1 y.1; omega) (by have:=h.anti y.1 x.1; omega)
  have h5:=h.anti x.1 z.1
  exact .inr ⟨by omega,by omega⟩
theorem lt_asymm (h:OrdC cmp) {x y:β×Nat} (h1:lt cmp x y) (h2:lt cmp y x):False:=by
 have h3:=h.anti x.1 y.1
 rcases h1 with h1 | ⟨h1,h1'⟩ <;> rcases h2 with h2 | ⟨h2,h2'⟩ <;> omega
theorem bef_yes (h:OrdC cmp) {x y:β×Nat} (hb:bef x y) (hc:cmp y.1 x.1 < 0):lt cmp y x:=.inl hc
theorem bef_no (h:OrdC cmp) {x y:β×Nat} (hb:bef x y) (hc:¬ cmp y.1 x.1 < 0):lt cmp x y:=by
 have h3:=h.anti x.1 y.1
 have hb:x.2 < y.2:=hb
 by_cases h0:cmp x.1 y.1=0
 ·exact .inr ⟨h0,hb⟩
 ·exact .inl (by omega)
theorem sorted_get (h:OrdC cmp) {l:List (β×Nat)} (hs:Sorted cmp l) {i j:Nat} {x y:β×Nat} (hi:l[i]?=some x) (hj:l[j]?=some y) (hij:i < j):lt cmp x y:=by
 obtain ⟨h1,rfl⟩:=List.getElem?_eq_some_iff.1 hi
 obtain ⟨h2,rfl⟩:=List.getElem?_eq_some_iff.1 hj
 exact (List.pairwise_iff_getElem.1 hs) i j h1 h2 hij
theorem sorted_app {A B:List (β×Nat)} (hA:Sorted cmp A) (hB:Sorted cmp B) (hAB:∀ x ∈ A,∀ y ∈ B,lt cmp x y):Sorted cmp (A ++ B):=List.pairwise_append.2 ⟨hA,hB,hAB⟩
theorem sorted_of_app {A B:List (β×Nat)} (h:Sorted cmp (A ++ B)):Sorted cmp A/\Sorted cmp B/\∀ x ∈ A,∀ y ∈ B,lt cmp x y:=List.pairwise_append.1 h
theorem sorted_unique (h:OrdC cmp):∀ {a b:List (β×Nat)},Sorted cmp a->Sorted cmp b->a.Perm b->a=b
 | [],b,_,_,hp=>by rw [List.nil_perm.1 hp]
 | x :: a,[],_,_,hp=>by have:=hp.length_eq; simp at this
 | x :: a,y :: b,ha,hb,hp=>by
  have hca:=List.pairwise_cons.1 ha
  have hcb:=List.pairwise_cons.1 hb
  have hxy:x=y:=by
   rcases List.mem_cons.1 (hp.mem_iff.1 (List.mem_cons_self (a:=x) (l:=a))) with h1 | h1
   ·exact h1
   ·rcases List.mem_cons.1 (hp.mem_iff.2 (List.mem_cons_self (a:=y) (l:=b))) with h2 | h2
    ·exact h2.symm
    ·exact (lt_asymm h (hcb.1 x h1) (hca.1 y h2)).elim
  subst hxy
  rw [sorted_unique h hca.2 hcb.2 ((List.perm_cons x).1 hp)]
def ins (cmp:β->β->Int) (x:β):List β->List β
 | []=>[x]
 | y :: r=>if cmp x y < 0 then x :: y :: r else y :: ins cmp x r
def stab (cmp:β->β->Int) (l:List β):List β:=l.foldl (fun a x=>ins cmp x a) []
theorem stab_snoc (l:List β) (x:β):stab cmp (l ++ [x])=ins cmp x (stab cmp l):=by unfold stab; rw [List.foldl_append]; rfl
def insT (cmp:β->β->Int) (x:β×Nat):List (β×Nat)->List (β×Nat)
 | []=>[x]
 | y :: r=>if cmp x.1 y.1 < 0 then x :: y :: r else y :: insT cmp x r
theorem insT_fst (x:β×Nat):∀ l:List (β×Nat),(insT cmp x l).map (·.1)=ins cmp x.1 (l.map (·.1))
 | []=>rfl
 | y :: r=>by
  unfold insT ins
  rw [List.map_cons]
  show _=(if cmp x.1 y.1 < 0 then _ else _)
  split
  ·rfl
  ·rw [List.map_cons,insT_fst x r]
theorem insT_perm (x:β×Nat):∀ l:List (β×Nat),(insT cmp x l).Perm (x :: l)
 | []=>List.Perm.refl _
 | y :: r=>by
  unfold insT
  split
  ·exact List.Perm.refl _
  ·exact ((insT_perm x r).cons y).trans (List.Perm.swap x y r)
theorem insT_sorted (h:OrdC cmp) (x:β×Nat):∀ l:List (β×Nat),Sorted cmp l->(∀ y ∈ l,bef y x)->Sorted cmp (insT cmp x l)
 | [],_,_=>List.pairwise_singleton _ _
 | y :: r,hs,hb=>by
  have hc:=List.pairwise_cons.1 hs
  unfold insT
  by_cases h1:cmp x.1 y.1 < 0
  ·rw [if_pos h1]
   refine List.pairwise_cons.2 ⟨fun z hz=>?_,hs⟩
   rcases List.mem_cons.1 hz with rfl | hz
   ·exact .inl h1
   ·exact lt_trans h (.inl h1) (hc.1 z hz)
  ·rw [if_neg h1]
   refine List.pairwise_cons.2 ⟨fun z hz=>?_,insT_sorted h x r hc.2 (fun z hz=>hb z (List.mem_cons_of_mem _ hz))⟩
   rcases List.mem_cons.1 ((insT_perm x r).mem_iff.1 hz) with rfl | hz
   ·exact bef_no h (hb y (List.mem_cons_self ..)) h1
   ·exact hc.1 z hz
def tagL (l:List β):List (β×Nat):=l.zipIdx
theorem tagL_fst (l:List β):(tagL l).map (·.1)=l:=by simp [tagL]
theorem tagL_snoc (l:List β) (x:β):tagL (l ++ [x])=tagL l ++ [(x,l.length)]:=by simp [tagL,List.zipIdx_append]
theorem tagL_lt {l:List β} {x:β×Nat} (h:x ∈ tagL l):x.2 < l.length:=by
 have:=List.snd_lt_of_mem_zipIdx h
 simpa using this
theorem snoc_ind {P:List β->Prop} (h0:P []) (h1:∀ l x,P l->P (l ++ [x])) (l:List β):P l:=by
 have:∀ n (l:List β),l.length=n->P l:=by
  intro n
  induction n with
  | zero=>intro l hl; rw [List.length_eq_zero_iff.1 hl]; exact h0
  | succ n ih =>
   intro l hl
   have hne:l ≠ []:=by intro h; rw [h] at hl; cases hl
   rw [<- List.dropLast_concat_getLast hne]
   exact h1 _ _ (ih _ (by simp [hl]))
 exact this _ l rfl
theorem stab_spec (h:OrdC cmp) (l:List β):∃ m,Sorted cmp m/\m.Perm (tagL l)/\m.map (·.1)=stab cmp l:=by
 refine snoc_ind (P:=fun l=>∃ m,Sorted cmp m/\m.Perm (tagL l)/\m.map (·.1)=stab cmp l) ⟨[],List.Pairwise.nil,List.Perm.refl _,rfl⟩ (fun l x ⟨m,h1,h2,h3⟩=>?_) l
 refine ⟨insT cmp (x,l.length) m,insT_sorted h _ m h1 (fun y hy=>tagL_lt (h2.mem_iff.1 hy)),?_,?_⟩
 ·rw [tagL_snoc]
  exact (insT_perm _ m).trans ((h2.cons _).trans (List.perm_append_singleton _ _).symm)
 ·rw [insT_fst,h3,stab_snoc]
theorem stab_of (h:OrdC cmp) {l:List β} {m:List (β×Nat)} (hs:Sorted cmp m) (hp:m.Perm (tagL l)):m.map (·.1)=stab cmp l:=by
 obtain ⟨m',h1,h2,h3⟩:=stab_spec h l
 rw [sorted_unique h hs h1 (hp.trans h2.symm),h3]
theorem ins_perm (x:β):∀ l:List β,(ins cmp x l).Perm (x :: l)
 | []=>List.Perm.refl _
 | y :: r=>by
  unfold ins
  split
  ·exact List.Perm.refl _
  ·exact ((ins_perm x r).cons y).trans (List.Perm.swap x y r)
theorem stab_perm (l:List β):(stab cmp l).Perm l :=
 snoc_ind (P:=fun l=>(stab cmp l).Perm l) (List.Perm.refl _) (fun l x ih=>by rw [stab_snoc]; exact (ins_perm x _).trans ((ih.cons x).trans (List.perm_append_singleton _ _).symm)) l
theorem stab_len (l:List β):(stab cmp l).length=l.length:=(stab_perm l).length_eq
def befC (c d:List (β×Nat)):Prop:=∀ x ∈ c,∀ y ∈ d,bef x y
theorem befC_merge {Ds R:List (List (β×Nat))} {c d m:List (β×Nat)} (h:(Ds ++ c :: d :: R).Pairwise befC) (hm:m.Perm (c ++ d)):(Ds ++ m :: R).Pairwise befC:=by
 have h:=List.pairwise_append.1 h
 have hc:=List.pairwise_cons.1 h.2.1
 have hd:=List.pairwise_cons.1 hc.2
 refine List.pairwise_append.2 ⟨h.1,List.pairwise_cons.2 ⟨fun r hr x hx y hy=>?_,hd.2⟩,fun e he r hr x hx y hy=>?_⟩
 ·rcases List.mem_append.1 (hm.mem_iff.1 hx) with hx | hx
  ·exact hc.1 r (List.mem_cons_of_mem _ hr) x hx y hy
  ·exact hd.1 r hr x hx y hy
 ·rcases List.mem_cons.1 hr with rfl | hr
  ·rcases List.mem_append.1 (hm.mem_iff.1 hy) with hy | hy
   ·exact h.2.2 e he c (List.mem_cons_self ..) x hx y hy
   ·exact h.2.2 e he d (List.mem_cons_of_mem _ (List.mem_cons_self ..)) x hx y hy
  ·exact h.2.2 e he r (List.mem_cons_of_mem _ (List.mem_cons_of_mem _ hr)) x hx y hy
theorem befC_two {Ds R:List (List (β×Nat))} {c d:List (β×Nat)} (h:(Ds ++ c :: d :: R).Pairwise befC):befC c d:=by
 have h:=List.pairwise_append.1 h
 exact (List.pairwise_cons.1 h.2.1).1 d (List.mem_cons_self ..)
theorem flat_len {k:Nat}:∀ {Fs:List (List (β×Nat))},(∀ f ∈ Fs,f.length=k)->Fs.flatten.length=Fs.length * k
 | [],_=>by simp
 | f :: r,h=>by
  rw [List.flatten_cons,List.length_append,h f (List.mem_cons_self ..),flat_len (fun g hg=>h g (List.mem_cons_of_mem _ hg)),List.length_cons,Nat.add_mul]; omega
end
end Go.Stb
namespace Go.Proofs.YtadbakmblklncaaGreatDoor
open Go.GV Go.RowKit Go.Lib
def ivs (l:List Int):List Value:=l.map (Value.int .i64)
theorem ivs_len (l:List Int):(ivs l).length=l.length:=by simp [ivs]
theorem ivs_app (a b:List Int):ivs (a ++ b)=ivs a ++ ivs b:=by simp [ivs]
theorem ivs_one (l:List Int):∀ v ∈ ivs l,v.oneCell'=true:=by
 intro v hv
 simp only [ivs,List.mem_map] at hv
 obtain ⟨x,_,rfl⟩:=hv
 rfl
theorem ivs_at {l:List Int} {i:Nat} {x:Int} (h:l[i]?=some x):(ivs l)[i]?=some (.int .i64 x):=by simp [ivs,h]
theorem ivs_take (l:List Int) (k:Nat):(ivs l).take k=ivs (l.take k):=by simp [ivs]
theorem ei (i:Nat) (h:i < 1099511627776):IntKind.wrap .i64 ((i:Int)+1)=((i+1:Nat):Int):=by rw [i64_id (by omega) (by omega)]; rfl
theorem sl_n {w:World} {A:Option Addr} {n:Nat} {l:List Int} (h:Sl w 1 A n (ivs l)):l.length=n:=by
 have:=h.1
 rw [ivs_len] at this
 omega
theorem sl_at {w:World} {A:Option Addr} {n:Nat} {l:List Int} (h:Sl w 1 A n (ivs l)) {i:Nat} (hi:i < n) {x:Int} (hx:l[i]?=some x):∃ b o,A=some ⟨b,o,none⟩/\∀ j y,l[j]?=some y->cellAt w b (o+j * 1)=some (.int .i64 y):=by
 obtain ⟨b,o,hA,hc⟩:=h.2 (by omega)
 exact ⟨b,o,hA,fun j y hj=>by rw [Nat.mul_one]; exact hc j _ (ivs_at hj)⟩
theorem sl_rd {w:World} {A:Option Addr} {n:Nat} {l:List Int} (h:Sl w 1 A n (ivs l)) {i:Nat} (hi:i < n) {x:Int} (hx:l[i]?=some x) {K:Int->Prop} (hK:K x) :
  dr A fun b o=>gd (decide (0<=(i:Int))) (gd (decide ((i:Int) < ((n:Nat):Int))) (ldI .i64 w b (o+((i:Int)).toNat * 1) K)):=by
 obtain ⟨b,o,rfl,hc⟩:=sl_at h hi hx
 refine dr_mk (gd_mk (decide_eq_true (by omega)) (gd_mk (decide_eq_true (by omega)) ⟨x,?_,hK⟩))
 rw [Int.toNat_natCast]
 exact hc i x hx
theorem row_low {u:World} {B B':Nat} {e:TypeId} {sz:Nat} {A:Option Addr} {k c:Nat} {vs:List Value} (hB:B'<=B) (hr:Row u B e sz A k c vs):Row u B' e sz A k c vs:=by
 refine ⟨hr.len,hr.le,?_⟩
 rcases hr.at_ with h' | ⟨b',cs',q1,q2,q3⟩
 ·exact .inl h'
 ·exact .inr ⟨b',cs',q1,by omega,q3⟩
theorem at_lt {l:List Int} {i:Nat} (h:i < l.length):l[i]?=some (l[i]'h):=List.getElem?_eq_getElem h
end Go.Proofs.YtadbakmblklncaaGreatDoor
namespace Go.Proofs.YtadbakmblklncaaGreatDoor.InsNm
open Go.GV Go.RowKit
section
variable {β:Type} {enc:β->List Value}
theorem src_rec {w:World} {b:Nat} {e:TypeId} {cs:List Value} {sz:Nat} (h:RecAt w b e cs) (hl:cs.length=sz):srcOf w sz (.slice (some ⟨b,0,none⟩) 1 1) 1 cs :=
 ⟨rfl,by omega,fun _=>dr_mk (h.cells (o:=0) (fun j v hj=>by simpa using hj))⟩
set_option maxHeartbeats 1000000 in
theorem insert_calls (h0:EncO β enc 2) (B:Nat) (A:Option Addr) (n c i:Nat) (l:List β) (x:β) (bv:Nat) (w:World) (h:Row w B 110 2 A n c (flt enc l)) (hl:l.length=n) (hi:i<=n) (hv:RecAt w bv 110 (enc x)) (hA:blkOf A ≠ some bv) (hB:B<=w.heap.size) (hn:n<=1073741824) :
  Calls Tryz.prog 142 #[.slice A n c,.int .i64 (i:Nat),.slice (some ⟨bv,0,none⟩) 1 1] w fun e w'=>∃ A' c',e=.returned (.slice A' (n+1) c')/\Fr (fun k=>blkOf A=some k) w w'/\Row w' B 110 2 A' (n+1) c' (flt enc (l.take i ++ x :: l.drop i))/\∀ k,blkOf A'=some k->blkOf A=some k\/w.heap.size<=k:=by
 refine (F142.of A n c _ (some ⟨bv,0,none⟩) 1 1 w (Q:=fun v w'=>∃ A' c',v=.slice A' (n+1) c'/\Fr (fun k=>blkOf A=some k) w w'/\Row w' B 110 2 A' (n+1) c' (flt enc (l.take i ++ x :: l.drop i))/\∀ k,blkOf A'=some k->blkOf A=some k\/w.heap.size<=k) ?_).mono (fun e w' ⟨v,he,A',c',hv,h⟩=>⟨A',c',by rw [he,hv],h⟩)
 have hle:=h.le
 have hx:=h0.len x
 have hfl:=h0.fl l
 have hsx:=src_rec hv hx
 have ox:=h0.one x
 have htx:(enc x).take 2=enc x:=by rw [<- hx,List.take_length]
 have hlT:(flt enc (l.take i)).length=i * 2:=by rw [h0.fl,List.length_take,hl,Nat.min_eq_left hi]
 have hlD:(flt enc (l.drop i)).length=(n - i) * 2:=by rw [h0.fl,List.length_drop,hl]
 have fin:flt enc (l.take i ++ x :: l.drop i)=flt enc (l.take i) ++ enc x ++ flt enc (l.drop i):=by rw [flt_app,flt_cons,List.append_assoc]
 rw [fin]
 clear fin
 refine gd_mk (decide_eq_true (by omega)) (gd_mk (decide_eq_true (by omega)) (vIf_f rfl (vIf_mk (fun he=>?_) (fun hne=>?_))))
 ·have he:(i:Int)=(n:Int):=by simpa using he
  have he:i=n:=by omega
  subst he
  have ht:l.take i=l:=List.take_of_length_le (by omega)
  have hd:l.drop i=[]:=List.drop_of_length_le (by omega)
  refine app_row2 (us:=enc x) (m:=1) h hsx ox rfl (by omega) (by omega) hB (fun A' c' w' hr' f' hb'=>⟨A',c',rfl,f',?_,hb'⟩)
  rw [ht,hd,flt_nil,List.append_nil]
  exact hr'
 have hne:i ≠ n:=fun h=>by subst h; simp at hne
 obtain ⟨b,hb⟩:∃ b,A=some ⟨b,0,none⟩:=by
  rcases h.at_ with ⟨_,h0,_⟩ | ⟨b,_,hA,_⟩
  ·omega
  ·exact ⟨b,hA⟩
 subst hb
 have hbb:b ≠ bv:=fun h=>hA (by rw [h]; rfl)
 have en:IntKind.wrap .i64 ((n:Int)+((1:Nat):Int))=((n+1:Nat):Int):=by rw [i64_id (by omega) (by omega)]; rfl
 have ei:IntKind.wrap .i64 ((i:Int)+((1:Nat):Int))=((i+1:Nat):Int):=by rw [i64_id (by omega) (by omega)]; rfl
 have ed:IntKind.wrap .i64 (((n+1:Nat):Int) - (i:Int))=((n+1 - i:Nat):Int):=by rw [i64_id (by omega) (by omega)]; omega
 have h00:slA (some (⟨b,0,none⟩:Addr)) c 0 2=some ⟨b,0,none⟩:=sl0 _ _ _
 simp only [en,ei,ed,h00,Int.toNat_natCast]
 refine vIf_mk (fun hgt=>?_) (fun hng=>?_)
 ·have hgt:c < n+1:=by have:=of_decide_eq_true hgt; omega
  refine gd_mk (decide_eq_true (by omega)) (gd_mk (decide_eq_true (by omega)) ?_)
  have hnm:i+(n+1 - i)=n+1:=by omega
  refine appZ_new (m:=n+1 - i) (old:=flt enc (l.take i)) (B:=B) (by rw [<- h0.ft l (by omega)]; exact h.sl.headS (by omega)) (by rw [i64_id (by omega) (by omega)]) (by omega) (by intro v hv; repeat (first | (cases hv; done) | (rcases List.mem_cons.1 hv with rfl | hv; · rfl))) rfl (by omega) (by omega) (by omega) hB (fun b5 c5 w5 hb5 hr5 f5=>?_)
  rw [hnm] at hr5 ⊢
  have hzl:(zeros (n+1 - i) ([.string (⟨#[]⟩:ByteArray),.int .i64 0]:List Value)).length=(n+1 - i) * 2:=by rw [zeros_length]; rfl
  refine gd_mk (decide_eq_true (by omega)) (gd_mk (decide_eq_true (by omega)) ?_)
  refine cpy_row hr5 (src_rec (hv.fr f5 (fun h=>h)) hx) (by omega) (by omega) (by rw [Nat.min_eq_left (by omega),Nat.one_mul,htx]; exact ox) (fun w6 hr6 f6=>?_)
  rw [Nat.min_eq_left (by omega),Nat.one_mul,htx,splice_at hlT] at hr6
  refine gd_mk (decide_eq_true (by omega)) (gd_mk (decide_eq_true (by omega)) (gd_mk (decide_eq_true (by omega)) (gd_mk (decide_eq_true (by omega)) ?_)))
  have hsD:=h.tailS (k:=i) (by omega)
  rw [h0.fd l (by omega)] at hsD
  have hbl:=(h.blt (b:=b) rfl).2
  have f56:Fr (fun k=>b5=k) w w6:=(f5.mono (fun _ _ h=>h.elim)).trans1 (f6.mono (fun k _ h=>by simpa [blkOf] using h))
  have f7:=f56.trans1 (Fr.drew _ _)
  have hsD7:=f7.sl hsD (fun _ k hk h=>by rw [sl_blk] at hk; injection hk with hk; omega)
  refine cpy_row ((Fr.drew (fun _=>False) w6).row hr6 (fun _ _ h=>h)) hsD7.src (by rw [hlD]) (by omega) (by intro v hv; exact h0.fo _ v (List.mem_of_mem_take hv)) (fun w8 hr8 f8=>⟨_,_,rfl,?_,?_,fun k hk=>.inr (by simp [blkOf] at hk; omega)⟩)
  ·exact (f7.trans1 (f8.mono (fun k _ h=>by simpa [blkOf] using h))).mono (fun k hk h=>by omega)
  ·have hD:(flt enc (l.drop i)).take (min (n - i) (n+1 - (i+1)) * 2)=flt enc (l.drop i):=List.take_of_length_le (by rw [hlD,show min (n - i) (n+1 - (i+1))=n - i by omega]; exact Nat.le_refl _)
   have hd0:((zeros (n+1 - i) ([.string (⟨#[]⟩:ByteArray),.int .i64 0]:List Value)).drop (enc x).length).drop (flt enc (l.drop i)).length=[]:=List.drop_of_length_le (by rw [List.length_drop,hzl,hx,hlD]; omega)
   rw [hD,splice_at (by rw [List.length_append,hlT,hx]; omega),hd0,List.append_nil] at hr8
   exact hr8
 ·have hng:n+1<=c:=by have:=of_decide_eq_false hng; omega
  have hs1:slA (some (⟨b,0,none⟩:Addr)) c (i+1) 2=some ⟨b,(i+1) * 2,none⟩:=slS (by omega)
  refine gd_mk (decide_eq_true (by omega)) (gd_mk (decide_eq_true (by omega)) (gd_mk (decide_eq_true (by omega)) (gd_mk (decide_eq_true (by omega)) ?_)))
  obtain ⟨cs,hcs,hcl⟩:∃ cs,w.heap[b]?=some (.cells cs 110 (0,0))/\cs.size=c * 2:=by
   rcases h.at_ with ⟨h1,_⟩ | ⟨b',cs,hA',_,hh,hs,_⟩
   ·cases h1
   ·cases hA'; exact ⟨cs,hh,hs⟩
  have hov:∀ K:Value->World->Prop,K (.bool false) w->extC Tryz.prog 162 #[Value.slice (some ⟨bv,0,none⟩) 1 1,Value.slice (slA (some (⟨b,0,none⟩:Addr)) c (i+1) 2) (n+1 - (i+1)) (c - (i+1))] w K:=by
   intro K hK
   rw [hs1]
   exact overlaps_ext (tS:=47) (tR:=4) (e:=110) Tryz.func162 (by kernel_rfl) (by kernel_rfl) (by kernel_rfl) (by kernel_rfl) (size:=2) (by decide) (by kernel_rfl) hv hcs (fun h=>hbb h.symm) (by omega) hK
  refine hov _ ⟨false,rfl,vIf_t rfl ?_⟩
  refine gd_mk (decide_eq_true (by omega)) (gd_mk (decide_eq_true (by omega)) (gd_mk (decide_eq_true (by omega)) (gd_mk (decide_eq_true (by omega)) ?_)))
  have hwd:=(Fr.drew (fun _=>False) w).row h (fun _ _ h=>h)
  obtain ⟨us,hul,hE⟩:=row_ext hwd (k:=1) (by omega)
  have hsE:=hE.tailS (k:=i) (by omega)
  have hEl:(flt enc l ++ us).length=(n+1) * 2:=hE.len
  have hmin:min (n+1 - i) (n+1 - (i+1))=n - i:=by omega
  have hdi:(flt enc l ++ us).drop (i * 2)=flt enc (l.drop i) ++ us:=by rw [List.drop_append_of_le_length (by rw [hfl]; omega),h0.fd l (by omega)]
  rw [hdi] at hsE
  have htk:(flt enc (l.drop i) ++ us).take ((n - i) * 2)=flt enc (l.drop i):=by rw [<- hlD,List.take_left]
  refine cpy_row hE hsE.src (by rw [List.length_append,hlD,hul]; omega) (by omega) (by rw [hmin,htk]; exact h0.fo _) (fun w5 hr5 f5=>?_)
  rw [hmin,htk] at hr5
  have hsp:splice (flt enc l ++ us) ((i+1) * 2) (flt enc (l.drop i))=flt enc (l.take (i+1)) ++ flt enc (l.drop i):=by
   have e1:flt enc l ++ us=flt enc (l.take (i+1)) ++ (flt enc (l.drop (i+1)) ++ us):=by rw [<- List.append_assoc,<- flt_app,List.take_append_drop]
   have hd0:(flt enc (l.drop (i+1)) ++ us).drop (flt enc (l.drop i)).length=[]:=List.drop_of_length_le (by rw [List.length_append,h0.fl,List.length_drop,hl,hul,hlD]; omega)
   rw [e1,splice_at (by rw [h0.fl,List.length_take,hl,Nat.min_eq_left (by omega)]),hd0,List.append_nil]
  rw [hsp] at hr5
  have f5:Fr (fun k=>b=k) w w5:=((Fr.drew (fun k=>b=k) w).trans1 (f5.mono (fun k _ h=>by simpa [blkOf] using h)))
  refine gd_mk (decide_eq_true (by omega)) (gd_mk (decide_eq_true (by omega)) ?_)
  refine cpy_row hr5 (src_rec (hv.fr f5 (fun h=>hbb h)) hx) (by omega) (by omega) (by rw [Nat.min_eq_left (by omega),Nat.one_mul,htx]; exact ox) (fun w6 hr6 f6=>⟨_,_,rfl,?_,?_,fun k hk=>.inl hk⟩)
  ·exact (f5.trans1 (f6.mono (fun k _ h=>by simpa [blkOf] using h))).mono (fun k _ h=>by rw [h]; rfl)
  ·rw [Nat.min_eq_left (by omega),Nat.one_mul,htx] at hr6
   have e2:l.take (i+1)=l.take i ++ [l[i]'(by omega)]:=by rw [List.take_add_one,List.getElem?_eq_getElem (by omega)]; rfl
   rw [e2,flt_app,flt_one,List.append_assoc,splice_at hlT,hx,List.drop_left' (h0.len _)] at hr6
   exact hr6
end
end Go.Proofs.YtadbakmblklncaaGreatDoor.InsNm
namespace Go.Proofs.YtadbakmblklncaaGreatDoor.DelNm
open Go.GV Go.RowKit
section
variable {β:Type} {enc:β->List Value}
set_option maxHeartbeats 1000000 in
theorem delete_calls (h0:EncO β enc 2) (B:Nat) (A:Option Addr) (n c i:Nat) (l:List β) (w:World) (h:Row w B 110 2 A n c (flt enc l)) (hl:l.length=n) (hi:i < n) (hn:n<=1073741824) {j:Int} (hj:j=((i+1:Nat):Int)) :
  Calls Tryz.prog 143 #[.slice A n c,.int .i64 (i:Nat),.int .i64 j] w fun e w'=>e=.returned (.slice A (n - 1) c)/\Fr (fun k=>blkOf A=some k) w w'/\Row w' B 110 2 A (n - 1) c (flt enc (l.take i ++ l.drop (i+1))):=by
 subst hj
 refine (F143.of A n c _ _ w (Q:=fun v w'=>v=.slice A (n - 1) c/\Fr (fun k=>blkOf A=some k) w w'/\Row w' B 110 2 A (n - 1) c (flt enc (l.take i ++ l.drop (i+1)))) ?_).mono (fun e w' ⟨v,he,hv,h⟩=>⟨by rw [he,hv],h⟩)
 have hle:=h.le
 have hfl:=h0.fl l
 obtain ⟨b,hb⟩:∃ b,A=some ⟨b,0,none⟩:=by
  rcases h.at_ with ⟨_,h0,_⟩ | ⟨b,_,hA,_⟩
  ·omega
  ·exact ⟨b,hA⟩
 subst hb
 have h00:slA (some (⟨b,0,none⟩:Addr)) c 0 2=some ⟨b,0,none⟩:=sl0 _ _ _
 refine gd_mk (decide_eq_true (by omega)) (gd_mk (decide_eq_true (by omega)) (gd_mk (decide_eq_true (by omega)) (gd_mk (decide_eq_true (by omega)) (gd_mk (decide_eq_true (by omega)) (gd_mk (decide_eq_true (by omega)) (vIf_f (by simp; omega) ?_))))))
 refine gd_mk (decide_eq_true (by omega)) (gd_mk (decide_eq_true (by omega)) (gd_mk (decide_eq_true (by omega)) (gd_mk (decide_eq_true (by omega)) ?_)))
 simp only [h00,Int.toNat_natCast]
 have hwd:=(Fr.drew (fun _=>False) w).row h (fun _ _ h=>h)
 have hcut:=row_cutG hwd (k:=i) (by omega)
 have hsD:=hwd.tailS (k:=i+1) (by omega)
 rw [h0.fd l (by omega)] at hsD
 rw [h0.ft l (by omega)] at hcut
 have hnm:i+(n - (i+1))=n - 1:=by omega
 refine app_in hcut hsD.src (by rw [h0.fl,List.length_drop,hl]) (h0.fo _) (by omega) (by omega) (by omega) (fun w5 hr5 f5=>?_)
 rw [hnm] at hr5 ⊢
 rw [<- flt_app] at hr5
 refine gd_mk (decide_eq_true (by omega)) (gd_mk (decide_eq_true (by omega)) (gd_mk (decide_eq_true (by omega)) (gd_mk (decide_eq_true (by omega)) (vIf_f (by simp; omega) ?_))))
 have hs1:slA (some (⟨b,0,none⟩:Addr)) c (n - 1) 2=some ⟨b,(n - 1) * 2,none⟩:=slS (by omega)
 simp only [Int.toNat_natCast]
 rw [hs1,show n - (n - 1)=1 by omega]
 obtain ⟨us,hul,hE⟩:=row_ext hr5 (k:=1) (by omega)
 have hpl:(flt enc (l.take i ++ l.drop (i+1))).length=(n - 1) * 2:=hr5.len
 rw [show n - 1+1=n by omega] at hE
 have hpt:=row_putG (o':=(n - 1) * 2) (us:=zeros 1 ([.string (⟨#[]⟩:ByteArray),.int .i64 0]:List Value)) (K:=fun w'=>True/\Fr (fun k=>blkOf (some (⟨b,0,none⟩:Addr))=some k) w w'/\Row w' B 110 2 (some ⟨b,0,none⟩) (n - 1) c (flt enc (l.take i ++ l.drop (i+1)))) hE (by omega) (by rw [zeros_length]; show (n - 1) * 2+1 * 2<=_; rw [<- Nat.add_mul]; exact Nat.mul_le_mul_right _ (by omega)) (zeros_one (by intro v hv; repeat (first | (cases hv; done) | (rcases List.mem_cons.1 hv with rfl | hv; · rfl)))) (fun w6 hr6 f6=>⟨trivial,((Fr.drew _ w).trans1 f5).trans1 f6,?_⟩)
 ·rw [<- Nat.zero_add ((n - 1) * 2)]
  exact hpt
 ·have h7:=row_cutG hr6 (k:=n - 1) (by omega)
  rw [splice_at hpl,List.append_assoc,<- hpl,List.take_left] at h7
  exact h7
end
end Go.Proofs.YtadbakmblklncaaGreatDoor.DelNm
namespace Go.Proofs.YtadbakmblklncaaGreatDoor.ClnNm
open Go.GV Go.RowKit
theorem clone_calls (A:Option Addr) (n c:Nat) (vs:List Value) (w:World) (h:Sl w 2 A n vs) (ho:∀ v ∈ vs,v.oneCell'=true) (hn:n<=1073741824) :
  Calls Tryz.prog 110 #[.slice A n c] w fun e w'=>Fr (fun _=>False) w w'/\∃ A' c',e=.returned (.slice A' n c')/\Row w' w.heap.size 110 2 A' n c' vs:=by
 refine (F110.of A n c w (Q:=fun v w'=>Fr (fun _=>False) w w'/\∃ A' c',v=.slice A' n c'/\Row w' w.heap.size 110 2 A' n c' vs) ?_).mono (fun e w' ⟨v,he,hf,A',c',hv,h⟩=>⟨hf,A',c',by rw [he,hv],h⟩)
 refine vIf_mk (fun h0=>?_) (fun h0=>nw_mk ?_)
 ·have:n=0:=by
   refine Classical.byContradiction fun hn0=>?_
   obtain ⟨b,o,hA,_⟩:=h.2 hn0
   rw [hA] at h0; cases h0
  subst this
  have:vs=[]:=List.length_eq_zero_iff.1 (by have:=h.1; omega)
  subst this
  exact ⟨Fr.refl _ _,none,0,rfl,Row.nil _ _ _ _⟩
 ·have f1:Fr (fun _=>False) w (w.alloc (.cells ([]:List Value).toArray 110)):=Fr.alloc _ _ _
  have r1:Row (w.alloc (.cells ([]:List Value).toArray 110)) w.heap.size 110 2 (some ⟨w.heap.size,0,none⟩) 0 0 []:=Row.new (Nat.le_refl _) rfl
  have hs:(w.alloc (.cells ([]:List Value).toArray 110)).heap.size=w.heap.size+1:=alloc_size _ _
  generalize w.alloc (.cells ([]:List Value).toArray 110)=w1 at f1 r1 hs ⊢
  refine app_row r1 (f1.sl h (fun _ _ _ h=>h)).src ho rfl (by omega) (by omega) (by omega) (fun A' c' w' hr' f'=>⟨?_,A',c',?_,?_⟩)
  ·exact f1.trans f' (fun _ _ h=>h) (fun k hk h'=>by simp only [blkOf,Option.some.injEq] at h'; omega)
  ·rw [Nat.zero_add]
  ·rw [Nat.zero_add,List.nil_append] at hr'; exact hr'
end Go.Proofs.YtadbakmblklncaaGreatDoor.ClnNm
namespace Go.Proofs.YtadbakmblklncaaGreatDoor.ClnCh
open Go.GV Go.RowKit
theorem clone_calls (A:Option Addr) (n c:Nat) (vs:List Value) (w:World) (h:Sl w 4 A n vs) (ho:∀ v ∈ vs,v.oneCell'=true) (hn:n<=1073741824) :
  Calls Tryz.prog 152 #[.slice A n c] w fun e w'=>Fr (fun _=>False) w w'/\∃ A' c',e=.returned (.slice A' n c')/\Row w' w.heap.size 147 4 A' n c' vs:=by
 refine (F152.of A n c w (Q:=fun v w'=>Fr (fun _=>False) w w'/\∃ A' c',v=.slice A' n c'/\Row w' w.heap.size 147 4 A' n c' vs) ?_).mono (fun e w' ⟨v,he,hf,A',c',hv,h⟩=>⟨hf,A',c',by rw [he,hv],h⟩)
 refine vIf_mk (fun h0=>?_) (fun h0=>nw_mk ?_)
 ·have:n=0:=by
   refine Classical.byContradiction fun hn0=>?_
   obtain ⟨b,o,hA,_⟩:=h.2 hn0
   rw [hA] at h0; cases h0
  subst this
  have:vs=[]:=List.length_eq_zero_iff.1 (by have:=h.1; omega)
  subst this
  exact ⟨Fr.refl _ _,none,0,rfl,Row.nil _ _ _ _⟩
 ·have f1:Fr (fun _=>False) w (w.alloc (.cells ([]:List Value).toArray 147)):=Fr.alloc _ _ _
  have r1:Row (w.alloc (.cells ([]:List Value).toArray 147)) w.heap.size 147 4 (some ⟨w.heap.size,0,none⟩) 0 0 []:=Row.new (Nat.le_refl _) rfl
  have hs:(w.alloc (.cells ([]:List Value).toArray 147)).heap.size=w.heap.size+1:=alloc_size _ _
  generalize w.alloc (.cells ([]:List Value).toArray 147)=w1 at f1 r1 hs ⊢
  refine app_row r1 (f1.sl h (fun _ _ _ h=>h)).src ho rfl (by omega) (by omega) (by omega) (fun A' c' w' hr' f'=>⟨?_,A',c',?_,?_⟩)
  ·exact f1.trans f' (fun _ _ h=>h) (fun k hk h'=>by simp only [blkOf,Option.some.injEq] at h'; omega)
  ·rw [Nat.zero_add]
  ·rw [Nat.zero_add,List.nil_append] at hr'; exact hr'
end Go.Proofs.YtadbakmblklncaaGreatDoor.ClnCh
namespace Go.Proofs.YtadbakmblklncaaGreatDoor.StbNm
open Go.GV Go.RowKit Go.Stb
structure Srt (β:Type) (enc:β->List Value) (cmp:β->β->Int):Prop where
 len:∀ x,(enc x).length=2
 one:∀ x,∀ v ∈ enc x,v.oneCell'=true
 ord:OrdC cmp
 call:∀ x y w,Calls Tryz.prog 112 #[ofL (enc x),ofL (enc y)] w fun e w'=>e=.returned (.int .i64 (cmp x y))/\Fr (fun _=>False) w w'
def cf:Value:=.func (.func 112) #[] #[]
section
variable {β:Type} {enc:β->List Value} {cmp:β->β->Int}
abbrev encT (enc:β->List Value):β×Nat->List Value:=fun x=>enc x.1
theorem Srt.lenT (h:Srt β enc cmp) {l:List (β×Nat)}:∀ x ∈ l,(encT enc x).length=2:=fun x _=>h.len x.1
def RS (enc:β->List Value) (w:World) (B:Nat) (A:Option Addr) (n c:Nat) (l:List (β×Nat)):Prop:=Row w B 110 2 A n c (flt (encT enc) l)/\l.length=n
theorem RS.fr0 {w w':World} {B:Nat} {A:Option Addr} {n c:Nat} {l:List (β×Nat)} (h:RS enc w B A n c l) (f:Fr (fun _=>False) w w'):RS enc w' B A n c l:=⟨f.row h.1 (fun _ _ h=>h),h.2⟩
theorem RS.drew {w:World} {B:Nat} {A:Option Addr} {n c:Nat} {l:List (β×Nat)} (h:RS enc w B A n c l):RS enc w.drew B A n c l:=h.fr0 (Fr.drew _ _)
theorem rs_rd (h0:Srt β enc cmp) {w:World} {B:Nat} {A:Option Addr} {n c:Nat} {l:List (β×Nat)} (h:RS enc w B A n c l) {i:Nat} {x:β×Nat} (hi:l[i]?=some x) {ii:Int} (hii:ii=(i:Int)) {K:List Value->Prop} (hK:K (enc x.1)) :
  dr A fun b o=>gd (decide (0<=ii)) (gd (decide (ii < ((n:Nat):Int))) (ldA 2 w b (o+ii.toNat * 2) K)) :=
 el_rd h.1.sl h0.lenT hi hii h.2 (fun b o hA hc=>⟨enc x.1,h0.len x.1,hc,hK⟩)
theorem rs_swap (h0:Srt β enc cmp) {w:World} {B:Nat} {A:Option Addr} {n c:Nat} {l:List (β×Nat)} (h:RS enc w B A n c l) {i j:Nat} {x y:β×Nat} (hi:i < n) (hj:j < n) {ii jj:Int} (hii:ii=(i:Int)) (hjj:jj=(j:Int)) {K:World->Prop}
  (hK:∀ w',RS enc w' B A n c ((l.set i y).set j x)->Fr (fun k=>blkOf A=some k) w w'->K w') :
  dr A fun b o=>gd (decide (0<=ii)) (gd (decide (ii < ((n:Nat):Int))) (gd ((enc y.1).length == 2) (st w b (o+ii.toNat * 2) (enc y.1) fun w1 =>
   dr A fun b o=>gd (decide (0<=jj)) (gd (decide (jj < ((n:Nat):Int))) (gd ((enc x.1).length == 2) (st w1 b (o+jj.toNat * 2) (enc x.1) K)))))) :=
 el_put (enc:=encT enc) h.1 h0.lenT h.2 hi hii (h0.len y.1) (h0.one y.1) (fun w1 hr1 f1 =>
  el_put (enc:=encT enc) hr1 h0.lenT (by rw [List.length_set]; exact h.2) hj hjj (h0.len x.1) (h0.one x.1) (fun w2 hr2 f2=>hK w2 ⟨hr2,by rw [List.length_set,List.length_set]; exact h.2⟩ (f1.trans1 f2)))
theorem em (i j:Nat) (h1:i < 1099511627776) (h2:j < 1099511627776):IntKind.wrap .i64 (Int.fdiv (IntKind.wrap .u64 (IntKind.wrap .i64 ((i:Int)+(j:Int)))) (2 ^ 1))=(((i+j) / 2:Nat):Int):=by
 rw [i64_id (n:=(i:Int)+(j:Int)) (by omega) (by omega),IntKind.wrap_u64,Int.fdiv_eq_ediv_of_nonneg _ (by decide),i64_id (by omega) (by omega)]; omega
theorem ep (i:Nat) (h:i < 1099511627776):IntKind.wrap .i64 ((i:Int)+1)=((i+1:Nat):Int):=by rw [i64_id (by omega) (by omega)]; rfl
theorem ea (i j:Nat) (h1:i < 1099511627776) (h2:j < 1099511627776):IntKind.wrap .i64 ((i:Int)+(j:Int))=((i+j:Nat):Int):=by rw [i64_id (by omega) (by omega)]; rfl
theorem es (i j:Nat) (h1:i < 1099511627776) (h2:j<=i):IntKind.wrap .i64 ((i:Int) - (j:Int))=((i - j:Nat):Int):=by rw [i64_id (by omega) (by omega)]; omega
theorem e1 (i:Nat) (h1:i < 1099511627776) (h2:1<=i):IntKind.wrap .i64 ((i:Int) - 1)=((i - 1:Nat):Int):=by rw [i64_id (by omega) (by omega)]; omega
theorem swapRange_calls (h0:Srt β enc cmp) (B:Nat) (A:Option Addr) (n c:Nat) (P X Y Z S:List (β×Nat)) (w:World) (h:RS enc w B A n c (P ++ X ++ Y ++ Z ++ S)) (hXZ:X.length=Z.length) (hn:n < 549755813888) {a b m:Int} (ha:a=((P.length:Nat):Int)) (hb:b=((P.length+X.length+Y.length:Nat):Int)) (hm:m=((X.length:Nat):Int)) :
  Calls Tryz.prog 171 #[.slice A n c,.int .i64 a,.int .i64 b,.int .i64 m,cf] w fun e w'=>e=.returned (.tuple #[])/\Fr (fun k=>blkOf A=some k) w w'/\RS enc w' B A n c (P ++ Z ++ Y ++ X ++ S):=by
 subst ha; subst hb; subst hm
 refine (F171s.of A n c _ _ _ w (Q:=fun v w'=>v=.tuple #[]/\Fr (fun k=>blkOf A=some k) w w'/\RS enc w' B A n c (P ++ Z ++ Y ++ X ++ S)) ?_).mono (fun e w' ⟨v,he,hv,h⟩=>⟨by rw [he,hv],h⟩)
 have hlen:=h.2
 simp only [List.length_append] at hlen
 refine jnC_mk (loop_rule (fun s u=>Fr (fun k=>blkOf A=some k) w u/\∃ (k:Nat) (X1 X2 Z1 Z2:List (β×Nat)),X=X1 ++ X2/\Z=Z1 ++ Z2/\X1.length=k/\Z1.length=k/\s=((A,n,c),((P.length:Nat):Int),((P.length+X.length+Y.length:Nat):Int),((X.length:Nat):Int),(k:Int),())/\RS enc u B A n c (P ++ Z1 ++ X2 ++ Y ++ X1 ++ Z2 ++ S))
  (fun s _=>(X.length - s.2.2.2.2.1).toNat) ?_ _ _ ⟨Fr.refl _ _,0,[],X,[],Z,rfl,rfl,rfl,rfl,rfl,by simpa using h⟩)
 rintro s u C ⟨hf,k,X1,X2,Z1,Z2,hX,hZ,hx1,hz1,rfl,hr⟩ hC _
 have hXl:X.length=X1.length+X2.length:=by rw [hX,List.length_append]
 have hZl:Z.length=Z1.length+Z2.length:=by rw [hZ,List.length_append]
 refine vIf_mk (fun hlt=>?_) (fun hge=>?_)
 ·have hlt2:(k:Int) < (X.length:Int):=of_decide_eq_true hlt
  obtain ⟨x,X2',rfl⟩:∃ x X2',X2=x :: X2':=by
   cases X2 with
   | nil=>simp at hXl; omega
   | cons x r=>exact ⟨x,r,rfl⟩
  obtain ⟨z,Z2',rfl⟩:∃ z Z2',Z2=z :: Z2':=by
   cases Z2 with
   | nil=>simp at hZl; omega
   | cons x r=>exact ⟨x,r,rfl⟩
  simp only [List.length_cons] at hXl hZl
  have ea1:IntKind.wrap .i64 (((P.length:Nat):Int)+(k:Int))=((P.length+k:Nat):Int):=ea _ _ (by omega) (by omega)
  have eb1:IntKind.wrap .i64 (((P.length+X.length+Y.length:Nat):Int)+(k:Int))=((P.length+X.length+Y.length+k:Nat):Int):=ea _ _ (by omega) (by omega)
  have hr:=hr.drew
  have fd:Fr (fun k=>blkOf A=some k) w u.drew:=hf.trans1 (Fr.drew _ _)
  have hl1:P ++ Z1 ++ (x :: X2') ++ Y ++ X1 ++ (z :: Z2') ++ S=(P ++ Z1) ++ x :: (X2' ++ Y ++ X1 ++ (z :: Z2') ++ S):=by simp
  have hl2:P ++ Z1 ++ (x :: X2') ++ Y ++ X1 ++ (z :: Z2') ++ S=(P ++ Z1 ++ (x :: X2') ++ Y ++ X1) ++ z :: (Z2' ++ S):=by simp
  dsimp only
  refine rs_rd h0 hr (i:=P.length+X.length+Y.length+k) (x:=z) (by rw [hl2]; exact get_mid (by simp; omega)) eb1 ?_
  refine rs_rd h0 hr (i:=P.length+k) (x:=x) (by rw [hl1]; exact get_mid (by simp; omega)) ea1 ?_
  refine rs_swap h0 hr (i:=P.length+k) (j:=P.length+X.length+Y.length+k) (x:=x) (y:=z) (by omega) (by omega) ea1 eb1 (fun w' hr' f'=>jnC_mk (hC _ _ ⟨fd.trans1 f',k+1,X1 ++ [x],X2',Z1 ++ [z],Z2',by rw [hX]; simp,by rw [hZ]; simp,by simp [hx1],by simp [hz1],by rw [ep k (by omega)],?_⟩ ?_))
  ·rw [hl1,set_mid (by simp; omega)] at hr'
   have hl3:(P ++ Z1) ++ z :: (X2' ++ Y ++ X1 ++ (z :: Z2') ++ S)=(P ++ Z1 ++ z :: (X2' ++ Y ++ X1)) ++ z :: (Z2' ++ S):=by simp
   rw [hl3,set_mid (by simp; omega)] at hr'
   have hl4:(P ++ Z1 ++ z :: (X2' ++ Y ++ X1)) ++ x :: (Z2' ++ S)=P ++ (Z1 ++ [z]) ++ X2' ++ Y ++ (X1 ++ [x]) ++ Z2' ++ S:=by simp
   rw [hl4] at hr'
   exact hr'
  ·show ((X.length:Int) - IntKind.wrap .i64 ((k:Int)+1)).toNat < ((X.length:Int) - (k:Int)).toNat
   rw [ep k (by omega)]; omega
 ·have hge2:¬ (k:Int) < (X.length:Int):=of_decide_eq_false hge
  have hx2:X2=[]:=List.length_eq_zero_iff.1 (by omega)
  have hz2:Z2=[]:=List.length_eq_zero_iff.1 (by omega)
  subst hx2; subst hz2
  simp only [List.append_nil] at hX hZ hr
  subst hX; subst hZ
  exact ⟨rfl,hf,hr⟩
theorem rotate_calls (h0:Srt β enc cmp) (B:Nat) (A:Option Addr) (n c:Nat) (P X Y S:List (β×Nat)) (w:World) (h:RS enc w B A n c (P ++ X ++ Y ++ S)) (hX:X ≠ []) (hY:Y ≠ []) (hn:n < 549755813888) {a m b:Int} (ha:a=((P.length:Nat):Int)) (hm:m=((P.length+X.length:Nat):Int)) (hb:b=((P.length+X.length+Y.length:Nat):Int)) :
  Calls Tryz.prog 169 #[.slice A n c,.int .i64 a,.int .i64 m,.int .i64 b,cf] w fun e w'=>e=.returned (.tuple #[])/\Fr (fun k=>blkOf A=some k) w w'/\RS enc w' B A n c (P ++ Y ++ X ++ S):=by
 subst ha; subst hm; subst hb
 refine (F169s.of A n c _ _ _ w (Q:=fun v w'=>v=.tuple #[]/\Fr (fun k=>blkOf A=some k) w w'/\RS enc w' B A n c (P ++ Y ++ X ++ S)) ?_).mono (fun e w' ⟨v,he,hv,h⟩=>⟨by rw [he,hv],h⟩)
 have hlen:=h.2
 simp only [List.length_append] at hlen
 have hX0:X.length ≠ 0:=fun h=>hX (List.length_eq_zero_iff.1 h)
 have hY0:Y.length ≠ 0:=fun h=>hY (List.length_eq_zero_iff.1 h)
 have eX:IntKind.wrap .i64 (((P.length+X.length:Nat):Int) - ((P.length:Nat):Int))=((X.length:Nat):Int):=by rw [es _ _ (by omega) (by omega),Nat.add_sub_cancel_left]
 have eY:IntKind.wrap .i64 (((P.length+X.length+Y.length:Nat):Int) - ((P.length+X.length:Nat):Int))=((Y.length:Nat):Int):=by rw [es _ _ (by omega) (by omega),Nat.add_sub_cancel_left]
 refine jnC_mk (loop_rule (fun s u=>Fr (fun k=>blkOf A=some k) w u/\∃ (P' X' Y' S':List (β×Nat)),X' ≠ []/\Y' ≠ []/\P'.length+X'.length=P.length+X.length/\P' ++ Y' ++ X' ++ S'=P ++ Y ++ X ++ S/\s=((A,n,c),((P.length+X.length:Nat):Int),(),((X'.length:Nat):Int),((Y'.length:Nat):Int),())/\RS enc u B A n c (P' ++ X' ++ Y' ++ S'))
  (fun s _=>(s.2.2.2.1+s.2.2.2.2.1).toNat) ?_ _ _ ⟨Fr.refl _ _,P,X,Y,S,hX,hY,rfl,rfl,by rw [eX,eY],h⟩)
 rintro s u C ⟨hf,P',X',Y',S',hX',hY',hpx,htot,rfl,hr⟩ hC _
 have hX1:X'.length ≠ 0:=fun h=>hX' (List.length_eq_zero_iff.1 h)
 have hY1:Y'.length ≠ 0:=fun h=>hY' (List.length_eq_zero_iff.1 h)
 have hl:=hr.2
 simp only [List.length_append] at hl
 have em1:IntKind.wrap .i64 (((P.length+X.length:Nat):Int) - ((X'.length:Nat):Int))=((P'.length:Nat):Int):=by rw [es _ _ (by omega) (by omega)]; congr 1; omega
 refine vIf_mk (fun hne=>vIf_mk (fun hgt=>?_) (fun hle=>?_)) (fun heq=>?_)
 ·have hgt2:(X'.length:Int) > (Y'.length:Int):=of_decide_eq_true hgt
  obtain ⟨U,V,hUV,hU⟩:∃ U V,X'=U ++ V/\U.length=Y'.length:=⟨X'.take Y'.length,X'.drop Y'.length,(List.take_append_drop _ _).symm,by rw [List.length_take]; omega⟩
  have hVl:X'.length=U.length+V.length:=by rw [hUV,List.length_append]
  have hr2:RS enc u B A n c (P' ++ U ++ V ++ Y' ++ S'):=by
   rw [hUV] at hr
   simpa using hr
  refine (swapRange_calls h0 B A n c P' U V Y' S' u hr2 hU hn em1 (by rw [Nat.add_assoc P'.length,<- hVl]; exact congrArg _ hpx.symm) (by rw [hU])).mono ?_
  rintro r u2 ⟨rfl,f2,hr3⟩
  refine ⟨rfl,jnC_mk (hC _ _ ⟨hf.trans1 f2,P' ++ Y',V,U,S',?_,?_,?_,?_,?_,?_⟩ ?_)⟩
  ·intro h; rw [h] at hVl; simp at hVl; omega
  ·intro h; rw [h] at hU; simp at hU; omega
  ·simp only [List.length_append]; omega
  ·rw [<- htot,hUV]; simp
  ·show (_,_,_,IntKind.wrap .i64 ((X'.length:Int) - (Y'.length:Int)),_,())=_
   rw [es _ _ (by omega) (by omega),hU,show X'.length - Y'.length=V.length by omega]
  ·exact hr3
  ·show (IntKind.wrap .i64 ((X'.length:Int) - (Y'.length:Int))+(Y'.length:Int)).toNat < ((X'.length:Int)+(Y'.length:Int)).toNat
   rw [es _ _ (by omega) (by omega)]; omega
 ·have hle2:¬ (X'.length:Int) > (Y'.length:Int):=of_decide_eq_false hle
  have hne2:X'.length ≠ Y'.length:=by
   have hne:((X'.length:Int) != (Y'.length:Int))=true:=hne
   intro h; rw [h] at hne; simp at hne
  obtain ⟨U,V,hUV,hV⟩:∃ U V,Y'=U ++ V/\V.length=X'.length:=⟨Y'.take (Y'.length - X'.length),Y'.drop (Y'.length - X'.length),(List.take_append_drop _ _).symm,by rw [List.length_drop]; omega⟩
  have hUl:Y'.length=U.length+V.length:=by rw [hUV,List.length_append]
  have hr2:RS enc u B A n c (P' ++ X' ++ U ++ V ++ S'):=by
   rw [hUV] at hr
   simpa using hr
  have eb2:IntKind.wrap .i64 (IntKind.wrap .i64 (((P.length+X.length:Nat):Int)+((Y'.length:Nat):Int)) - ((X'.length:Nat):Int))=((P'.length+X'.length+U.length:Nat):Int):=by
   rw [ea _ _ (by omega) (by omega),es _ _ (by omega) (by omega)]; congr 1; omega
  refine (swapRange_calls h0 B A n c P' X' U V S' u hr2 hV.symm hn em1 eb2 rfl).mono ?_
  rintro r u2 ⟨rfl,f2,hr3⟩
  refine ⟨rfl,jnC_mk (hC _ _ ⟨hf.trans1 f2,P',V,U,X' ++ S',?_,?_,?_,?_,?_,?_⟩ ?_)⟩
  ·intro h; rw [h] at hV; simp at hV; omega
  ·intro h; rw [h] at hUl; simp at hUl; omega
  ·omega
  ·rw [<- htot,hUV]; simp
  ·show (_,_,_,_,IntKind.wrap .i64 ((Y'.length:Int) - (X'.length:Int)),())=_
   rw [es _ _ (by omega) (by omega),hV,show Y'.length - X'.length=U.length by omega]
  ·simpa using hr3
  ·show ((X'.length:Int)+IntKind.wrap .i64 ((Y'.length:Int) - (X'.length:Int))).toNat < ((X'.length:Int)+(Y'.length:Int)).toNat
   rw [es _ _ (by omega) (by omega)]; omega
 ·have heq2:X'.length=Y'.length:=by
   have heq:((X'.length:Int) != (Y'.length:Int))=false:=heq
   have:(X'.length:Int)=(Y'.length:Int):=by simpa using heq
   omega
  refine (swapRange_calls h0 B A n c P' X' [] Y' S' u (by simpa using hr) heq2 hn em1 (by simp; omega) rfl).mono ?_
  rintro r u2 ⟨rfl,f2,hr3⟩
  rw [List.append_nil,htot] at hr3
  exact ⟨rfl,rfl,hf.trans1 f2,hr3⟩
end
section
variable {β:Type} {enc:β->List Value} {cmp:β->β->Int}
def Mrg (enc:β->List Value) (cmp:β->β->Int) (w w':World) (B:Nat) (A:Option Addr) (n c:Nat) (P X Y S:List (β×Nat)):Prop :=
 Fr (fun k=>blkOf A=some k) w w'/\∃ M,M.Perm (X ++ Y)/\Sorted cmp M/\RS enc w' B A n c (P ++ M ++ S)
theorem le_lt_le (h:OrdC cmp) {X Y:List (β×Nat)} (hX:Sorted cmp X) (hY:Sorted cmp Y) {k k' l l':Nat} {u u' v v':β×Nat} (hu:X[k]?=some u) (hu':X[k']?=some u') (hk:k<=k') (hv:Y[l]?=some v) (hv':Y[l']?=some v') (hl:l'<=l) (hlt:lt cmp u' v'):lt cmp u v:=by
 have h1:lt cmp u v':=by
  rcases Nat.lt_or_ge k k' with h' | h'
  ·exact lt_trans h (sorted_get h hX hu hu' h') hlt
  ·have:k=k':=by omega
   subst this
   rw [hu] at hu'; injection hu' with hu'; subst hu'; exact hlt
 rcases Nat.lt_or_ge l' l with h' | h'
 ·exact lt_trans h h1 (sorted_get h hY hv' hv h')
 ·have:l=l':=by omega
  subst this
  rw [hv] at hv'; injection hv' with hv'; subst hv'; exact h1
theorem mem_take_at {l:List (β×Nat)} {i:Nat} {x:β×Nat} (h:x ∈ l.take i):∃ j,j < i/\l[j]?=some x:=by
 obtain ⟨j,hj⟩:=List.mem_iff_getElem?.1 h
 rw [List.getElem?_take] at hj
 split at hj
 ·exact ⟨j,by assumption,hj⟩
 ·cases hj
theorem mem_drop_at {l:List (β×Nat)} {i:Nat} {x:β×Nat} (h:x ∈ l.drop i):∃ j,i<=j/\l[j]?=some x:=by
 obtain ⟨j,hj⟩:=List.mem_iff_getElem?.1 h
 rw [List.getElem?_drop] at hj
 exact ⟨i+j,by omega,hj⟩
theorem merge_one (h0:Srt β enc cmp) (B:Nat) (A:Option Addr) (n c:Nat) (P Y S:List (β×Nat)) (x:β×Nat) (w:World) (h:RS enc w B A n c (P ++ x :: Y ++ S)) (hY:Sorted cmp Y) (hb:∀ y ∈ Y,bef x y) (hn:n < 549755813888) :
  F160s.l3 (fun v w'=>v=.tuple #[]/\Mrg enc cmp w w' B A n c P [x] Y S) ((A,n,c),((P.length:Nat):Int),(),((P.length+1:Nat):Int),((P.length+1+Y.length:Nat):Int),()) w:=by
 have hlen:=h.2
 simp only [List.length_append,List.length_cons] at hlen
 have gx:(P ++ x :: Y ++ S)[P.length]?=some x:=by rw [List.append_assoc]; exact get_mid rfl
 refine loop_rule (fun s u=>Fr (fun k=>blkOf A=some k) w u/\RS enc u B A n c (P ++ x :: Y ++ S)/\∃ p q:Nat,p<=q/\q<=Y.length/\(∀ y ∈ Y.take p,lt cmp y x)/\(∀ y ∈ Y.drop q,lt cmp x y)/\s=((A,n,c),((P.length:Nat):Int),(),((P.length+1+p:Nat):Int),((P.length+1+q:Nat):Int),()))
  (fun s _=>(s.2.2.2.2.1 - s.2.2.2.1).toNat) ?_ _ _ ⟨Fr.refl _ _,h,0,Y.length,by omega,by omega,by simp,by simp,rfl⟩
 rintro s u C ⟨hf,hr,p,q,hpq,hqY,hlo,hhi,rfl⟩ hC _
 refine vIf_mk (fun hlt=>?_) (fun hge=>?_)
 ·have hlt2:((P.length+1+p:Nat):Int) < ((P.length+1+q:Nat):Int):=of_decide_eq_true hlt
  have emm:=em (P.length+1+p) (P.length+1+q) (by omega) (by omega)
  have hh:(P.length+1+p+(P.length+1+q)) / 2=P.length+1+(p+q) / 2:=by omega
  rw [hh] at emm
  have gi:Y[(p+q) / 2]?=some (Y[(p+q) / 2]'(by omega)):=List.getElem?_eq_getElem (by omega)
  generalize Y[(p+q) / 2]'(by omega)=y at gi
  have gy:(P ++ x :: Y ++ S)[P.length+1+(p+q) / 2]?=some y:=by
   have:P ++ x :: Y ++ S=(P ++ [x]) ++ (Y ++ S):=by simp
   rw [this,List.getElem?_append_right (by simp),List.getElem?_append_left (by simp; omega)]
   rw [show P.length+1+(p+q) / 2 - (P ++ [x]).length=(p+q) / 2 by simp]; exact gi
  have hym:y ∈ Y:=List.mem_of_getElem? gi
  dsimp only
  rw [emm]
  refine rs_rd h0 hr.drew gy rfl (rs_rd h0 hr.drew gx rfl ((h0.call y.1 x.1 u.drew).mono ?_))
  rintro r u2 ⟨rfl,f2⟩
  have hf2:Fr (fun k=>blkOf A=some k) w u2:=(hf.trans1 (Fr.drew _ _)).trans1 (f2.mono (fun _ _ h=>h.elim))
  refine ⟨_,rfl,vIf_mk (fun h1=>jnC_mk (hC _ _ ⟨hf2,hr.drew.fr0 f2,(p+q) / 2+1,q,by omega,hqY,fun z hz=>?_,hhi,by rw [ep _ (by omega)]; rfl⟩ ?_)) (fun h1=>jnC_mk (hC _ _ ⟨hf2,hr.drew.fr0 f2,p,(p+q) / 2,by omega,by omega,hlo,fun z hz=>?_,rfl⟩ ?_))⟩
  ·have h1:=bef_yes h0.ord (hb y hym) (of_decide_eq_true h1)
   obtain ⟨j,hj,hz⟩:=mem_take_at hz
   by_cases hjm:j=(p+q) / 2
   ·subst hjm; rw [gi] at hz; injection hz with hz; subst hz; exact h1
   ·exact lt_trans h0.ord (sorted_get h0.ord hY hz gi (by omega)) h1
  ·show (((P.length+1+q:Nat):Int) - IntKind.wrap .i64 (((P.length+1+(p+q) / 2:Nat):Int)+1)).toNat < (((P.length+1+q:Nat):Int) - ((P.length+1+p:Nat):Int)).toNat
   rw [ep _ (by omega)]; omega
  ·have h1:=bef_no h0.ord (hb y hym) (of_decide_eq_false h1)
   obtain ⟨j,hj,hz⟩:=mem_drop_at hz
   by_cases hjm:j=(p+q) / 2
   ·subst hjm; rw [gi] at hz; injection hz with hz; subst hz; exact h1
   ·exact lt_trans h0.ord h1 (sorted_get h0.ord hY gi hz (by omega))
  ·show (((P.length+1+(p+q) / 2:Nat):Int) - ((P.length+1+p:Nat):Int)).toNat < (((P.length+1+q:Nat):Int) - ((P.length+1+p:Nat):Int)).toNat
   omega
 ·have hge2:¬ ((P.length+1+p:Nat):Int) < ((P.length+1+q:Nat):Int):=of_decide_eq_false hge
  have hpq2:q=p:=by omega
  subst hpq2
  clear hC
  have hYs:=List.take_append_drop q Y
  have hs2:=hY
  rw [<- hYs] at hs2
  obtain ⟨hs21,hs22,hs23⟩:=sorted_of_app hs2
  have htl:(Y.take q).length=q:=by rw [List.length_take]; omega
  refine jnC_mk (loop_rule (fun s v=>Fr (fun k=>blkOf A=some k) w v/\∃ U V:List (β×Nat),U ++ V=Y.take q/\s=((A,n,c),((P.length+1+q:Nat):Int),((P.length+U.length:Nat):Int),())/\RS enc v B A n c (P ++ U ++ x :: V ++ Y.drop q ++ S))
   (fun s _=>(P.length+1+q - s.2.2.1).toNat) ?_ _ _ ⟨hf,[],Y.take q,rfl,rfl,by
    have:P ++ [] ++ x :: Y.take q ++ Y.drop q ++ S=P ++ x :: Y ++ S:=by
     conv=>rhs; rw [<- hYs]
     simp
    rw [this]; exact hr⟩)
  rintro s v C ⟨hfv,U,V,hUV,rfl,hrv⟩ hC _
  have hUVl:U.length+V.length=q:=by rw [<- htl,<- hUV,List.length_append]
  have e0:IntKind.wrap .i64 (((P.length+1+q:Nat):Int) - 1)=((P.length+q:Nat):Int):=by rw [e1 _ (by omega) (by omega)]; congr 1; omega
  refine vIf_mk (fun hlt=>?_) (fun hge=>?_)
  ·have hlt2:((P.length+U.length:Nat):Int) < IntKind.wrap .i64 (((P.length+1+q:Nat):Int) - 1):=of_decide_eq_true hlt
   rw [e0] at hlt2
   obtain ⟨y,V',rfl⟩:∃ y V',V=y :: V':=by
    cases V with
    | nil=>simp at hUVl; omega
    | cons y r=>exact ⟨y,r,rfl⟩
   have l1:P ++ U ++ x :: (y :: V') ++ Y.drop q ++ S=(P ++ U) ++ x :: (y :: V' ++ Y.drop q ++ S):=by simp
   have l2:P ++ U ++ x :: (y :: V') ++ Y.drop q ++ S=(P ++ U ++ [x]) ++ y :: (V' ++ Y.drop q ++ S):=by simp
   have ek:IntKind.wrap .i64 (((P.length+U.length:Nat):Int)+1)=((P.length+U.length+1:Nat):Int):=ep _ (by omega)
   refine rs_rd h0 hrv.drew (i:=P.length+U.length+1) (x:=y) (by rw [l2]; exact get_mid (by simp; omega)) ek (rs_rd h0 hrv.drew (i:=P.length+U.length) (x:=x) (by rw [l1]; exact get_mid (by simp)) rfl ?_)
   refine rs_swap h0 hrv.drew (i:=P.length+U.length) (j:=P.length+U.length+1) (by omega) (by omega) rfl ek (fun w' hr' f'=>jnC_mk (hC _ _ ⟨(hfv.trans1 (Fr.drew _ _)).trans1 f',U ++ [y],V',by rw [<- hUV]; simp,?_,?_⟩ ?_))
   ·show (_,_,IntKind.wrap .i64 (((P.length+U.length:Nat):Int)+1),())=_
    rw [ek]; simp; omega
   ·rw [l1,set_mid (by simp)] at hr'
    have l3:(P ++ U) ++ y :: (y :: V' ++ Y.drop q ++ S)=(P ++ U ++ [y]) ++ y :: (V' ++ Y.drop q ++ S):=by simp
    rw [l3,set_mid (by simp; omega)] at hr'
    have l4:(P ++ U ++ [y]) ++ x :: (V' ++ Y.drop q ++ S)=P ++ (U ++ [y]) ++ x :: V' ++ Y.drop q ++ S:=by simp
    rw [l4] at hr'; exact hr'
   ·show (((P.length:Nat):Int)+1+((q:Nat):Int) - IntKind.wrap .i64 (((P.length+U.length:Nat):Int)+1)).toNat < (((P.length:Nat):Int)+1+((q:Nat):Int) - ((P.length+U.length:Nat):Int)).toNat
    rw [ek]; omega
  ·have hge2:¬ ((P.length+U.length:Nat):Int) < IntKind.wrap .i64 (((P.length+1+q:Nat):Int) - 1):=of_decide_eq_false hge
   rw [e0] at hge2
   have hV:V=[]:=List.length_eq_zero_iff.1 (by omega)
   subst hV
   rw [List.append_nil] at hUV
   subst hUV
   refine ⟨rfl,hfv,Y.take q ++ ([x] ++ Y.drop q),?_,sorted_app hs21 (sorted_app (List.pairwise_singleton _ _) hs22 (fun u hu v hv=>by simp at hu; subst hu; exact hhi v hv)) (fun u hu v hv=>?_),by simpa using hrv⟩
   ·conv=>rhs; rw [<- hYs]
    exact List.perm_append_comm_assoc _ _ _
   ·rcases List.mem_append.1 hv with hv | hv
    ·simp at hv; subst hv; exact hlo u hu
    ·exact hs23 u hu v hv
theorem merge_last (h0:Srt β enc cmp) (B:Nat) (A:Option Addr) (n c:Nat) (P X S:List (β×Nat)) (y:β×Nat) (w:World) (h:RS enc w B A n c (P ++ X ++ y :: S)) (hX:Sorted cmp X) (hb:∀ x ∈ X,bef x y) (hn:n < 549755813888) :
  F160s.l15 (fun v w'=>v=.tuple #[]/\Mrg enc cmp w w' B A n c P X [y] S) ((A,n,c),((P.length+X.length:Nat):Int),(),((P.length:Nat):Int),((P.length+X.length:Nat):Int),()) w:=by
 have hlen:=h.2
 simp only [List.length_append,List.length_cons] at hlen
 have gy:(P ++ X ++ y :: S)[P.length+X.length]?=some y:=get_mid (by simp)
 refine loop_rule (fun s u=>Fr (fun k=>blkOf A=some k) w u/\RS enc u B A n c (P ++ X ++ y :: S)/\∃ p q:Nat,p<=q/\q<=X.length/\(∀ x ∈ X.take p,lt cmp x y)/\(∀ x ∈ X.drop q,lt cmp y x)/\s=((A,n,c),((P.length+X.length:Nat):Int),(),((P.length+p:Nat):Int),((P.length+q:Nat):Int),()))
  (fun s _=>(s.2.2.2.2.1 - s.2.2.2.1).toNat) ?_ _ _ ⟨Fr.refl _ _,h,0,X.length,by omega,by omega,by simp,by simp,rfl⟩
 rintro s u C ⟨hf,hr,p,q,hpq,hqX,hlo,hhi,rfl⟩ hC _
 refine vIf_mk (fun hlt=>?_) (fun hge=>?_)
 ·have hlt2:((P.length+p:Nat):Int) < ((P.length+q:Nat):Int):=of_decide_eq_true hlt
  have emm:=em (P.length+p) (P.length+q) (by omega) (by omega)
  have hh:(P.length+p+(P.length+q)) / 2=P.length+(p+q) / 2:=by omega
  rw [hh] at emm
  have gi:X[(p+q) / 2]?=some (X[(p+q) / 2]'(by omega)):=List.getElem?_eq_getElem (by omega)
  generalize X[(p+q) / 2]'(by omega)=x at gi
  have gx:(P ++ X ++ y :: S)[P.length+(p+q) / 2]?=some x:=by
   rw [List.append_assoc,List.getElem?_append_right (by omega),List.getElem?_append_left (by omega),Nat.add_sub_cancel_left]; exact gi
  have hxm:x ∈ X:=List.mem_of_getElem? gi
  dsimp only
  rw [emm]
  refine rs_rd h0 hr.drew gy rfl (rs_rd h0 hr.drew gx rfl ((h0.call y.1 x.1 u.drew).mono ?_))
  rintro r u2 ⟨rfl,f2⟩
  have hf2:Fr (fun k=>blkOf A=some k) w u2:=(hf.trans1 (Fr.drew _ _)).trans1 (f2.mono (fun _ _ h=>h.elim))
  refine ⟨_,rfl,vIf_mk (fun h1=>jnC_mk (hC _ _ ⟨hf2,hr.drew.fr0 f2,(p+q) / 2+1,q,by omega,hqX,fun z hz=>?_,hhi,by rw [ep _ (by omega)]; rfl⟩ ?_)) (fun h1=>jnC_mk (hC _ _ ⟨hf2,hr.drew.fr0 f2,p,(p+q) / 2,by omega,by omega,hlo,fun z hz=>?_,rfl⟩ ?_))⟩
  ·have h1:¬ cmp y.1 x.1 < 0:=by simpa using h1
   have h1:=bef_no h0.ord (hb x hxm) h1
   obtain ⟨j,hj,hz⟩:=mem_take_at hz
   by_cases hjm:j=(p+q) / 2
   ·subst hjm; rw [gi] at hz; injection hz with hz; subst hz; exact h1
   ·exact lt_trans h0.ord (sorted_get h0.ord hX hz gi (by omega)) h1
  ·show (((P.length+q:Nat):Int) - IntKind.wrap .i64 (((P.length+(p+q) / 2:Nat):Int)+1)).toNat < (((P.length+q:Nat):Int) - ((P.length+p:Nat):Int)).toNat
   rw [ep _ (by omega)]; omega
  ·have h1:cmp y.1 x.1 < 0:=by simpa using h1
   have h1:=bef_yes h0.ord (hb x hxm) h1
   obtain ⟨j,hj,hz⟩:=mem_drop_at hz
   by_cases hjm:j=(p+q) / 2
   ·subst hjm; rw [gi] at hz; injection hz with hz; subst hz; exact h1
   ·exact lt_trans h0.ord h1 (sorted_get h0.ord hX gi hz (by omega))
  ·show (((P.length+(p+q) / 2:Nat):Int) - ((P.length+p:Nat):Int)).toNat < (((P.length+q:Nat):Int) - ((P.length+p:Nat):Int)).toNat
   omega
 ·have hge2:¬ ((P.length+p:Nat):Int) < ((P.length+q:Nat):Int):=of_decide_eq_false hge
  have hpq2:q=p:=by omega
  subst hpq2
  clear hC
  have hXs:=List.take_append_drop q X
  have hs2:=hX
  rw [<- hXs] at hs2
  obtain ⟨hs21,hs22,hs23⟩:=sorted_of_app hs2
  have htl:(X.take q).length=q:=by rw [List.length_take]; omega
  have hdl:(X.drop q).length=X.length - q:=List.length_drop
  refine jnC_mk (loop_rule (fun s v=>Fr (fun k=>blkOf A=some k) w v/\∃ U V:List (β×Nat),U ++ V=X.drop q/\s=((A,n,c),((P.length+q:Nat):Int),((P.length+q+U.length:Nat):Int),())/\RS enc v B A n c (P ++ X.take q ++ U ++ y :: V ++ S))
   (fun s _=>s.2.2.1.toNat) ?_ _ _ ⟨hf,X.drop q,[],by simp,by rw [hdl]; simp; omega,by
    have:P ++ X.take q ++ X.drop q ++ [y] ++ S=P ++ X ++ y :: S:=by
     conv=>rhs; rw [<- hXs]
     simp
    rw [this]; exact hr⟩)
  rintro s v C ⟨hfv,U,V,hUV,rfl,hrv⟩ hC _
  have hUVl:U.length+V.length=X.length - q:=by rw [<- hdl,<- hUV,List.length_append]
  refine vIf_mk (fun hlt=>?_) (fun hge=>?_)
  ·have hlt2:((P.length+q+U.length:Nat):Int) > ((P.length+q:Nat):Int):=of_decide_eq_true hlt
   obtain ⟨U',z,rfl⟩:∃ U' z,U=U' ++ [z]:=by
    have hne:U ≠ []:=by intro h; subst h; simp at hlt2
    exact ⟨U.dropLast,U.getLast hne,(List.dropLast_concat_getLast hne).symm⟩
   simp only [List.length_append,List.length_cons,List.length_nil] at hUVl hlt2
   have l1:P ++ X.take q ++ (U' ++ [z]) ++ y :: V ++ S=(P ++ X.take q ++ U') ++ z :: (y :: V ++ S):=by simp
   have l2:P ++ X.take q ++ (U' ++ [z]) ++ y :: V ++ S=(P ++ X.take q ++ (U' ++ [z])) ++ y :: (V ++ S):=by simp
   have ek:IntKind.wrap .i64 (((P.length+q+(U' ++ [z]).length:Nat):Int) - 1)=((P.length+q+U'.length:Nat):Int):=by rw [e1 _ (by simp; omega) (by simp; omega)]; simp only [List.length_append,List.length_cons,List.length_nil]; omega
   refine rs_rd h0 hrv.drew (i:=P.length+q+U'.length) (x:=z) (by rw [l1]; exact get_mid (by simp; omega)) ek (rs_rd h0 hrv.drew (i:=P.length+q+(U' ++ [z]).length) (x:=y) (by rw [l2]; exact get_mid (by simp; omega)) rfl ?_)
   refine rs_swap h0 hrv.drew (i:=P.length+q+(U' ++ [z]).length) (j:=P.length+q+U'.length) (x:=y) (y:=z) (by simp; omega) (by omega) rfl ek (fun w' hr' f'=>jnC_mk (hC _ _ ⟨(hfv.trans1 (Fr.drew _ _)).trans1 f',U',z :: V,by rw [<- hUV]; simp,?_,?_⟩ ?_))
   ·show (_,_,IntKind.wrap .i64 (((P.length+q+(U' ++ [z]).length:Nat):Int) - 1),())=_
    rw [ek]
   ·rw [l2,set_mid (by simp; omega)] at hr'
    have l3:(P ++ X.take q ++ (U' ++ [z])) ++ z :: (V ++ S)=(P ++ X.take q ++ U') ++ z :: (z :: (V ++ S)):=by simp
    rw [l3,set_mid (by simp; omega)] at hr'
    have l4:(P ++ X.take q ++ U') ++ y :: (z :: (V ++ S))=P ++ X.take q ++ U' ++ y :: (z :: V) ++ S:=by simp
    rw [l4] at hr'; exact hr'
   ·show (IntKind.wrap .i64 (((P.length+q+(U' ++ [z]).length:Nat):Int) - 1)).toNat < (((P.length+q+(U' ++ [z]).length:Nat):Int)).toNat
    rw [ek]; simp only [List.length_append,List.length_cons,List.length_nil]; omega
  ·have hge2:¬ ((P.length+q+U.length:Nat):Int) > ((P.length+q:Nat):Int):=of_decide_eq_false hge
   have hU:U=[]:=List.length_eq_zero_iff.1 (by omega)
   subst hU
   rw [List.nil_append] at hUV
   subst hUV
   refine ⟨rfl,hfv,X.take q ++ ([y] ++ X.drop q),?_,sorted_app hs21 (sorted_app (List.pairwise_singleton _ _) hs22 (fun u hu v hv=>by simp at hu; subst hu; exact hhi v hv)) (fun u hu v hv=>?_),by simpa using hrv⟩
   ·conv=>rhs; rw [<- hXs,List.append_assoc]
    exact (List.perm_append_comm).append_left _
   ·rcases List.mem_append.1 hv with hv | hv
    ·simp at hv; subst hv; exact hlo u hu
    ·exact hs23 u hu v hv
end
section
variable {β:Type} {enc:β->List Value} {cmp:β->β->Int}
theorem take_len {l:List (β×Nat)} {k:Nat} (h:k<=l.length):(l.take k).length=k:=by rw [List.length_take]; omega
theorem get_in {P X R:List (β×Nat)} {i j:Nat} {x:β×Nat} (hi:i=P.length+j) (hx:X[j]?=some x):(P ++ X ++ R)[i]?=some x:=by
 have hj:=(List.getElem?_eq_some_iff.1 hx).1
 subst hi
 rw [List.append_assoc,List.getElem?_append_right (by omega),List.getElem?_append_left (by omega),Nat.add_sub_cancel_left]; exact hx
set_option maxHeartbeats 1000000 in
theorem symMerge_calls (h0:Srt β enc cmp) (B:Nat) (A:Option Addr) (n c:Nat) (hn:n < 549755813888):∀ (K:Nat) (P X Y S:List (β×Nat)) (w:World),X.length+Y.length<=K->RS enc w B A n c (P ++ X ++ Y ++ S)->Sorted cmp X->Sorted cmp Y->befC X Y->X ≠ []->Y ≠ []->∀ (a m b:Int),a=((P.length:Nat):Int)->m=((P.length+X.length:Nat):Int)->b=((P.length+X.length+Y.length:Nat):Int) ->
  Calls Tryz.prog 160 #[.slice A n c,.int .i64 a,.int .i64 m,.int .i64 b,cf] w fun e w'=>e=.returned (.tuple #[])/\Mrg enc cmp w w' B A n c P X Y S
 | 0,P,X,Y,S,w,hK,_,_,_,_,hX,_,_,_,_,_,_,_=>absurd (List.length_eq_zero_iff.1 (by omega)) hX
 | K+1,P,X,Y,S,w,hK,h,sX,sY,hb,hX,hY,a,m,b,ha,hm,hbb=>by
  subst ha; subst hm; subst hbb
  have ih:=symMerge_calls h0 B A n c hn K
  refine (F160s.of A n c _ _ _ w (Q:=fun v w'=>v=.tuple #[]/\Mrg enc cmp w w' B A n c P X Y S) ?_).mono (fun e w' ⟨v,he,hv,h⟩=>⟨by rw [he,hv],h⟩)
  have hlen:=h.2
  simp only [List.length_append] at hlen
  have hX0:X.length ≠ 0:=fun h=>hX (List.length_eq_zero_iff.1 h)
  have hY0:Y.length ≠ 0:=fun h=>hY (List.length_eq_zero_iff.1 h)
  have eX:IntKind.wrap .i64 (((P.length+X.length:Nat):Int) - ((P.length:Nat):Int))=((X.length:Nat):Int):=by rw [es _ _ (by omega) (by omega),Nat.add_sub_cancel_left]
  have eY:IntKind.wrap .i64 (((P.length+X.length+Y.length:Nat):Int) - ((P.length+X.length:Nat):Int))=((Y.length:Nat):Int):=by rw [es _ _ (by omega) (by omega),Nat.add_sub_cancel_left]
  have eM:=em P.length (P.length+X.length+Y.length) (by omega) (by omega)
  unfold F160s.vc
  rw [eX,eY,eM]
  generalize hmid:(P.length+(P.length+X.length+Y.length)) / 2=mid at eM ⊢
  have eN:IntKind.wrap .i64 ((mid:Int)+((P.length+X.length:Nat):Int))=((mid+(P.length+X.length):Nat):Int):=ea _ _ (by omega) (by omega)
  rw [eN]
  generalize hN:mid+(P.length+X.length)=N at eN ⊢
  refine vIf_mk (fun h1=>?_) (fun h1=>vIf_mk (fun h2=>?_) (fun h2=>?_))
  ·have h1:X.length=1:=by
    have:((X.length:Nat):Int)=1:=by simpa using h1
    omega
   obtain ⟨x,rfl⟩:=List.length_eq_one_iff.1 h1
   refine jnC_mk ?_
   have:=merge_one h0 B A n c P Y S x w (by simpa using h) sY (fun y hy=>hb x (by simp) y hy) hn
   simpa using this
  ·have h2:Y.length=1:=by
    have:((Y.length:Nat):Int)=1:=by simpa using h2
    omega
   obtain ⟨y,rfl⟩:=List.length_eq_one_iff.1 h2
   refine jnC_mk ?_
   exact merge_last h0 B A n c P X S y w (by simpa using h) sX (fun x hx=>hb x hx y (by simp)) hn
  ·have h1:X.length ≠ 1:=fun h=>by rw [h] at h1; simp at h1
   have h2:Y.length ≠ 1:=fun h=>by rw [h] at h2; simp at h2
   have fin:∀ s0 r0:Nat,P.length<=s0->s0<=r0->r0<=P.length+X.length->r0<=mid->N<=s0+(P.length+X.length+Y.length)->(s0=P.length\/N=s0+(P.length+X.length+Y.length))->(r0=P.length+X.length\/r0=mid) ->
     jnC (F160s.k32 (fun v w'=>v=.tuple #[]/\Mrg enc cmp w w' B A n c P X Y S)) ((A,n,c),((P.length:Nat):Int),((P.length+X.length:Nat):Int),((P.length+X.length+Y.length:Nat):Int),(),(mid:Int),(N:Int),(s0:Int),(r0:Int),()) w:=by
    intro s0 r0 q1 q2 q3 q4 q5 q6 q7
    refine jnC_mk (fun _=>jnC_mk ?_)
    have eP:IntKind.wrap .i64 ((N:Int) - 1)=((N - 1:Nat):Int):=e1 _ (by omega) (by omega)
    dsimp only
    rw [eP]
    refine loop_rule (fun s u=>Fr (fun _=>False) w u/\∃ st r:Nat,s0<=st/\st<=r/\r<=r0/\(∀ c,s0<=c->c < st->∀ u v,X[c - P.length]?=some u->Y[N - 1 - c - (P.length+X.length)]?=some v->lt cmp u v)/\(∀ c,r<=c->c < r0->∀ u v,X[c - P.length]?=some u->Y[N - 1 - c - (P.length+X.length)]?=some v->lt cmp v u) /\
      s=((A,n,c),((P.length:Nat):Int),((P.length+X.length:Nat):Int),((P.length+X.length+Y.length:Nat):Int),(),(mid:Int),(N:Int),(st:Int),(r:Int),((N - 1:Nat):Int),()))
     (fun s _=>(s.2.2.2.2.2.2.2.2.1 - s.2.2.2.2.2.2.2.1).toNat) ?_ _ _ ⟨Fr.refl _ _,s0,r0,by omega,q2,by omega,fun c h1 h2=>by omega,fun c h1 h2=>by omega,rfl⟩
    rintro s u C ⟨hf,st,r,p1,p2,p3,hlo,hhi,rfl⟩ hC _
    have hru:=h.fr0 hf
    refine vIf_mk (fun hlt=>?_) (fun hge=>?_)
    ·have hlt2:(st:Int) < (r:Int):=of_decide_eq_true hlt
     have emm:=em st r (by omega) (by omega)
     generalize hcc:(st+r) / 2=cc at emm
     have epc:IntKind.wrap .i64 (((N - 1:Nat):Int) - (cc:Int))=((N - 1 - cc:Nat):Int):=es _ _ (by omega) (by omega)
     have gu:X[cc - P.length]?=some (X[cc - P.length]'(by omega)):=List.getElem?_eq_getElem (by omega)
     have gv:Y[N - 1 - cc - (P.length+X.length)]?=some (Y[N - 1 - cc - (P.length+X.length)]'(by omega)):=List.getElem?_eq_getElem (by omega)
     generalize X[cc - P.length]'(by omega)=x at gu
     generalize Y[N - 1 - cc - (P.length+X.length)]'(by omega)=y at gv
     have hbxy:=hb x (List.mem_of_getElem? gu) y (List.mem_of_getElem? gv)
     dsimp only
     rw [emm,epc]
     refine rs_rd h0 hru.drew (i:=N - 1 - cc) (x:=y) (get_in (P:=P ++ X) (X:=Y) (R:=S) (j:=N - 1 - cc - (P.length+X.length)) (by simp; omega) gv) rfl (rs_rd h0 hru.drew (i:=cc) (x:=x) (by
      have:P ++ X ++ Y ++ S=P ++ X ++ (Y ++ S):=by simp
      rw [this]; exact get_in (j:=cc - P.length) (by omega) gu) rfl ((h0.call y.1 x.1 u.drew).mono ?_))
     rintro q u2 ⟨rfl,f2⟩
     have hf2:Fr (fun _=>False) w u2:=(hf.trans1 (Fr.drew _ _)).trans1 f2
     refine ⟨_,rfl,vIf_mk (fun hc=>jnC_mk (hC _ _ ⟨hf2,cc+1,r,by omega,by omega,p3,fun d d1 d2 u v hu hv=>?_,hhi,by rw [ep _ (by omega)]⟩ ?_)) (fun hc=>jnC_mk (hC _ _ ⟨hf2,st,cc,p1,by omega,by omega,hlo,fun d d1 d2 u v hu hv=>?_,rfl⟩ ?_))⟩
     ·have hc:¬ cmp y.1 x.1 < 0:=by simpa using hc
      exact le_lt_le h0.ord sX sY hu gu (by omega) hv gv (by omega) (bef_no h0.ord hbxy hc)
     ·show ((r:Int) - IntKind.wrap .i64 ((cc:Int)+1)).toNat < ((r:Int) - (st:Int)).toNat
      rw [ep _ (by omega)]; omega
     ·have hc:cmp y.1 x.1 < 0:=by simpa using hc
      exact le_lt_le h0.ord sY sX hv gv (by omega) hu gu (by omega) (bef_yes h0.ord hbxy hc)
     ·show ((cc:Int) - (st:Int)).toNat < ((r:Int) - (st:Int)).toNat
      omega
    ·have hge2:¬ (st:Int) < (r:Int):=of_decide_eq_false hge
     have hst:r=st:=by omega
     subst hst
     clear hC
     have eE:IntKind.wrap .i64 ((N:Int) - (r:Int))=((N - r:Nat):Int):=es _ _ (by omega) (by omega)
     dsimp only
     rw [eE]
     have hXs:=List.take_append_drop (r - P.length) X
     have hYs:=List.take_append_drop (N - r - (P.length+X.length)) Y
     have lX1:(X.take (r - P.length)).length=r - P.length:=take_len (by omega)
     have lX2:(X.drop (r - P.length)).length=P.length+X.length - r:=by rw [List.length_drop]; omega
     have lY1:(Y.take (N - r - (P.length+X.length))).length=N - r - (P.length+X.length):=take_len (by omega)
     have lY2:(Y.drop (N - r - (P.length+X.length))).length=P.length+X.length+Y.length - (N - r):=by rw [List.length_drop]; omega
     have D1:∀ x ∈ X.take (r - P.length),∀ y ∈ Y.drop (N - r - (P.length+X.length)),lt cmp x y:=fun x hx y hy=>by
      obtain ⟨k,hk,hx⟩:=mem_take_at hx
      obtain ⟨l,hl,hy⟩:=mem_drop_at hy
      have hl2:=(List.getElem?_eq_some_iff.1 hy).1
      have hr0:s0 < r:=by
       rcases q6 with q6 | q6 <;> omega
      have gu:X[r - 1 - P.length]?=some (X[r - 1 - P.length]'(by omega)):=List.getElem?_eq_getElem (by omega)
      have gv:Y[N - 1 - (r - 1) - (P.length+X.length)]?=some (Y[N - 1 - (r - 1) - (P.length+X.length)]'(by omega)):=List.getElem?_eq_getElem (by omega)
      exact le_lt_le h0.ord sX sY hx gu (by omega) hy gv (by omega) (hlo (r - 1) (by omega) (by omega) _ _ gu gv)
     have D2:∀ y ∈ Y.take (N - r - (P.length+X.length)),∀ x ∈ X.drop (r - P.length),lt cmp y x:=fun y hy x hx=>by
      obtain ⟨k,hk,hx⟩:=mem_drop_at hx
      obtain ⟨l,hl,hy⟩:=mem_take_at hy
      have hk2:=(List.getElem?_eq_some_iff.1 hx).1
      have hr0:r < r0:=by
       rcases q7 with q7 | q7 <;> omega
      have gu:X[r - P.length]?=some (X[r - P.length]'(by omega)):=List.getElem?_eq_getElem (by omega)
      have gv:Y[N - 1 - r - (P.length+X.length)]?=some (Y[N - 1 - r - (P.length+X.length)]'(by omega)):=List.getElem?_eq_getElem (by omega)
      exact le_lt_le h0.ord sY sX hy gv (by omega) hx gu (by omega) (hhi r (by omega) (by omega) _ _ gu gv)
     have sX2:=sX
     have sY2:=sY
     rw [<- hXs] at sX2
     rw [<- hYs] at sY2
     obtain ⟨sA1,sA2,sA⟩:=sorted_of_app sX2
     obtain ⟨sB1,sB2,sB⟩:=sorted_of_app sY2
     have hb11:befC (X.take (r - P.length)) (Y.take (N - r - (P.length+X.length))):=fun x hx y hy=>hb x (List.mem_of_mem_take hx) y (List.mem_of_mem_take hy)
     have hb22:befC (X.drop (r - P.length)) (Y.drop (N - r - (P.length+X.length))):=fun x hx y hy=>hb x (List.mem_of_mem_drop hx) y (List.mem_of_mem_drop hy)
     have hru2:RS enc u B A n c (P ++ X.take (r - P.length) ++ X.drop (r - P.length) ++ Y.take (N - r - (P.length+X.length)) ++ (Y.drop (N - r - (P.length+X.length)) ++ S)):=by
      have:P ++ X.take (r - P.length) ++ X.drop (r - P.length) ++ Y.take (N - r - (P.length+X.length)) ++ (Y.drop (N - r - (P.length+X.length)) ++ S)=P ++ X ++ Y ++ S:=by
       simp only [List.append_assoc]
       rw [<- List.append_assoc (X.take (r - P.length)),hXs,<- List.append_assoc (Y.take (N - r - (P.length+X.length))),hYs]
      rw [this]; exact hru
     have hperm:(X.take (r - P.length) ++ Y.take (N - r - (P.length+X.length)) ++ (X.drop (r - P.length) ++ Y.drop (N - r - (P.length+X.length)))).Perm (X ++ Y):=by
      conv=>rhs; rw [<- hXs,<- hYs]
      simp only [List.append_assoc]
      exact (List.perm_append_comm_assoc _ _ _).append_left _
     generalize X.take (r - P.length)=A1 at lX1 D1 sA1 sA hb11 hru2 hperm hXs
     generalize X.drop (r - P.length)=A2 at lX2 D2 sA2 sA hb22 hru2 hperm hXs
     generalize Y.take (N - r - (P.length+X.length))=B1 at lY1 D2 sB1 sB hb11 hru2 hperm hYs
     generalize Y.drop (N - r - (P.length+X.length))=B2 at lY2 D1 sB2 sB hb22 hru2 hperm hYs
     have last:∀ (v:World) (M1 M2:List (β×Nat)),Fr (fun k=>blkOf A=some k) w v->M1.Perm (A1 ++ B1)->Sorted cmp M1->M2.Perm (A2 ++ B2)->Sorted cmp M2->RS enc v B A n c (P ++ M1 ++ M2 ++ S)->Value.tuple #[]=Value.tuple #[]/\Mrg enc cmp w v B A n c P X Y S:=by
      intro v M1 M2 fv m1 s1 m2 s2 hv
      refine ⟨rfl,fv,M1 ++ M2,(m1.append m2).trans hperm,sorted_app s1 s2 (fun x hx y hy=>?_),by simpa using hv⟩
      rcases List.mem_append.1 (m1.mem_iff.1 hx) with hx | hx <;> rcases List.mem_append.1 (m2.mem_iff.1 hy) with hy | hy
      ·exact sA x hx y hy
      ·exact D1 x hx y hy
      ·exact D2 x hx y hy
      ·exact sB x hx y hy
     have right:∀ (v:World) (M1:List (β×Nat)),Fr (fun k=>blkOf A=some k) w v->M1.Perm (A1 ++ B1)->Sorted cmp M1->RS enc v B A n c (P ++ M1 ++ (A2 ++ B2) ++ S) ->
       jnC (F160s.k43 (fun v w'=>v=.tuple #[]/\Mrg enc cmp w w' B A n c P X Y S)) ((A,n,c),((P.length+X.length+Y.length:Nat):Int),(),(mid:Int),((N - r:Nat):Int),()) v:=by
      intro v M1 fv m1 s1 hv
      have lM1:M1.length=mid - P.length:=by rw [m1.length_eq,List.length_append]; omega
      have k44:∀ bb:Bool,bb=decide (mid < N - r/\N - r < P.length+X.length+Y.length)->jnC (F160s.k44 (fun v w'=>v=.tuple #[]/\Mrg enc cmp w w' B A n c P X Y S)) ((A,n,c),((P.length+X.length+Y.length:Nat):Int),(),(mid:Int),((N - r:Nat):Int),bb,()) v:=by
       intro bb hbb
       refine jnC_mk (fun _=>vIf_mk (fun h1=>?_) (fun h1=>?_))
       ·have h1:bb=true:=h1
        rw [h1] at hbb
        have hh:=of_decide_eq_true hbb.symm
        refine (ih (P ++ M1) A2 B2 S v (by omega) (by simpa using hv) sA2 sB2 hb22 (fun h=>by rw [h] at lX2; simp at lX2; omega) (fun h=>by rw [h] at lY2; simp at lY2; omega) (mid:Int) ((N - r:Nat):Int) ((P.length+X.length+Y.length:Nat):Int) (by rw [List.length_append]; omega) (by rw [List.length_append]; omega) (by rw [List.length_append]; omega)).mono ?_
        rintro q v2 ⟨rfl,f2,M2,m2,s2,hv2⟩
        exact ⟨rfl,last v2 M1 M2 (fv.trans1 f2) m1 s1 m2 s2 (by simpa using hv2)⟩
       ·have h1:bb=false:=h1
        rw [h1] at hbb
        have hh:=of_decide_eq_false hbb.symm
        refine last v M1 (A2 ++ B2) fv m1 s1 (List.Perm.refl _) ?_ (by simpa using hv)
        rcases Nat.lt_or_ge mid (N - r) with hh2 | hh2
        ·have:B2=[]:=List.length_eq_zero_iff.1 (by omega)
         rw [this,List.append_nil]; exact sA2
        ·have:A2=[]:=List.length_eq_zero_iff.1 (by omega)
         rw [this,List.nil_append]; exact sB2
      refine jnC_mk (fun _=>vIf_mk (fun h1=>k44 _ ?_) (fun h1=>k44 _ ?_))
      ·have h1:(mid:Int) < ((N - r:Nat):Int):=of_decide_eq_true h1
       apply decide_eq_decide.2
       show ((N - r:Nat):Int) < ((P.length+X.length+Y.length:Nat):Int) ↔ _
       omega
      ·have h1:¬ (mid:Int) < ((N - r:Nat):Int):=of_decide_eq_false h1
       rw [decide_eq_false (fun h=>h1 (by omega))]
     have left:∀ (v:World),Fr (fun k=>blkOf A=some k) w v->RS enc v B A n c (P ++ (A1 ++ B1) ++ (A2 ++ B2) ++ S) ->
       jnC (F160s.k41 (fun v w'=>v=.tuple #[]/\Mrg enc cmp w w' B A n c P X Y S)) ((A,n,c),((P.length:Nat):Int),((P.length+X.length+Y.length:Nat):Int),(),(mid:Int),(r:Int),((N - r:Nat):Int),()) v:=by
      intro v fv hv
      have k42:∀ bb:Bool,bb=decide (P.length < r/\r < mid)->jnC (F160s.k42 (fun v w'=>v=.tuple #[]/\Mrg enc cmp w w' B A n c P X Y S)) ((A,n,c),((P.length:Nat):Int),((P.length+X.length+Y.length:Nat):Int),(),(mid:Int),(r:Int),((N - r:Nat):Int),bb,()) v:=by
       intro bb hbb
       refine jnC_mk (fun _=>vIf_mk (fun h1=>?_) (fun h1=>?_))
       ·have h1:bb=true:=h1
        rw [h1] at hbb
        have hh:=of_decide_eq_true hbb.symm
        refine (ih P A1 B1 (A2 ++ B2 ++ S) v (by omega) (by simpa using hv) sA1 sB1 hb11 (fun h=>by rw [h] at lX1; simp at lX1; omega) (fun h=>by rw [h] at lY1; simp at lY1; omega) ((P.length:Nat):Int) (r:Int) (mid:Int) rfl (by omega) (by omega)).mono ?_
        rintro q v2 ⟨rfl,f2,M1,m1,s1,hv2⟩
        exact ⟨rfl,right v2 M1 (fv.trans1 f2) m1 s1 (by simpa using hv2)⟩
       ·have h1:bb=false:=h1
        rw [h1] at hbb
        have hh:=of_decide_eq_false hbb.symm
        refine right v (A1 ++ B1) fv (List.Perm.refl _) ?_ hv
        rcases Nat.lt_or_ge P.length r with hh2 | hh2
        ·have:B1=[]:=List.length_eq_zero_iff.1 (by omega)
         rw [this,List.append_nil]; exact sA1
        ·have:A1=[]:=List.length_eq_zero_iff.1 (by omega)
         rw [this,List.nil_append]; exact sB1
      refine jnC_mk (fun _=>vIf_mk (fun h1=>k42 _ ?_) (fun h1=>k42 _ ?_))
      ·have h1:((P.length:Nat):Int) < (r:Int):=of_decide_eq_true h1
       apply decide_eq_decide.2
       show (r:Int) < (mid:Int) ↔ _
       omega
      ·have h1:¬ ((P.length:Nat):Int) < (r:Int):=of_decide_eq_false h1
       rw [decide_eq_false (fun h=>h1 (by omega))]
     have k40:∀ bb:Bool,bb=decide (r < P.length+X.length/\P.length+X.length < N - r)->jnC (F160s.k40 (fun v w'=>v=.tuple #[]/\Mrg enc cmp w w' B A n c P X Y S)) ((A,n,c),((P.length:Nat):Int),((P.length+X.length:Nat):Int),((P.length+X.length+Y.length:Nat):Int),(),(mid:Int),(r:Int),((N - r:Nat):Int),bb,()) u:=by
      intro bb hbb
      have fu:Fr (fun k=>blkOf A=some k) w u:=hf.mono (fun _ _ h=>h.elim)
      refine jnC_mk (fun _=>vIf_mk (fun h1=>?_) (fun h1=>?_))
      ·have h1:bb=true:=h1
       rw [h1] at hbb
       have hh:=of_decide_eq_true hbb.symm
       refine (rotate_calls (a:=(r:Int)) (m:=((P.length+X.length:Nat):Int)) (b:=((N - r:Nat):Int)) h0 B A n c (P ++ A1) A2 B1 (B2 ++ S) u hru2 (fun h=>by rw [h] at lX2; simp at lX2; omega) (fun h=>by rw [h] at lY1; simp at lY1; omega) hn (by rw [List.length_append]; omega) (by rw [List.length_append]; omega) (by rw [List.length_append]; omega)).mono ?_
       rintro q v ⟨rfl,f2,hv⟩
       exact ⟨rfl,left v (fu.trans1 f2) (by simpa using hv)⟩
      ·have h1:bb=false:=h1
       rw [h1] at hbb
       have hh:=of_decide_eq_false hbb.symm
       refine left u fu ?_
       rcases Nat.lt_or_ge r (P.length+X.length) with hh2 | hh2
       ·have:B1=[]:=List.length_eq_zero_iff.1 (by omega)
        rw [this] at hru2 ⊢
        simpa using hru2
       ·have:A2=[]:=List.length_eq_zero_iff.1 (by omega)
        rw [this] at hru2 ⊢
        simpa using hru2
     refine vIf_mk (fun h1=>k40 _ ?_) (fun h1=>k40 _ ?_)
     ·have h1:(r:Int) < ((P.length+X.length:Nat):Int):=of_decide_eq_true h1
      apply decide_eq_decide.2
      omega
     ·have h1:¬ (r:Int) < ((P.length+X.length:Nat):Int):=of_decide_eq_false h1
      rw [decide_eq_false (fun h=>h1 (by omega))]
   refine vIf_mk (fun h3=>?_) (fun h3=>?_)
   ·have h3:((P.length+X.length:Nat):Int) > (mid:Int):=of_decide_eq_true h3
    have eS:IntKind.wrap .i64 ((N:Int) - ((P.length+X.length+Y.length:Nat):Int))=((N - (P.length+X.length+Y.length):Nat):Int):=es _ _ (by omega) (by omega)
    rw [eS]
    exact fin _ _ (by omega) (by omega) (by omega) (by omega) (by omega) (.inr (by omega)) (.inr rfl)
   ·have h3:¬ ((P.length+X.length:Nat):Int) > (mid:Int):=of_decide_eq_false h3
    exact fin _ _ (by omega) (by omega) (by omega) (by omega) (by omega) (.inl rfl) (.inl rfl)
end
section
variable {β:Type} {enc:β->List Value} {cmp:β->β->Int}
def Srted (enc:β->List Value) (cmp:β->β->Int) (w w':World) (B:Nat) (A:Option Addr) (n c:Nat) (P X S:List (β×Nat)):Prop :=
 Fr (fun k=>blkOf A=some k) w w'/\∃ M,M.Perm X/\Sorted cmp M/\RS enc w' B A n c (P ++ M ++ S)
set_option maxHeartbeats 1000000 in
theorem insSort_calls (h0:Srt β enc cmp) (B:Nat) (A:Option Addr) (n c:Nat) (P X S:List (β×Nat)) (w:World) (h:RS enc w B A n c (P ++ X ++ S)) (hb:X.Pairwise bef) (hn:n < 549755813888) {a b:Int} (ha:a=((P.length:Nat):Int)) (hbb:b=((P.length+X.length:Nat):Int)) :
  Calls Tryz.prog 159 #[.slice A n c,.int .i64 a,.int .i64 b,cf] w fun e w'=>e=.returned (.tuple #[])/\Srted enc cmp w w' B A n c P X S:=by
 subst ha; subst hbb
 refine (F159s.of A n c _ _ w (Q:=fun v w'=>v=.tuple #[]/\Srted enc cmp w w' B A n c P X S) ?_).mono (fun e w' ⟨v,he,hv,h⟩=>⟨by rw [he,hv],h⟩)
 have hlen:=h.2
 simp only [List.length_append] at hlen
 by_cases hX0:X=[]
 ·subst hX0
  refine jnC_mk (loop_rule (fun s u=>u=w/\s=((A,n,c),((P.length:Nat):Int),((P.length+([]:List (β×Nat)).length:Nat):Int),(),((P.length+1:Nat):Int),())) (fun _ _=>0) ?_ _ _ ⟨rfl,by rw [ep _ (by omega)]⟩)
  rintro s u C ⟨rfl,rfl⟩ hC _
  refine vIf_f (decide_eq_false ?_) ⟨rfl,Fr.refl _ _,[],List.Perm.refl _,List.Pairwise.nil,h⟩
  show ¬ ((P.length+1:Nat):Int) < ((P.length+([]:List (β×Nat)).length:Nat):Int)
  simp only [List.length_nil]
  omega
 obtain ⟨x0,X0,rfl⟩:∃ x r,X=x :: r:=by
  cases X with
  | nil=>exact absurd rfl hX0
  | cons x r=>exact ⟨x,r,rfl⟩
 refine jnC_mk (loop_rule (fun s u=>Fr (fun k=>blkOf A=some k) w u/\∃ X1 M X2:List (β×Nat),X1 ++ X2=x0 :: X0/\M.Perm X1/\Sorted cmp M/\M ≠ []/\s=((A,n,c),((P.length:Nat):Int),((P.length+(x0 :: X0).length:Nat):Int),(),((P.length+M.length:Nat):Int),())/\RS enc u B A n c (P ++ M ++ X2 ++ S))
  (fun s _=>(P.length+(x0 :: X0).length - s.2.2.2.2.1).toNat) ?_ _ _ ⟨Fr.refl _ _,[x0],[x0],X0,rfl,List.Perm.refl _,List.pairwise_singleton _ _,by simp,by rw [ep _ (by omega)]; rfl,by simpa using h⟩)
 rintro s u C1 ⟨hf,X1,M,X2,hX,hM,sM,hM0,rfl,hr⟩ hC1 _
 have hXl:X1.length+X2.length=(x0 :: X0).length:=by rw [<- hX,List.length_append]
 have hMl:=hM.length_eq
 refine vIf_mk (fun hlt=>?_) (fun hge=>?_)
 ·have hlt2:((P.length+M.length:Nat):Int) < ((P.length+(x0 :: X0).length:Nat):Int):=of_decide_eq_true hlt
  obtain ⟨x,X2',rfl⟩:∃ x r,X2=x :: r:=by
   cases X2 with
   | nil=>simp at hXl hlt2; omega
   | cons x r=>exact ⟨x,r,rfl⟩
  simp only [List.length_cons] at hXl hlt2 hlen
  have hbx:∀ y ∈ M,bef y x:=fun y hy=>by
   rw [<- hX] at hb
   exact (List.pairwise_append.1 hb).2.2 y (hM.mem_iff.1 hy) x (List.mem_cons_self ..)
  have hM1:M.length ≠ 0:=fun h=>hM0 (List.length_eq_zero_iff.1 h)
  refine jnC_mk (loop_rule (fun s v=>Fr (fun k=>blkOf A=some k) w v/\∃ U V:List (β×Nat),U ++ V=M/\(∀ y ∈ V,lt cmp x y)/\s=((A,n,c),((P.length:Nat):Int),((P.length+(x0 :: X0).length:Nat):Int),(),((P.length+M.length:Nat):Int),((P.length+U.length:Nat):Int),())/\RS enc v B A n c (P ++ U ++ x :: V ++ X2' ++ S))
   (fun s _=>s.2.2.2.2.2.1.toNat) ?_ _ _ ⟨hf,M,[],by simp,by simp,rfl,by simpa using hr⟩)
  rintro s v C ⟨hfv,U,V,hUV,hVx,rfl,hrv⟩ hC _
  have hUVl:U.length+V.length=M.length:=by rw [<- hUV,List.length_append]
  have sUV:=sM
  rw [<- hUV] at sUV
  obtain ⟨sU,sV,sUV2⟩:=sorted_of_app sUV
  have next:∀ u2:World,Fr (fun k=>blkOf A=some k) w u2->RS enc u2 B A n c (P ++ U ++ x :: V ++ X2' ++ S)->(∀ y ∈ U,lt cmp y x)->C1 ((A,n,c),((P.length:Nat):Int),((P.length+(x0 :: X0).length:Nat):Int),(),IntKind.wrap .i64 (((P.length+M.length:Nat):Int)+1),()) u2:=by
   intro u2 f2 h2 hUx
   refine hC1 _ _ ⟨f2,X1 ++ [x],U ++ x :: V,X2',by rw [<- hX]; simp,?_,?_,by simp,?_,by simpa using h2⟩ ?_
   ·refine List.perm_middle.trans ?_
    rw [hUV]
    exact (hM.cons x).trans (List.perm_append_singleton _ _).symm
   ·refine sorted_app sU (List.pairwise_cons.2 ⟨hVx,sV⟩) (fun y hy z hz=>?_)
    rcases List.mem_cons.1 hz with rfl | hz
    ·exact hUx y hy
    ·exact sUV2 y hy z hz
   ·have:(U ++ x :: V).length=M.length+1:=by simp; omega
    rw [ep _ (by omega),this]; rfl
   ·show (((P.length:Nat):Int)+(((x0 :: X0).length:Nat):Int) - IntKind.wrap .i64 (((P.length+M.length:Nat):Int)+1)).toNat < (((P.length:Nat):Int)+(((x0 :: X0).length:Nat):Int) - ((P.length+M.length:Nat):Int)).toNat
    rw [ep _ (by omega),List.length_cons]; omega
  have hvd:=hrv.drew
  have fvd:Fr (fun k=>blkOf A=some k) w v.drew:=hfv.trans1 (Fr.drew _ _)
  refine vIf_mk (fun hj=>?_) (fun hj=>?_)
  ·have hj2:((P.length+U.length:Nat):Int) > ((P.length:Nat):Int):=of_decide_eq_true hj
   obtain ⟨U',z,rfl⟩:∃ U' z,U=U' ++ [z]:=by
    have hne:U ≠ []:=by intro h; subst h; simp at hj2
    exact ⟨U.dropLast,U.getLast hne,(List.dropLast_concat_getLast hne).symm⟩
   simp only [List.length_append,List.length_cons,List.length_nil] at hUVl hj2
   have l1:P ++ (U' ++ [z]) ++ x :: V ++ X2' ++ S=(P ++ U') ++ z :: (x :: V ++ X2' ++ S):=by simp
   have l2:P ++ (U' ++ [z]) ++ x :: V ++ X2' ++ S=(P ++ (U' ++ [z])) ++ x :: (V ++ X2' ++ S):=by simp
   have ek:IntKind.wrap .i64 (((P.length+(U' ++ [z]).length:Nat):Int) - 1)=((P.length+U'.length:Nat):Int):=by rw [e1 _ (by simp; omega) (by simp; omega)]; simp only [List.length_append,List.length_cons,List.length_nil]; omega
   have gx:=fun (t:World) (ht:RS enc t B A n c (P ++ (U' ++ [z]) ++ x :: V ++ X2' ++ S)) {K:List Value->Prop} (hK:K (enc x.1))=>rs_rd h0 ht (i:=P.length+(U' ++ [z]).length) (x:=x) (by rw [l2]; exact get_mid (by simp)) rfl hK
   have gz:=fun (t:World) (ht:RS enc t B A n c (P ++ (U' ++ [z]) ++ x :: V ++ X2' ++ S)) {K:List Value->Prop} (hK:K (enc z.1))=>rs_rd h0 ht (i:=P.length+U'.length) (x:=z) (by rw [l1]; exact get_mid (by simp)) ek hK
   refine gx _ hvd (gz _ hvd ((h0.call x.1 z.1 v.drew).mono ?_))
   rintro r v2 ⟨rfl,f2⟩
   have fv2:=fvd.trans1 (f2.mono (T:=fun k=>blkOf A=some k) (fun _ _ h=>h.elim))
   have hv2:=hvd.fr0 f2
   have hzM:z ∈ M:=by rw [<- hUV]; simp
   have hbz:=hbx z hzM
   refine ⟨_,rfl,vIf_mk (fun hc=>jnC_mk (fun _=>?_)) (fun hc=>jnC_mk (next v2 fv2 hv2 (fun y hy=>?_)))⟩
   ·have hxz:=bef_yes h0.ord hbz (of_decide_eq_true hc)
    have hv3:=hv2.drew
    refine gz _ hv3 (gx _ hv3 ?_)
    refine rs_swap h0 hv3 (i:=P.length+(U' ++ [z]).length) (j:=P.length+U'.length) (x:=x) (y:=z) (by simp; omega) (by omega) rfl ek (fun w' hr' f'=>jnC_mk (hC _ _ ⟨(fv2.trans1 (Fr.drew _ _)).trans1 f',U',z :: V,by rw [<- hUV]; simp,fun y hy=>?_,?_,?_⟩ ?_))
    ·rcases List.mem_cons.1 hy with rfl | hy
     ·exact hxz
     ·exact hVx y hy
    ·show (_,_,_,_,_,IntKind.wrap .i64 (((P.length+(U' ++ [z]).length:Nat):Int) - 1),())=_
     rw [ek]
    ·rw [l2,set_mid (by simp)] at hr'
     have l3:(P ++ (U' ++ [z])) ++ z :: (V ++ X2' ++ S)=(P ++ U') ++ z :: (z :: (V ++ X2' ++ S)):=by simp
     rw [l3,set_mid (by simp)] at hr'
     have l4:(P ++ U') ++ x :: (z :: (V ++ X2' ++ S))=P ++ U' ++ x :: (z :: V) ++ X2' ++ S:=by simp
     rw [l4] at hr'; exact hr'
    ·show (IntKind.wrap .i64 (((P.length+(U' ++ [z]).length:Nat):Int) - 1)).toNat < (((P.length+(U' ++ [z]).length:Nat):Int)).toNat
     rw [ek]; simp only [List.length_append,List.length_cons,List.length_nil]; omega
   ·have hzx:=bef_no h0.ord hbz (of_decide_eq_false hc)
    rcases List.mem_append.1 hy with hy | hy
    ·refine lt_trans h0.ord ?_ hzx
     exact (sorted_of_app sU).2.2 y hy z (by simp)
    ·simp at hy; subst hy; exact hzx
  ·have hj2:¬ ((P.length+U.length:Nat):Int) > ((P.length:Nat):Int):=of_decide_eq_false hj
   have hU:U=[]:=List.length_eq_zero_iff.1 (by omega)
   exact jnC_mk (next v.drew fvd hvd (fun y hy=>by rw [hU] at hy; cases hy))
 ·have hge2:¬ ((P.length+M.length:Nat):Int) < ((P.length+(x0 :: X0).length:Nat):Int):=of_decide_eq_false hge
  have hX2:X2=[]:=List.length_eq_zero_iff.1 (by omega)
  subst hX2
  rw [List.append_nil] at hX hr
  subst hX
  exact ⟨rfl,hf,M,hM,sM,hr⟩
structure Blk (cmp:β->β->Int) (k:Nat) (Fs:List (List (β×Nat))) (t:List (β×Nat)):Prop where
 len:∀ f ∈ Fs,f.length=k
 srt:∀ f ∈ Fs,Sorted cmp f
 tl:t.length < k
 ts:Sorted cmp t
 bf:(Fs ++ [t]).Pairwise befC
set_option maxHeartbeats 2000000 in
theorem stable_calls (h0:Srt β enc cmp) (B:Nat) (A:Option Addr) (n c:Nat) (X:List (β×Nat)) (w:World) (h:RS enc w B A n c X) (hb:X.Pairwise bef) (hn:n < 68719476736) :
  Calls Tryz.prog 140 #[.slice A n c,.int .i64 (n:Nat),cf] w fun e w'=>e=.returned (.tuple #[])/\Srted enc cmp w w' B A n c [] X []:=by
 refine (F140s.of A n c _ w (Q:=fun v w'=>v=.tuple #[]/\Srted enc cmp w w' B A n c [] X []) ?_).mono (fun e w' ⟨v,he,hv,h⟩=>⟨by rw [he,hv],h⟩)
 have hXl:=h.2
 have merges:∀ (u:World) (Fs:List (List (β×Nat))) (t:List (β×Nat)),Fr (fun k=>blkOf A=some k) w u->(Fs.flatten ++ t).Perm X->Blk cmp 20 Fs t->RS enc u B A n c (Fs.flatten ++ t) ->
   jnC (F140s.l7 (fun v w'=>v=.tuple #[]/\Srted enc cmp w w' B A n c [] X [])) ((A,n,c),(n:Int),(),20,()) u:=by
  intro u Fs t hf hp hB hr
  refine jnC_mk (loop_rule (fun s u=>Fr (fun k=>blkOf A=some k) w u/\∃ (k:Nat) (Fs:List (List (β×Nat))) (t:List (β×Nat)),20<=k/\k<=2 * n+20/\s=((A,n,c),(n:Int),(),(k:Int),())/\(Fs.flatten ++ t).Perm X/\Blk cmp k Fs t/\RS enc u B A n c (Fs.flatten ++ t))
   (fun s _=>(2 * (n:Int)+20 - s.2.2.2.1).toNat) ?_ _ _ ⟨hf,20,Fs,t,by omega,by omega,rfl,hp,hB,hr⟩)
  clear hr hB hp hf
  rintro s u C7 ⟨hf,k,Fs,t,hk1,hk2,rfl,hp,hB,hr⟩ hC7 _
  refine vIf_mk (fun hlt=>?_) (fun hge=>?_)
  ·have hlt2:(k:Int) < (n:Int):=of_decide_eq_true hlt
   have e2k:IntKind.wrap .i64 (2 * (k:Int))=((2 * k:Nat):Int):=by rw [i64_id (by omega) (by omega)]; omega
   have ek2:IntKind.wrap .i64 ((k:Int) * 2)=((2 * k:Nat):Int):=by rw [i64_id (by omega) (by omega)]; omega
   dsimp only
   rw [e2k]
   have done:∀ (v:World) (Ds:List (List (β×Nat))) (t':List (β×Nat)),Fr (fun k=>blkOf A=some k) w v->(Ds.flatten ++ t').Perm X->Blk cmp (2 * k) Ds t'->RS enc v B A n c (Ds.flatten ++ t')->C7 ((A,n,c),(n:Int),(),IntKind.wrap .i64 ((k:Int) * 2),()) v:=by
    intro v Ds t' fv hp' hB' hr'
    refine hC7 _ _ ⟨fv,2 * k,Ds,t',by omega,by omega,by rw [ek2],hp',hB',hr'⟩ ?_
    show (2 * (n:Int)+20 - IntKind.wrap .i64 ((k:Int) * 2)).toNat < (2 * (n:Int)+20 - (k:Int)).toNat
    rw [ek2]; omega
   refine jnC_mk (loop_rule (fun s v=>Fr (fun k=>blkOf A=some k) w v/\∃ (Ds Fs:List (List (β×Nat))),(Ds.flatten ++ (Fs.flatten ++ t)).Perm X/\(∀ d ∈ Ds,d.length=2 * k/\Sorted cmp d)/\(∀ f ∈ Fs,f.length=k/\Sorted cmp f)/\(Ds ++ (Fs ++ [t])).Pairwise befC/\s=((A,n,c),(n:Int),(),(k:Int),((Ds.flatten.length:Nat):Int),((Ds.flatten.length+2 * k:Nat):Int),())/\RS enc v B A n c (Ds.flatten ++ (Fs.flatten ++ t)))
    (fun s _=>((n:Int) - s.2.2.2.2.1).toNat) ?_ _ _ ⟨hf,[],Fs,by simpa using hp,by simp,fun f hf=>⟨hB.len f hf,hB.srt f hf⟩,hB.bf,by simp,by simpa using hr⟩)
   have ht:=hB.tl
   have hts:=hB.ts
   clear hr hB hp hf
   rintro s v C9 ⟨hf,Ds,Fs,hp,hD,hF,hbf,rfl,hr⟩ hC9 _
   have hl:=hr.2
   simp only [List.length_append] at hl
   have hFl:=flat_len (fun f hf=>(hF f hf).1)
   have eAk:IntKind.wrap .i64 (((Ds.flatten.length:Nat):Int)+(k:Int))=((Ds.flatten.length+k:Nat):Int):=ea _ _ (by omega) (by omega)
   refine vIf_mk (fun hlt=>?_) (fun hge=>?_)
   ·have hlt2:((Ds.flatten.length+2 * k:Nat):Int)<=(n:Int):=of_decide_eq_true hlt
    obtain ⟨f1,f2,Fs',rfl⟩:∃ f1 f2 r,Fs=f1 :: f2 :: r:=by
     match Fs,hFl with
     | [],hFl=>simp only [List.flatten_nil,List.length_nil] at hFl hl; omega
     | [f],hFl=>simp only [List.length_cons,List.length_nil] at hFl; omega
     | f1 :: f2 :: r,_=>exact ⟨f1,f2,r,rfl⟩
    have q1:=hF f1 (List.mem_cons_self ..)
    have q2:=hF f2 (List.mem_cons_of_mem _ (List.mem_cons_self ..))
    have hfl:Ds.flatten ++ ((f1 :: f2 :: Fs').flatten ++ t)=Ds.flatten ++ f1 ++ f2 ++ (Fs'.flatten ++ t):=by simp
    rw [hfl] at hr hp
    dsimp only
    rw [eAk]
    refine (symMerge_calls h0 B A n c (by omega) _ Ds.flatten f1 f2 (Fs'.flatten ++ t) v (Nat.le_refl _) hr q1.2 q2.2 (befC_two (Ds:=Ds) (R:=Fs' ++ [t]) (by simpa using hbf)) (fun h=>by rw [h] at q1; have:=q1.1; simp only [List.length_nil] at this; omega) (fun h=>by rw [h] at q2; have:=q2.1; simp only [List.length_nil] at this; omega) ((Ds.flatten.length:Nat):Int) ((Ds.flatten.length+k:Nat):Int) ((Ds.flatten.length+2 * k:Nat):Int) rfl (by rw [q1.1]) (by rw [q1.1,q2.1]; omega)).mono ?_
    rintro r v2 ⟨rfl,f',M,mM,sM,hr'⟩
    have lM:M.length=2 * k:=by rw [mM.length_eq,List.length_append,q1.1,q2.1]; omega
    have hfl2:Ds.flatten ++ M ++ (Fs'.flatten ++ t)=(Ds ++ [M]).flatten ++ (Fs'.flatten ++ t):=by simp
    rw [hfl2] at hr'
    have lD2:(Ds ++ [M]).flatten.length=Ds.flatten.length+2 * k:=by rw [List.flatten_append,List.flatten_cons,List.flatten_nil,List.append_nil,List.length_append,lM]
    refine ⟨rfl,jnC_mk (hC9 _ _ ⟨hf.trans1 f',Ds ++ [M],Fs',?_,fun d hd=>?_,fun f hf=>hF f (List.mem_cons_of_mem _ (List.mem_cons_of_mem _ hf)),?_,?_,hr'⟩ ?_)⟩
    ·rw [<- hfl2]
     refine List.Perm.trans ?_ hp
     simp only [List.append_assoc]
     exact (((mM.append_right _).trans (by simp)).append_left _)
    ·rcases List.mem_append.1 hd with hd | hd
     ·exact hD d hd
     ·simp at hd; subst hd; exact ⟨lM,sM⟩
    ·have:=befC_merge (Ds:=Ds) (R:=Fs' ++ [t]) (by simpa using hbf) mM
     simpa using this
    ·show (_,_,_,_,((Ds.flatten.length+2 * k:Nat):Int),IntKind.wrap .i64 (((Ds.flatten.length+2 * k:Nat):Int)+IntKind.wrap .i64 (2 * (k:Int))),())=_
     rw [e2k,ea _ _ (by omega) (by omega),lD2]
    ·show ((n:Int) - ((Ds.flatten.length+2 * k:Nat):Int)).toNat < ((n:Int) - ((Ds.flatten.length:Nat):Int)).toNat
     omega
   ·have hge2:¬ ((Ds.flatten.length+2 * k:Nat):Int)<=(n:Int):=of_decide_eq_false hge
    clear hC9
    dsimp only
    rw [eAk]
    have hFs:Fs.length<=1:=by
     rcases Nat.lt_or_ge Fs.length 2 with h' | h'
     ·omega
     ·have:2 * k<=Fs.length * k:=Nat.mul_le_mul_right _ h'
      omega
    match Fs,hFs with
    | [],_ =>
     simp only [List.flatten_nil,List.nil_append,List.length_nil] at hr hp hl hbf
     refine vIf_f (decide_eq_false (by omega)) (jnC_mk (done v Ds t hf hp ⟨fun d hd=>(hD d hd).1,fun d hd=>(hD d hd).2,by omega,hts,hbf⟩ hr))
    | [f],_ =>
     have q1:=hF f (List.mem_cons_self ..)
     simp only [List.flatten_cons,List.flatten_nil,List.append_nil] at hr hp hl
     have hbf2:(Ds ++ f :: t :: []).Pairwise befC:=by simpa using hbf
     refine vIf_mk (fun hm=>?_) (fun hm=>?_)
     ·have hm2:((Ds.flatten.length+k:Nat):Int) < (n:Int):=of_decide_eq_true hm
      have hr2:RS enc v B A n c (Ds.flatten ++ f ++ t ++ []):=by simpa using hr
      refine (symMerge_calls h0 B A n c (by omega) _ Ds.flatten f t [] v (Nat.le_refl _) hr2 q1.2 hts (befC_two hbf2) (fun h=>by rw [h] at q1; have:=q1.1; simp only [List.length_nil] at this; omega) (fun h=>by rw [h] at hl; simp only [List.length_nil] at hl; omega) ((Ds.flatten.length:Nat):Int) ((Ds.flatten.length+k:Nat):Int) (n:Int) rfl (by rw [q1.1]) (by omega)).mono ?_
      rintro r v2 ⟨rfl,f',M,mM,sM,hr'⟩
      have lM:M.length=k+t.length:=by rw [mM.length_eq,List.length_append,q1.1]
      refine ⟨rfl,jnC_mk (done v2 Ds M (hf.trans1 f') ((mM.append_left _).trans hp) ⟨fun d hd=>(hD d hd).1,fun d hd=>(hD d hd).2,by omega,sM,?_⟩ (by simpa using hr'))⟩
      exact befC_merge hbf2 mM
     ·have hm2:¬ ((Ds.flatten.length+k:Nat):Int) < (n:Int):=of_decide_eq_false hm
      have ht0:t=[]:=List.length_eq_zero_iff.1 (by omega)
      rw [ht0,List.append_nil] at hr hp
      refine jnC_mk (done v Ds f hf hp ⟨fun d hd=>(hD d hd).1,fun d hd=>(hD d hd).2,by omega,q1.2,?_⟩ hr)
      exact befC_merge hbf2 (by rw [ht0,List.append_nil])
  ·have hge2:¬ (k:Int) < (n:Int):=of_decide_eq_false hge
   have hl:=hr.2
   simp only [List.length_append] at hl
   have hFl:=flat_len hB.len
   have hFs:Fs.length<=1:=by
    rcases Nat.lt_or_ge Fs.length 2 with h' | h'
    ·omega
    ·have:2 * k<=Fs.length * k:=Nat.mul_le_mul_right _ h'
     omega
   match Fs,hFs with
   | [],_ =>
    simp only [List.flatten_nil,List.nil_append] at hr hp
    exact ⟨rfl,hf,t,hp,hB.ts,by simpa using hr⟩
   | [f],_ =>
    have q1:=hB.len f (List.mem_cons_self ..)
    have q2:=hB.srt f (List.mem_cons_self ..)
    simp only [List.flatten_cons,List.flatten_nil,List.append_nil] at hr hp hl
    have ht0:t=[]:=List.length_eq_zero_iff.1 (by omega)
    rw [ht0,List.append_nil] at hr hp
    exact ⟨rfl,hf,f,hp,q2,by simpa using hr⟩
 refine jnC_mk (loop_rule (fun s u=>Fr (fun k=>blkOf A=some k) w u/\∃ (X1 X2:List (β×Nat)) (Fs:List (List (β×Nat))),X1 ++ X2=X/\Fs.flatten.Perm X1/\(∀ f ∈ Fs,f.length=20/\Sorted cmp f)/\Fs.Pairwise befC/\s=((A,n,c),(n:Int),(),20,((Fs.flatten.length:Nat):Int),((Fs.flatten.length+20:Nat):Int),())/\RS enc u B A n c (Fs.flatten ++ X2))
  (fun s _=>((n:Int) - s.2.2.2.2.1).toNat) ?_ _ _ ⟨Fr.refl _ _,[],X,[],rfl,List.Perm.refl _,by simp,List.Pairwise.nil,rfl,by simpa using h⟩)
 rintro s u C ⟨hf,X1,X2,Fs,hX,hp,hF,hbf,rfl,hr⟩ hC _
 have hl:=hr.2
 simp only [List.length_append] at hl
 rw [<- hX] at hb
 obtain ⟨b1,b2,b3⟩:=List.pairwise_append.1 hb
 refine vIf_mk (fun hlt=>?_) (fun hge=>?_)
 ·have hlt2:((Fs.flatten.length+20:Nat):Int)<=(n:Int):=of_decide_eq_true hlt
  have hX2:=List.take_append_drop 20 X2
  have lY:(X2.take 20).length=20:=take_len (by omega)
  have b4:=b2
  rw [<- hX2] at b4
  obtain ⟨b5,b6,b7⟩:=List.pairwise_append.1 b4
  have hr2:RS enc u B A n c (Fs.flatten ++ X2.take 20 ++ X2.drop 20):=by
   rw [List.append_assoc,hX2]; exact hr
  refine (insSort_calls h0 B A n c Fs.flatten (X2.take 20) (X2.drop 20) u hr2 b5 (by omega) rfl (by rw [lY])).mono ?_
  rintro r u2 ⟨rfl,f2,M,mM,sM,hr3⟩
  have lM:M.length=20:=by rw [mM.length_eq,lY]
  have lF:(Fs ++ [M]).flatten.length=Fs.flatten.length+20:=by rw [List.flatten_append,List.flatten_cons,List.flatten_nil,List.append_nil,List.length_append,lM]
  refine ⟨rfl,jnC_mk (hC _ _ ⟨hf.trans1 f2,X1 ++ X2.take 20,X2.drop 20,Fs ++ [M],by rw [List.append_assoc,hX2,hX],?_,fun f hf=>?_,?_,?_,by simpa using hr3⟩ ?_)⟩
  ·rw [List.flatten_append,List.flatten_cons,List.flatten_nil,List.append_nil]
   exact hp.append mM
  ·rcases List.mem_append.1 hf with hf | hf
   ·exact hF f hf
   ·simp at hf; subst hf; exact ⟨lM,sM⟩
  ·refine List.pairwise_append.2 ⟨hbf,List.pairwise_singleton _ _,fun f hf m hm x hx y hy=>?_⟩
   simp at hm; subst hm
   exact b3 x (hp.mem_iff.1 (List.mem_flatten.2 ⟨f,hf,hx⟩)) y (List.mem_of_mem_take (mM.mem_iff.1 hy))
  ·show (_,_,_,_,((Fs.flatten.length+20:Nat):Int),IntKind.wrap .i64 (((Fs.flatten.length+20:Nat):Int)+20),())=_
   rw [lF,i64_id (by omega) (by omega)]; congr 6
  ·show ((n:Int) - ((Fs.flatten.length+20:Nat):Int)).toNat < ((n:Int) - ((Fs.flatten.length:Nat):Int)).toNat
   omega
 ·have hge2:¬ ((Fs.flatten.length+20:Nat):Int)<=(n:Int):=of_decide_eq_false hge
  refine (insSort_calls h0 B A n c Fs.flatten X2 [] u (by simpa using hr) b2 (by omega) rfl (by show (n:Int)=_; omega)).mono ?_
  rintro r u2 ⟨rfl,f2,M,mM,sM,hr3⟩
  refine ⟨rfl,merges u2 Fs M (hf.trans1 f2) ?_ ⟨fun f hf=>(hF f hf).1,fun f hf=>(hF f hf).2,by rw [mM.length_eq]; omega,sM,?_⟩ (by simpa using hr3)⟩
  ·rw [<- hX]; exact hp.append mM
  ·refine List.pairwise_append.2 ⟨hbf,List.pairwise_singleton _ _,fun f hf m hm x hx y hy=>?_⟩
   simp at hm; subst hm
   exact b3 x (hp.mem_iff.1 (List.mem_flatten.2 ⟨f,hf,hx⟩)) y (mM.mem_iff.1 hy)
theorem sortStable_calls (h0:Srt β enc cmp) (B:Nat) (A:Option Addr) (n c:Nat) (X:List β) (w:World) (h:Row w B 110 2 A n c (flt enc X)) (hl:X.length=n) (hn:n < 68719476736) :
  Calls Tryz.prog 111 #[.slice A n c,cf] w fun e w'=>e=.returned (.tuple #[])/\Fr (fun k=>blkOf A=some k) w w'/\Row w' B 110 2 A n c (flt enc (stab cmp X)):=by
 refine (F111s.of A n c w (Q:=fun v w'=>v=.tuple #[]/\Fr (fun k=>blkOf A=some k) w w'/\Row w' B 110 2 A n c (flt enc (stab cmp X))) ?_).mono (fun e w' ⟨v,he,hv,h⟩=>⟨by rw [he,hv],h⟩)
 have hflt:∀ l:List (β×Nat),flt (encT enc) l=flt enc (l.map (·.1)):=fun l=>by
  unfold flt
  rw [List.map_map]
  rfl
 have hR:RS enc w B A n c (tagL X):=⟨by rw [hflt,tagL_fst]; exact h,by simp [tagL,hl]⟩
 have hb:(tagL X).Pairwise bef:=by
  unfold tagL bef
  rw [List.pairwise_iff_getElem]
  intro i j hi hj hij
  simp
  omega
 refine (stable_calls h0 B A n c (tagL X) w hR hb hn).mono ?_
 rintro r w2 ⟨rfl,f,M,mM,sM,hr⟩
 refine ⟨rfl,rfl,f,?_⟩
 have h1:=hr.1
 rw [List.nil_append,List.append_nil,hflt,stab_of h0.ord sM mM] at h1
 exact h1
end
end Go.Proofs.YtadbakmblklncaaGreatDoor.StbNm
namespace Go.Proofs.YtadbakmblklncaaGreatDoor
open Go.GV Go.RowKit Go.Lib Go.Stb
abbrev Nm:=ByteArray×Int
def encN (x:Nm):List Value:=[.string x.1,.int .i64 x.2]
theorem encN_o:EncO Nm encN 2:=⟨fun _=>rfl,fun x v hv=>by simp [encN] at hv; rcases hv with rfl | rfl <;> rfl⟩
def cmpM (a b:Nm):Int:=cmpN a.1 b.1
theorem cmpM_ord:OrdC cmpM:=⟨fun a b=>cmpN_anti _ _,fun a b c h1 h2=>by
 have:=cmp_trans a.1.data.toList b.1.data.toList c.1.data.toList h1 h2
 exact this⟩
def findN (s:ByteArray):List Nm->Option Int
 | []=>none
 | x :: r=>if x.1=s then some x.2 else findN s r
theorem findN_app (s:ByteArray):∀ a b:List Nm,findN s (a ++ b)=(findN s a).or (findN s b)
 | [],b=>by simp [findN]
 | x :: r,b=>by
  rw [List.cons_append,findN,findN,findN_app s r b]
  split <;> simp
theorem findN_none {s:ByteArray}:∀ {l:List Nm},(∀ x ∈ l,x.1 ≠ s)->findN s l=none
 | [],_=>rfl
 | x :: r,h=>by rw [findN,if_neg (h x (List.mem_cons_self ..)),findN_none (fun y hy=>h y (List.mem_cons_of_mem _ hy))]
theorem findN_mem {s:ByteArray} {i:Int}:∀ {l:List Nm},findN s l=some i->(s,i) ∈ l
 | [],h=>by simp [findN] at h
 | x :: r,h=>by
  rw [findN] at h
  split at h
  ·rename_i hx
   injection h with h
   rw [<- hx,<- h]; exact List.mem_cons_self ..
  ·exact List.mem_cons_of_mem _ (findN_mem h)
def AscN (l:List Nm):Prop:=l.Pairwise (fun a b=>cmpN a.1 b.1 < 0)
theorem cmp_ne {a b:ByteArray} (h:cmpN a b < 0):a ≠ b:=fun e=>by rw [e,cmpN_self] at h; omega
theorem cmp_gt {a b:ByteArray} (h:cmpN a b < 0):¬ cmpN b a < 0:=by have:=cmpN_anti a b; omega
theorem ascN_ext:∀ {a b:List Nm},AscN a->AscN b->(∀ s,findN s a=findN s b)->a=b
 | [],[],_,_,_=>rfl
 | [],y :: b,_,_,h=>by have:=h y.1; simp [findN] at this
 | x :: a,[],_,_,h=>by have:=h x.1; simp [findN] at this
 | x :: a,y :: b,ha,hb,h=>by
  have ca:=List.pairwise_cons.1 ha
  have cb:=List.pairwise_cons.1 hb
  have key:∀ {x y:Nm} {a b:List Nm},(∀ z ∈ b,cmpN y.1 z.1 < 0)->(findN x.1 (x :: a)=findN x.1 (y :: b))->x.1=y.1\/cmpN y.1 x.1 < 0:=by
   intro x y a b hy hf
   rw [findN,if_pos rfl] at hf
   rcases List.mem_cons.1 (findN_mem hf.symm) with h1 | h1
   ·left; rw [<- h1]
   ·right; exact hy _ h1
  have h1:=key cb.1 (h x.1)
  have h2:=key ca.1 (h y.1).symm
  have hxy:x.1=y.1:=by
   rcases h1 with h1 | h1
   ·exact h1
   ·rcases h2 with h2 | h2
    ·exact h2.symm
    ·exact absurd h2 (cmp_gt h1)
  have h3:=h x.1
  rw [findN,findN,if_pos rfl,if_pos hxy.symm] at h3
  injection h3 with h3
  have hx:x=y:=Prod.ext hxy h3
  subst hx
  rw [ascN_ext ca.2 cb.2 (fun s=>by
   have h4:=h s
   rw [findN,findN] at h4
   by_cases hs:x.1=s
   ·rw [findN_none (fun z hz=>fun e=>cmp_ne (ca.1 z hz) (by rw [hs,e])),findN_none (fun z hz=>fun e=>cmp_ne (cb.1 z hz) (by rw [hs,e]))]
   ·rw [if_neg hs,if_neg hs] at h4; exact h4)]
def putN (x:Nm):List Nm->List Nm
 | []=>[x]
 | y :: r=>if cmpN x.1 y.1 < 0 then x :: y :: r else if x.1=y.1 then x :: r else y :: putN x r
theorem putN_find (s:ByteArray) (x:Nm):∀ l,findN s (putN x l)=if x.1=s then some x.2 else findN s l
 | []=>by simp [putN,findN]
 | y :: r=>by
  have ih:=putN_find s x r
  rw [putN]
  split
  ·rw [findN]
  ·split
   ·rename_i h1 h2
    rw [findN]
    by_cases h3:x.1=s
    ·rw [if_pos h3,if_pos h3]
    ·rw [if_neg h3,if_neg h3,findN,if_neg (by rw [<- h2]; exact h3)]
   ·rename_i h1 h2
    rw [findN,ih,findN]
    by_cases h3:x.1=s
    ·rw [if_pos h3,if_neg (by rw [<- h3]; exact fun e=>h2 e.symm),if_pos h3]
    ·rw [if_neg h3,if_neg h3]
theorem putN_mem {x z:Nm}:∀ {l},z ∈ putN x l->z=x\/z ∈ l
 | [],h=>by simp [putN] at h; exact .inl h
 | y :: r,h=>by
  rw [putN] at h
  split at h
  ·exact List.mem_cons.1 h
  ·split at h
   ·rcases List.mem_cons.1 h with h | h
    ·exact .inl h
    ·exact .inr (List.mem_cons_of_mem _ h)
   ·rcases List.mem_cons.1 h with h | h
    ·exact .inr (by rw [h]; exact List.mem_cons_self ..)
    ·rcases putN_mem h with h | h
     ·exact .inl h
     ·exact .inr (List.mem_cons_of_mem _ h)
theorem putN_asc (x:Nm):∀ {l},AscN l->AscN (putN x l)
 | [],_=>List.pairwise_singleton _ _
 | y :: r,h=>by
  have c:=List.pairwise_cons.1 h
  rw [putN]
  split
  ·rename_i h1
   refine List.pairwise_cons.2 ⟨fun z hz=>?_,h⟩
   rcases List.mem_cons.1 hz with rfl | hz
   ·exact h1
   ·exact cmpN_trans h1 (c.1 z hz)
  ·split
   ·rename_i h1 h2
    refine List.pairwise_cons.2 ⟨fun z hz=>?_,c.2⟩
    rw [h2]; exact c.1 z hz
   ·rename_i h1 h2
    refine List.pairwise_cons.2 ⟨fun z hz=>?_,putN_asc x c.2⟩
    rcases putN_mem hz with rfl | hz
    ·have:=cmpN_anti z.1 y.1
     have h3:cmpN z.1 y.1 ≠ 0:=fun e=>h2 ((cmpN_zero _ _).1 e)
     omega
    ·exact c.1 z hz
theorem putN_len (x:Nm):∀ l,(putN x l).length<=l.length+1
 | []=>by simp [putN]
 | y :: r=>by
  have:=putN_len x r
  rw [putN]
  split
  ·simp
  ·split <;> simp <;> omega
theorem putN_lt {x:Nm}:∀ {l:List Nm},(∀ z ∈ l,cmpN x.1 z.1 < 0)->putN x l=x :: l
 | [],_=>rfl
 | y :: r,h=>by rw [putN,if_pos (h y (List.mem_cons_self ..))]
theorem putN_app {x:Nm}:∀ {U:List Nm} (V:List Nm),(∀ z ∈ U,cmpN z.1 x.1 < 0)->putN x (U ++ V)=U ++ putN x V
 | [],V,_=>rfl
 | y :: r,V,h=>by
  have h1:=h y (List.mem_cons_self ..)
  rw [List.cons_append,putN,if_neg (cmp_gt h1),if_neg (fun e=>cmp_ne h1 e.symm),putN_app V (fun z hz=>h z (List.mem_cons_of_mem _ hz))]
  rfl
def woN (s:ByteArray) (l:List Nm):List Nm:=l.filter (fun y=>decide (y.1 ≠ s))
theorem woN_asc (s:ByteArray) {l:List Nm} (h:AscN l):AscN (woN s l):=h.sublist (List.filter_sublist ..)
theorem woN_len (s:ByteArray) (l:List Nm):(woN s l).length<=l.length:=List.length_filter_le _ _
theorem woN_id {s:ByteArray} {l:List Nm} (h:∀ x ∈ l,x.1 ≠ s):woN s l=l:=List.filter_eq_self.2 (fun x hx=>by simpa using h x hx)
def PlN (s:ByteArray) (i:Nat) (l:List Nm):Prop:=i<=l.length/\(∀ x ∈ l.take i,cmpN x.1 s < 0)/\∀ x ∈ l.drop i,¬ cmpN x.1 s < 0
def isN (s:ByteArray) (i:Nat) (l:List Nm):Bool:=match l[i]? with | some x=>decide (x.1=s) | none=>false
theorem isN_at {s:ByteArray} {i:Nat} {l:List Nm} (h:isN s i l=true):∃ x,l[i]?=some x/\x.1=s:=by
 unfold isN at h
 split at h
 ·rename_i x hx; exact ⟨x,hx,of_decide_eq_true h⟩
 ·cases h
theorem drop_at {α:Type} {l:List α} {i:Nat} {x:α} (h:l[i]?=some x):l.drop i=x :: l.drop (i+1):=by
 obtain ⟨h1,rfl⟩:=List.getElem?_eq_some_iff.1 h
 exact List.drop_eq_getElem_cons h1
theorem pl_gt {s:ByteArray} {i:Nat} {l:List Nm} (hp:PlN s i l) (ha:AscN l) (hi:isN s i l=false):∀ x ∈ l.drop i,cmpN s x.1 < 0:=by
 intro x hx
 have h1:=hp.2.2 x hx
 cases hd:l.drop i with
 | nil=>rw [hd] at hx; cases hx
 | cons y r =>
  have hy:l[i]?=some y:=by
   have:=congrArg (·[0]?) hd
   simpa using this
  have hne:y.1 ≠ s:=by
   unfold isN at hi
   rw [hy] at hi
   exact of_decide_eq_false hi
  have hyl:=hp.2.2 y (by rw [hd]; exact List.mem_cons_self ..)
  have h0:cmpN y.1 s ≠ 0:=fun e=>hne ((cmpN_zero _ _).1 e)
  have hsy:cmpN s y.1 < 0:=by have:=cmpN_anti y.1 s; omega
  rw [hd] at hx
  rcases List.mem_cons.1 hx with rfl | hx
  ·exact hsy
  ·have hsub:AscN (y :: r):=by rw [<- hd]; exact ha.sublist (List.drop_sublist _ _)
   exact cmpN_trans hsy ((List.pairwise_cons.1 hsub).1 x hx)
theorem put_in {s:ByteArray} {v:Int} {i:Nat} {l:List Nm} {x:Nm} (hp:PlN s i l) (hx:l[i]?=some x) (hs:x.1=s):putN (s,v) l=l.set i (s,v):=by
 have hi:=(List.getElem?_eq_some_iff.1 hx).1
 conv=>lhs; rw [<- List.take_append_drop i l]
 rw [putN_app _ hp.2.1,drop_at hx,putN,if_neg (by show ¬ cmpN s x.1 < 0; rw [hs,cmpN_self]; omega),if_pos hs.symm,List.set_eq_take_append_cons_drop,if_pos hi]
theorem put_out {s:ByteArray} {v:Int} {i:Nat} {l:List Nm} (hp:PlN s i l) (ha:AscN l) (hi:isN s i l=false):putN (s,v) l=l.take i ++ (s,v) :: l.drop i:=by
 conv=>lhs; rw [<- List.take_append_drop i l]
 rw [putN_app _ hp.2.1,putN_lt (pl_gt hp ha hi)]
theorem wo_in {s:ByteArray} {i:Nat} {l:List Nm} {x:Nm} (hp:PlN s i l) (ha:AscN l) (hx:l[i]?=some x) (hs:x.1=s):woN s l=l.take i ++ l.drop (i+1):=by
 have hd:=drop_at hx
 conv=>lhs; rw [<- List.take_append_drop i l,hd]
 unfold woN
 rw [List.filter_append,List.filter_cons_of_neg (by simpa using hs)]
 have hsub:AscN (x :: l.drop (i+1)):=by rw [<- hd]; exact ha.sublist (List.drop_sublist _ _)
 congr 1
 ·exact woN_id (fun z hz=>cmp_ne (hp.2.1 z hz))
 ·exact woN_id (fun z hz e=>cmp_ne ((List.pairwise_cons.1 hsub).1 z hz) (by rw [hs,e]))
theorem wo_out {s:ByteArray} {i:Nat} {l:List Nm} (hp:PlN s i l) (ha:AscN l) (hi:isN s i l=false):woN s l=l/\findN s l=none:=by
 have h:∀ z ∈ l,z.1 ≠ s:=by
  intro z hz
  rw [<- List.take_append_drop i l] at hz
  rcases List.mem_append.1 hz with hz | hz
  ·exact cmp_ne (hp.2.1 z hz)
  ·exact fun e=>cmp_ne (pl_gt hp ha hi z hz) e.symm
 exact ⟨woN_id h,findN_none h⟩
theorem find_in {s:ByteArray} {i:Nat} {l:List Nm} {x:Nm} (hp:PlN s i l) (hx:l[i]?=some x) (hs:x.1=s):findN s l=some x.2:=by
 rw [<- List.take_append_drop i l,drop_at hx,findN_app,findN_none (fun z hz=>cmp_ne (hp.2.1 z hz)),findN,if_pos hs]
 rfl
def lastN (l:List Nm):List Nm:=l.foldr putN []
theorem lastN_asc:∀ l,AscN (lastN l)
 | []=>List.Pairwise.nil
 | x :: r=>putN_asc x (lastN_asc r)
theorem lastN_find (s:ByteArray):∀ l,findN s (lastN l)=findN s l
 | []=>rfl
 | x :: r=>by
  show findN s (putN x (lastN r))=_
  rw [putN_find,lastN_find s r,findN]
theorem lastN_len:∀ l,(lastN l).length<=l.length
 | []=>Nat.le_refl _
 | x :: r=>by
  have:=lastN_len r
  have h2:=putN_len x (lastN r)
  show (putN x (lastN r)).length<=_
  rw [List.length_cons]; omega
def cptN (r:List Nm):Nat->List Nm
 | 0=>[]
 | n+1=>cptN r n ++ (if n ≠ 0/\(r[n]?).map (·.1)=(r[n - 1]?).map (·.1) then [] else r[n]?.toList)
theorem cptN_sub (r:List Nm):∀ n d,d ∈ cptN r n->d ∈ r.take n
 | 0,d,h=>by simp [cptN] at h
 | n+1,d,h=>by
  rw [cptN] at h
  rw [List.take_add_one]
  rcases List.mem_append.1 h with h | h
  ·exact List.mem_append_left _ (cptN_sub r n d h)
  ·split at h
   ·cases h
   ·exact List.mem_append_right _ h
theorem cptN_find (s:ByteArray) (r:List Nm):∀ n,findN s (cptN r n)=findN s (r.take n)
 | 0=>by simp [cptN]
 | n+1=>by
  rw [cptN,List.take_add_one,findN_app,findN_app,cptN_find s r n]
  split
  ·rename_i h
   obtain ⟨h0,h⟩:=h
   cases hn:r[n]? with
   | none=>rfl
   | some x =>
    rw [hn] at h
    cases hp:r[n - 1]? with
    | none=>rw [hp] at h; cases h
    | some y =>
     rw [hp] at h
     simp at h
     rw [Option.toList_some]
     by_cases hs:x.1=s
     ·cases hf:findN s (r.take n) with
      | some v=>rfl
      | none =>
       exfalso
       have:r.take n=r.take (n - 1) ++ [y]:=by
        conv=>lhs; rw [show n=(n - 1)+1 by omega,List.take_add_one,hp]
        rfl
       rw [this,findN_app,findN,if_pos (by rw [<- h]; exact hs)] at hf
       cases h5:findN s (r.take (n - 1)) <;> rw [h5] at hf <;> cases hf
     ·have:findN s [x]=none:=by rw [findN,if_neg hs]; rfl
      rw [this]; rfl
  ·rfl
theorem cptN_asc {r:List Nm} (h:r.Pairwise (fun a b=>cmpM a b<=0)):∀ n,n<=r.length->AscN (cptN r n)
 | 0,_=>List.Pairwise.nil
 | n+1,hn=>by
  have ih:=cptN_asc h n (by omega)
  rw [cptN]
  by_cases hc:n ≠ 0/\(r[n]?).map (·.1)=(r[n - 1]?).map (·.1)
  ·rw [if_pos hc,List.append_nil]; exact ih
  ·rw [if_neg hc,List.getElem?_eq_getElem (by omega)]
   refine List.pairwise_append.2 ⟨ih,by simp,fun a ha b hb=>?_⟩
   simp at hb
   subst hb
   have ha':=cptN_sub r n a ha
   obtain ⟨i,hi,hai⟩:=List.mem_iff_getElem.1 ha'
   rw [List.length_take] at hi
   rw [List.getElem_take] at hai
   have hn0:n ≠ 0:=by omega
   have hprev:(r[n - 1]'(by omega)).1 ≠ (r[n]'(by omega)).1:=by
    intro he
    apply hc
    refine ⟨hn0,?_⟩
    rw [List.getElem?_eq_getElem (by omega),List.getElem?_eq_getElem (by omega),Option.map_some,Option.map_some,he]
   have hp:=List.pairwise_iff_getElem.1 h
   have h2:=hp (n - 1) n (by omega) (by omega) (by omega)
   have h2':cmpN (r[n - 1]'(by omega)).1 (r[n]'(by omega)).1 < 0:=by
    have h3:cmpN (r[n - 1]'(by omega)).1 (r[n]'(by omega)).1<=0:=h2
    have h4:cmpN (r[n - 1]'(by omega)).1 (r[n]'(by omega)).1 ≠ 0:=fun e=>hprev ((cmpN_zero _ _).1 e)
    omega
   subst hai
   by_cases hin:i=n - 1
   ·subst hin; exact h2'
   ·have h3:cmpM (r[i]'(by omega)) (r[n - 1]'(by omega))<=0:=hp i (n - 1) (by omega) (by omega) (by omega)
    exact cmpM_ord.le_lt (b:=r[n - 1]'(by omega)) h3 h2'
theorem ins_find (s:ByteArray) (x:Nm):∀ {a:List Nm},a.Pairwise (fun a b=>cmpM a b<=0)->findN s (ins cmpM x a)=(findN s a).or (if x.1=s then some x.2 else none)
 | [],_=>by simp [ins,findN]
 | y :: r,h=>by
  have c:=List.pairwise_cons.1 h
  rw [ins]
  split
  ·rename_i h1
   rw [findN]
   by_cases hs:x.1=s
   ·rw [if_pos hs,if_pos hs,findN_none (l:=y :: r)]
    ·rfl
    ·intro z hz
     have hxz:cmpM x z < 0:=by
      rcases List.mem_cons.1 hz with rfl | hz
      ·exact h1
      ·exact cmpM_ord.lt_le h1 (c.1 z hz)
     rw [<- hs]
     exact fun e=>cmp_ne (a:=x.1) (b:=z.1) hxz e.symm
   ·rw [if_neg hs,if_neg hs]; simp
  ·rw [findN,ins_find s x c.2,findN]
   split <;> simp
theorem stab_weak (l:List Nm):(stab cmpM l).Pairwise (fun a b=>cmpM a b<=0):=by
 obtain ⟨m,h1,h2,h3⟩:=stab_spec cmpM_ord l
 rw [<- h3,List.pairwise_map]
 exact h1.imp (fun h=>by rcases h with h | h <;> omega)
theorem stab_find (s:ByteArray) (l:List Nm):findN s (stab cmpM l)=findN s l :=
 snoc_ind (P:=fun l=>findN s (stab cmpM l)=findN s l) rfl (fun l x ih=>by rw [stab_snoc,ins_find s x (stab_weak l),ih,findN_app]; rfl) l
theorem last_eq (l:List Nm):cptN (stab cmpM l) l.length=lastN l:=by
 refine ascN_ext (cptN_asc (stab_weak l) _ (by rw [stab_len]; exact Nat.le_refl _)) (lastN_asc l) (fun s=>?_)
 rw [cptN_find,List.take_of_length_le (by rw [stab_len]; exact Nat.le_refl _),stab_find,lastN_find]
structure Ch where
 k:Int
 nm:ByteArray
 to:ByteArray
 id:Int
def encC (c:Ch):List Value:=[.int .i64 c.k,.string c.nm,.string c.to,.int .i64 c.id]
theorem encC_o:EncO Ch encC 4:=⟨fun _=>rfl,fun x v hv=>by simp [encC] at hv; rcases hv with rfl | rfl | rfl | rfl <;> rfl⟩
def stepN (l:List Nm) (c:Ch):List Nm :=
 if c.k=1 then putN (c.nm,c.id) l
 else if c.k=2 then (match findN c.nm l with | some id=>putN (c.to,id) (woN c.nm l) | none=>l)
 else if c.k=3 then woN c.nm l else l
theorem stepN_asc (c:Ch) {l:List Nm} (h:AscN l):AscN (stepN l c):=by
 unfold stepN
 split
 ·exact putN_asc _ h
 ·split
  ·split
   ·exact putN_asc _ (woN_asc _ h)
   ·exact h
  ·split
   ·exact woN_asc _ h
   ·exact h
theorem stepN_len (c:Ch) (l:List Nm):(stepN l c).length<=l.length+1:=by
 unfold stepN
 split
 ·exact putN_len _ _
 ·split
  ·split
   ·have:=putN_len (c.to,‹Int›) (woN c.nm l)
    have:=woN_len c.nm l
    omega
   ·omega
  ·split
   ·have:=woN_len c.nm l; omega
   ·omega
def behN (L:List Nm) (P:List Ch):List Nm:=P.foldl stepN (lastN L)
theorem behN_snoc (L:List Nm) (P:List Ch) (c:Ch):behN L (P ++ [c])=stepN (behN L P) c:=by unfold behN; rw [List.foldl_append]; rfl
theorem behN_step {L:List Nm} {P:List Ch} {i:Nat} {c:Ch} (h:P[i]?=some c):behN L (P.take (i+1))=stepN (behN L (P.take i)) c:=by
 rw [List.take_add_one,h,Option.toList_some,behN_snoc]
theorem behN_asc (L:List Nm) (P:List Ch):AscN (behN L P):=snoc_ind (P:=fun P=>AscN (behN L P)) (lastN_asc L) (fun l x ih=>by rw [behN_snoc]; exact stepN_asc _ ih) P
theorem behN_len (L:List Nm) (P:List Ch):(behN L P).length<=L.length+P.length:=snoc_ind (P:=fun P=>(behN L P).length<=L.length+P.length) (lastN_len L) (fun l x ih=>by
 have:=stepN_len x (behN L l)
 rw [behN_snoc,List.length_append,List.length_singleton]; omega) P
def NRow (w:World) (B:Nat) (A:Option Addr) (n c:Nat) (l:List Nm):Prop:=Row w B 110 2 A n c (flt encN l)/\l.length=n
def NSl (w:World) (A:Option Addr) (n:Nat) (l:List Nm):Prop:=Sl w 2 A n (flt encN l)/\l.length=n
theorem NRow.sl {w:World} {B:Nat} {A:Option Addr} {n c:Nat} {l:List Nm} (h:NRow w B A n c l):NSl w A n l:=⟨h.1.sl,h.2⟩
theorem NRow.fr0 {w w':World} {B:Nat} {A:Option Addr} {n c:Nat} {l:List Nm} (h:NRow w B A n c l) (f:Fr (fun _=>False) w w'):NRow w' B A n c l:=⟨f.row h.1 (fun _ _ h=>h),h.2⟩
theorem NSl.fr0 {w w':World} {A:Option Addr} {n:Nat} {l:List Nm} (h:NSl w A n l) (f:Fr (fun _=>False) w w'):NSl w' A n l:=⟨f.sl h.1 (fun _ _ _ h=>h),h.2⟩
theorem n_rd {w:World} {A:Option Addr} {n:Nat} {l:List Nm} (h:NSl w A n l) {i:Nat} {x:Nm} (hi:l[i]?=some x) {ii:Int} (hii:ii=(i:Int)) {K:List Value->Prop} (hK:K (encN x)) :
  dr A fun b o=>gd (decide (0<=ii)) (gd (decide (ii < ((n:Nat):Int))) (ldA 2 w b (o+ii.toNat * 2) K)) :=
 el_rd h.1 (fun x _=>rfl) hi hii h.2 (fun b o hA hc=>⟨encN x,rfl,hc,hK⟩)
theorem n_rdI {w:World} {A:Option Addr} {n:Nat} {l:List Nm} (h:NSl w A n l) {i:Nat} {x:Nm} (hi:l[i]?=some x) {ii:Int} (hii:ii=(i:Int)) {K:Int->Prop} (hK:K x.2) :
  dr A fun b o=>gd (decide (0<=ii)) (gd (decide (ii < ((n:Nat):Int))) (ldI .i64 w b ((o+ii.toNat * 2)+1) K)) :=
 el_rd h.1 (fun x _=>rfl) hi hii h.2 (fun b o hA hc=>⟨x.2,hc 1 _ rfl,hK⟩)
theorem byName_calls (x:Nm) (s:ByteArray) (w:World) :
  Calls Tryz.prog 101 #[ofL (encN x),.string s] w fun e w'=>e=.returned (.int .i64 (cmpN x.1 s))/\Fr (fun _=>False) w w':=by
 refine (F101.of _ s w (Q:=fun v w'=>v=.int .i64 (cmpN x.1 s)/\Fr (fun _=>False) w w') ?_).mono (fun e w' ⟨v,he,hv,h⟩=>⟨by rw [he,hv],h⟩)
 refine nw_mk ?_
 have f1:Fr (fun _=>False) w (w.alloc (.cells (encN x).toArray 110)):=Fr.alloc _ _ _
 have r1:=RecAt.new w (encN x) 110
 generalize w.alloc (.cells (encN x).toArray 110)=w1 at f1 r1 ⊢
 refine ⟨x.1,r1.cell rfl,(strcmp_calls x.1 s w1).mono ?_⟩
 rintro r w2 ⟨rfl,rfl⟩
 exact ⟨_,rfl,rfl,f1⟩
theorem two_new (x y:Nm) (w:World) {K:Nat->Nat->World->Prop} (hK:∀ b1 b2 w',Fr (fun _=>False) w w'->RecAt w' b1 110 (encN x)->RecAt w' b2 110 (encN y)->K b1 b2 w'):nw w (encN x) 110 fun b1 w1=>nw w1 (encN y) 110 fun b2 w2=>K b1 b2 w2:=by
 refine nw_mk (nw_mk ?_)
 have f1:Fr (fun _=>False) w (w.alloc (.cells (encN x).toArray 110)):=Fr.alloc _ _ _
 have r1:=RecAt.new w (encN x) 110
 generalize w.alloc (.cells (encN x).toArray 110)=w1 at f1 r1 ⊢
 have f2:Fr (fun _=>False) w1 (w1.alloc (.cells (encN y).toArray 110)):=Fr.alloc _ _ _
 exact hK _ _ _ (f1.trans1 f2) (r1.fr f2 (fun h=>h)) (RecAt.new w1 (encN y) 110)
theorem lcmp_calls (x y:Nm) (w:World) :
  Calls Tryz.prog 112 #[ofL (encN x),ofL (encN y)] w fun e w'=>e=.returned (.int .i64 (cmpM x y))/\Fr (fun _=>False) w w':=by
 refine (F112.of _ _ w (Q:=fun v w'=>v=.int .i64 (cmpM x y)/\Fr (fun _=>False) w w') ?_).mono (fun e w' ⟨v,he,hv,h⟩=>⟨by rw [he,hv],h⟩)
 refine two_new x y w (fun b1 b2 w1 f r1 r2=>⟨x.1,r1.cell rfl,y.1,r2.cell rfl,(strcmp_calls x.1 y.1 w1).mono ?_⟩)
 rintro r w2 ⟨rfl,rfl⟩
 exact ⟨_,rfl,rfl,f⟩
theorem leq_calls (x y:Nm) (w:World) :
  Calls Tryz.prog 115 #[ofL (encN x),ofL (encN y)] w fun e w'=>e=.returned (.bool (decide (x.1=y.1)))/\Fr (fun _=>False) w w':=by
 refine (F115.of _ _ w (Q:=fun v w'=>v=.bool (decide (x.1=y.1))/\Fr (fun _=>False) w w') ?_).mono (fun e w' ⟨v,he,hv,h⟩=>⟨by rw [he,hv],h⟩)
 refine two_new x y w (fun b1 b2 w1 f r1 r2=>⟨x.1,r1.cell rfl,y.1,r2.cell rfl,?_,f⟩)
 rw [neq]
theorem lsrt:StbNm.Srt Nm encN cmpM:=⟨fun _=>rfl,encN_o.one,cmpM_ord,lcmp_calls⟩
theorem mem_take_lt {α:Type} {l:List α} {i:Nat} {x:α} (h:x ∈ l.take i):∃ j,j < i/\l[j]?=some x:=by
 obtain ⟨j,hj⟩:=List.mem_iff_getElem?.1 h
 rw [List.getElem?_take] at hj
 split at hj
 ·exact ⟨j,by assumption,hj⟩
 ·cases hj
theorem mem_drop_ge {α:Type} {l:List α} {i:Nat} {x:α} (h:x ∈ l.drop i):∃ j,i<=j/\l[j]?=some x:=by
 obtain ⟨j,hj⟩:=List.mem_iff_getElem?.1 h
 rw [List.getElem?_drop] at hj
 exact ⟨i+j,by omega,hj⟩
theorem asc_lt {l:List Nm} (h:AscN l) {i j:Nat} {x y:Nm} (hi:l[i]?=some x) (hj:l[j]?=some y) (hij:i < j):cmpN x.1 y.1 < 0:=by
 obtain ⟨h1,rfl⟩:=List.getElem?_eq_some_iff.1 hi
 obtain ⟨h2,rfl⟩:=List.getElem?_eq_some_iff.1 hj
 exact (List.pairwise_iff_getElem.1 h) i j h1 h2 hij
theorem bsN_calls (A:Option Addr) (n c:Nat) (l:List Nm) (nm:ByteArray) (w:World) (h:NSl w A n l) (ha:AscN l) (hn:n<=17179869184) :
  Calls Tryz.prog 100 #[.slice A n c,.string nm,.func (.func 101) #[] #[]] w fun e w'=>Fr (fun _=>False) w w'/\∃ i:Nat,e=.returned (.tuple #[.int .i64 i,.bool (isN nm i l)])/\PlN nm i l:=by
 refine (F100s.of A n c nm w (Q:=fun v w'=>Fr (fun _=>False) w w'/\∃ i:Nat,v=.tuple #[.int .i64 i,.bool (isN nm i l)]/\PlN nm i l) ?_).mono (fun e w' ⟨v,he,hf,i,hv,h⟩=>⟨hf,i,by rw [he,hv],h⟩)
 have hl:=h.2
 refine jnC_mk (loop_rule (fun s u=>Fr (fun _=>False) w u/\∃ i j:Nat,i<=j/\j<=n/\s=((A,n,c),nm,(),(n:Int),(i:Int),(j:Int),())/\(∀ x ∈ l.take i,cmpN x.1 nm < 0)/\∀ x ∈ l.drop j,¬ cmpN x.1 nm < 0)
  (fun s _=>(s.2.2.2.2.2.1 - s.2.2.2.2.1).toNat) ?_ _ _ ⟨Fr.refl _ _,0,n,by omega,by omega,rfl,by simp,by rw [List.drop_of_length_le (by omega)]; intro x hx; cases hx⟩)
 rintro s u C ⟨hf,i,j,hij,hjn,rfl,hlo,hhi⟩ hC _
 refine vIf_mk (fun hlt=>?_) (fun hge=>?_)
 ·have hlt2:(i:Int) < (j:Int):=of_decide_eq_true hlt
  have em:IntKind.wrap .i64 (Int.fdiv (IntKind.wrap .u64 (IntKind.wrap .i64 ((i:Int)+(j:Int)))) (2 ^ 1))=(((i+j) / 2:Nat):Int):=by
   rw [i64_id (n:=(i:Int)+(j:Int)) (by omega) (by omega),IntKind.wrap_u64,Int.fdiv_eq_ediv_of_nonneg _ (by decide),i64_id (by omega) (by omega)]; omega
  have gi:l[(i+j) / 2]?=some (l[(i+j) / 2]'(by omega)):=List.getElem?_eq_getElem (by omega)
  generalize l[(i+j) / 2]'(by omega)=x at gi
  dsimp only
  rw [em]
  refine n_rd (h.fr0 hf) gi rfl ((byName_calls x nm u).mono ?_)
  rintro r u2 ⟨rfl,f2⟩
  refine ⟨_,rfl,vIf_mk (fun h1=>jnC_mk (hC _ _ ⟨hf.trans1 f2,(i+j) / 2+1,j,by omega,hjn,by rw [ei _ (by omega)],fun y hy=>?_,hhi⟩ ?_)) (fun h1=>jnC_mk (hC _ _ ⟨hf.trans1 f2,i,(i+j) / 2,by omega,by omega,rfl,hlo,fun y hy=>?_⟩ ?_))⟩
  ·have h1:=of_decide_eq_true h1
   obtain ⟨q,hq,hy⟩:=mem_take_lt hy
   by_cases hqm:q=(i+j) / 2
   ·rw [hqm] at hy; rw [gi] at hy; injection hy with hy; subst hy; exact h1
   ·exact cmpN_trans (asc_lt ha hy gi (by omega)) h1
  ·show ((j:Int) - IntKind.wrap .i64 ((((i+j) / 2:Nat):Int)+1)).toNat < ((j:Int) - (i:Int)).toNat
   rw [ei _ (by omega)]; omega
  ·have h1:=of_decide_eq_false h1
   obtain ⟨q,hq,hy⟩:=mem_drop_ge hy
   by_cases hqm:q=(i+j) / 2
   ·rw [hqm] at hy; rw [gi] at hy; injection hy with hy; subst hy; exact h1
   ·intro h2
    exact h1 (cmpN_trans (asc_lt ha gi hy (by omega)) h2)
  ·show ((((i+j) / 2:Nat):Int) - (i:Int)).toNat < ((j:Int) - (i:Int)).toNat
   omega
 ·have hge2:¬ (i:Int) < (j:Int):=of_decide_eq_false hge
  have hij2:i=j:=by omega
  subst hij2
  have hpl:PlN nm i l:=⟨by omega,hlo,hhi⟩
  refine vIf_mk (fun h1=>?_) (fun h1=>?_)
  ·have h1:(i:Int) < (n:Int):=of_decide_eq_true h1
   have gi:l[i]?=some (l[i]'(by omega)):=List.getElem?_eq_getElem (by omega)
   generalize l[i]'(by omega)=x at gi
   refine n_rd (h.fr0 hf) gi rfl ((byName_calls x nm u).mono ?_)
   rintro r u2 ⟨rfl,f2⟩
   refine ⟨_,rfl,hf.trans1 f2,i,?_,hpl⟩
   have:isN nm i l=(cmpN x.1 nm == 0):=by
    unfold isN
    rw [gi,Bool.eq_iff_iff,decide_eq_true_iff,beq_iff_eq]
    exact (cmpN_zero _ _).symm
   rw [this]
  ·have h1:¬ (i:Int) < (n:Int):=of_decide_eq_false h1
   refine ⟨hf,i,?_,hpl⟩
   have:isN nm i l=false:=by
    unfold isN
    rw [List.getElem?_eq_none (by omega)]
   rw [this]
theorem row_clearN {w:World} {B:Nat} {b n c k:Nat} {P:List Nm} {K:World->Prop} (hr:NRow w B (some ⟨b,0,none⟩) n c P) (hk:k < n)
  (hK:∀ w',NRow w' B (some ⟨b,0,none⟩) k c (P.take k)->Fr (fun j=>j=b) w w'->K w'):dr (slA (some (⟨b,0,none⟩:Addr)) c k 2) fun b o=>st w b o (zeros (n - k) [.string (⟨#[]⟩:ByteArray),.int .i64 0]) K:=by
 have hle:=hr.1.le
 have hPl:=hr.2
 have hzl:(zeros (n - k) [Value.string (⟨#[]⟩:ByteArray),.int .i64 0]).length=(n - k) * 2:=by rw [zeros_length]; rfl
 have hpt:=row_putG (o':=k * 2) (us:=zeros (n - k) [Value.string (⟨#[]⟩:ByteArray),.int .i64 0]) (K:=K) hr.1 (by omega) (by rw [hzl]; omega) (zeros_one (by simp; exact ⟨rfl,rfl⟩)) (fun w6 hr6 f6=>hK w6 ⟨?_,by rw [List.length_take]; omega⟩ (f6.mono (fun j _ hj=>by simpa [blkOf] using hj.symm)))
 ·rw [slS (by omega),<- Nat.zero_add (k * 2)]
  exact hpt
 ·have h7:=row_cutG hr6 (k:=k) (by omega)
  have e:(splice (flt encN P) (k * 2) (zeros (n - k) [Value.string (⟨#[]⟩:ByteArray),.int .i64 0])).take (k * 2)=flt encN (P.take k):=by
   rw [<- encN_o.ft P (by omega)]
   unfold splice
   rw [List.append_assoc,List.take_append_of_le_length (by rw [List.length_take,encN_o.fl]; omega),List.take_take,Nat.min_self]
  rw [e] at h7
  exact h7
set_option maxHeartbeats 1000000 in
theorem compactN_calls (B:Nat) (A:Option Addr) (c:Nat) (r:List Nm) (n:Nat) (w:World) (h:NRow w B A n c r) (hn:n<=1099511627775) :
  Calls Tryz.prog 114 #[.slice A n c,.func (.func 115) #[] #[]] w fun e' w'=>e'=.returned (.slice A (cptN r n).length c)/\Fr (fun k=>blkOf A=some k) w w'/\NRow w' B A (cptN r n).length c (cptN r n):=by
 refine (F114s.of A n c w (Q:=fun v w'=>v=.slice A (cptN r n).length c/\Fr (fun k=>blkOf A=some k) w w'/\NRow w' B A (cptN r n).length c (cptN r n)) ?_).mono (fun e w' ⟨v,he,hv,h⟩=>⟨by rw [he,hv],h⟩)
 have hrl:=h.2
 have whole:∀ i,i<=n->cptN r i=r.take i->i=n->∀ u,Fr (fun k=>blkOf A=some k) w u->NRow u B A n c r->(Value.slice A n c=.slice A (cptN r n).length c/\Fr (fun k=>blkOf A=some k) w u/\NRow u B A (cptN r n).length c (cptN r n)):=by
  intro i hi hc he u hf hr
  subst he
  rw [hc,List.take_of_length_le (by omega),hrl]
  exact ⟨rfl,hf,hr⟩
 have one:1<=n->cptN r 1=r.take 1:=fun _=>by simp [cptN,List.take_one,List.head?_eq_getElem?]
 refine vIf_mk (fun h2=>?_) (fun h2=>jnC_mk ?_)
 ·have h2:(n:Int) < 2:=of_decide_eq_true h2
  refine whole n (Nat.le_refl _) ?_ rfl w (Fr.refl _ _) h
  match n,h2,one with
  | 0,_,_=>rfl
  | 1,_,one=>exact one (Nat.le_refl _)
  | n+2,h2,_=>omega
 have h2:¬ (n:Int) < 2:=of_decide_eq_false h2
 have hle:=h.1.le
 obtain ⟨b,hA⟩:∃ b,A=some ⟨b,0,none⟩:=by
  rcases h.1.at_ with ⟨_,h0,_⟩ | ⟨b,_,hA,_⟩
  ·omega
  ·exact ⟨b,hA⟩
 subst hA
 refine loop_rule (fun s u=>Fr (fun k=>blkOf (some (⟨b,0,none⟩:Addr))=some k) w u/\NRow u B (some ⟨b,0,none⟩) n c r/\∃ i:Nat,1<=i/\i<=n/\s=((some ⟨b,0,none⟩,n,c),(),(i:Int),())/\cptN r i=r.take i)
  (fun s _=>(n - s.2.2.1).toNat) ?_ _ _ ⟨Fr.refl _ _,h,1,by omega,by omega,rfl,one (by omega)⟩
 rintro s u C4 ⟨hf,hr,i,hi1,hi,rfl,hc⟩ hC4 _
 refine vIf_mk (fun hlt=>?_) (fun hge=>?_)
 ·have hlt2:(i:Int) < (n:Int):=of_decide_eq_true hlt
  have hrd:=hr.fr0 (Fr.drew (fun _=>False) u)
  have ei1:IntKind.wrap .i64 ((i:Int) - 1)=((i - 1:Nat):Int):=by rw [i64_id (by omega) (by omega)]; omega
  have gi:r[i]?=some (r[i]'(by omega)):=List.getElem?_eq_getElem (by omega)
  have gp:r[i - 1]?=some (r[i - 1]'(by omega)):=List.getElem?_eq_getElem (by omega)
  generalize r[i]'(by omega)=x at gi
  generalize r[i - 1]'(by omega)=y at gp
  dsimp only
  rw [ei1]
  refine n_rd hrd.sl gi rfl (n_rd hrd.sl gp rfl ((leq_calls x y u.drew).mono ?_))
  rintro e1 u1 ⟨rfl,f1⟩
  have hr1:=hrd.fr0 f1
  have hf1:Fr (fun k=>blkOf (some (⟨b,0,none⟩:Addr))=some k) w u1:=(hf.trans1 (Fr.drew _ _)).trans1 (f1.mono (fun _ _ h=>h.elim))
  refine ⟨_,rfl,vIf_mk (fun he=>?_) (fun hne=>?_)⟩
  ·have he:x.1=y.1:=of_decide_eq_true he
   have hsame:cptN r (i+1)=r.take i:=by
    rw [cptN,if_pos ⟨by omega,by rw [gi,gp,Option.map_some,Option.map_some,he]⟩,List.append_nil,hc]
   refine gd_mk (decide_eq_true (by omega)) (gd_mk (decide_eq_true (by omega)) (jnC_mk ?_))
   rw [Int.toNat_natCast]
   have hsl:slA (some (⟨b,0,none⟩:Addr)) c i 2=some ⟨b,i * 2,none⟩:=slS (by omega)
   rw [hsl]
   refine loop_rule (fun s u=>Fr (fun k=>blkOf (some (⟨b,0,none⟩:Addr))=some k) w u/\∃ (j:Nat) (P:List Nm),1<=j/\i+j<=n/\P.length=n/\NRow u B (some ⟨b,0,none⟩) n c P/\(cptN r (i+j)).length < i+j/\P.take (cptN r (i+j)).length=cptN r (i+j)/\P.drop (cptN r (i+j)).length=r.drop (cptN r (i+j)).length /\
     s=((some ⟨b,0,none⟩,n,c),(),(((cptN r (i+j)).length:Nat):Int),(some ⟨b,i * 2,none⟩,n - i,c - i),(j:Int),()))
    (fun s _=>(n - s.2.2.2.2.1).toNat) ?_ _ _ ⟨hf1,1,r,by omega,by omega,hrl,hr1,?_,?_,?_,?_⟩
   rotate_left
   ·rw [hsame,List.length_take]; omega
   ·rw [hsame,List.length_take,Nat.min_eq_left (by omega)]
   ·rfl
   ·rw [hsame,List.length_take,Nat.min_eq_left (by omega)]; rfl
   clear hC4 hf hr hrd hr1 hf1 f1 gi gp he hlt hlt2 ei1
   rintro s u C9 ⟨hf,j,P,hj1,hjn,hPl,hr,hk,htk,hdp,rfl⟩ hC9 _
   generalize hkk:(cptN r (i+j)).length=k at hk htk hdp
   have hrd:=hr.fr0 (Fr.drew (fun _=>False) u)
   have hget:∀ q,k<=q->P[q]?=r[q]?:=by
    intro q hq
    have h1:(P.drop k)[q - k]?=(r.drop k)[q - k]?:=by rw [hdp]
    rw [List.getElem?_drop,List.getElem?_drop,show k+(q - k)=q by omega] at h1
    exact h1
   have tail:∀ v,NRow v B (some ⟨b,0,none⟩) n c P->NSl v (some (⟨b,i * 2,none⟩:Addr)) (n - i) (P.drop i):=by
    intro v hv
    have:=hv.1.tailS (k:=i) (by omega)
    rw [hsl,encN_o.fd P (by omega)] at this
    exact ⟨this,by rw [List.length_drop]; omega⟩
   refine vIf_mk (fun hlt=>?_) (fun hge=>?_)
   ·have hlt3:(j:Int) < ((n - i:Nat):Int):=of_decide_eq_true hlt
    have ej:IntKind.wrap .i64 ((j:Int) - 1)=((j - 1:Nat):Int):=by rw [i64_id (by omega) (by omega)]; omega
    have gi:r[i+j]?=some (r[i+j]'(by omega)):=List.getElem?_eq_getElem (by omega)
    have gp:r[i+j - 1]?=some (r[i+j - 1]'(by omega)):=List.getElem?_eq_getElem (by omega)
    generalize r[i+j]'(by omega)=x at gi
    generalize r[i+j - 1]'(by omega)=y at gp
    have ti:(P.drop i)[j]?=some x:=by rw [List.getElem?_drop,hget _ (by omega),gi]
    have tp:(P.drop i)[j - 1]?=some y:=by rw [List.getElem?_drop,show i+(j - 1)=i+j - 1 by omega,hget _ (by omega),gp]
    dsimp only
    rw [ej]
    refine n_rd (tail _ hrd) ti rfl (n_rd (tail _ hrd) tp rfl ((leq_calls x y u.drew).mono ?_))
    rintro e1 u1 ⟨rfl,f1⟩
    have hr1:=hrd.fr0 f1
    have hf1:Fr (fun k=>blkOf (some (⟨b,0,none⟩:Addr))=some k) w u1:=(hf.trans1 (Fr.drew _ _)).trans1 (f1.mono (fun _ _ h=>h.elim))
    have enext:IntKind.wrap .i64 ((j:Int)+1)=((j+1:Nat):Int):=by rw [i64_id (by omega) (by omega)]; rfl
    have hmeas:((n:Int) - IntKind.wrap .i64 ((j:Int)+1)).toNat < ((n:Int) - (j:Int)).toNat:=by rw [enext]; omega
    refine ⟨_,rfl,vIf_mk (fun hne=>?_) (fun he=>?_)⟩
    ·have hne2:¬ x.1=y.1:=by simpa using hne
     have hnx:cptN r (i+(j+1))=cptN r (i+j) ++ [x]:=by
      rw [<- Nat.add_assoc,cptN,if_neg,gi,Option.toList_some]
      rintro ⟨_,h'⟩
      rw [gi,gp] at h'
      exact hne2 (Option.some.inj h')
     refine n_rd (tail _ hr1) ti rfl ?_
     refine el_put (enc:=encN) hr1.1 (fun _ _=>rfl) hr1.2 (i:=k) (by omega) rfl (y:=x) rfl (encN_o.one x) (fun u2 hr2 f2=>jnC_mk (hC9 _ _ ⟨hf1.trans1 f2,j+1,P.set k x,by omega,by omega,by simpa using hPl,⟨hr2,by simpa using hPl⟩,?_,?_,?_,?_⟩ hmeas))
     ·rw [hnx,List.length_append,hkk]; simp; omega
     ·rw [hnx,List.length_append,hkk]
      show (P.set k _).take (k+1)=_
      rw [List.take_add_one,List.getElem?_set_self (by omega),Option.toList_some,List.take_set_of_le (Nat.le_refl k),htk]
     ·rw [hnx,List.length_append,hkk]
      show (P.set k _).drop (k+1)=r.drop (k+1)
      rw [List.drop_set_of_lt (by omega)]
      have h3:=congrArg (List.drop 1) hdp
      rw [List.drop_drop,List.drop_drop] at h3
      exact h3
     ·rw [hnx,List.length_append,hkk,enext]
      show (_,_,IntKind.wrap .i64 ((k:Int)+1),_,_,())=_
      rw [i64_id (by omega) (by omega)]; rfl
    ·have he2:x.1=y.1:=by simpa using he
     have hnx:cptN r (i+(j+1))=cptN r (i+j):=by
      rw [<- Nat.add_assoc,cptN,if_pos ⟨by omega,by rw [gi,gp,Option.map_some,Option.map_some,he2]⟩,List.append_nil]
     exact jnC_mk (hC9 _ _ ⟨hf1,j+1,P,by omega,by omega,hPl,hr1,by rw [hnx,hkk]; omega,by rw [hnx,hkk]; exact htk,by rw [hnx,hkk]; exact hdp,by rw [hnx,hkk,enext]⟩ hmeas)
   ·have hge3:¬ (j:Int) < ((n - i:Nat):Int):=of_decide_eq_false hge
    have hij:i+j=n:=by omega
    rw [hij] at hkk htk
    dsimp only
    simp only [Int.toNat_natCast]
    refine gd_mk (decide_eq_true (by omega)) (gd_mk (decide_eq_true (by omega)) (vIf_f (by simp; omega) ?_))
    refine row_clearN hr (by omega) (fun u2 hr2 f2=>jnC_mk (fun _=>?_))
    refine gd_mk (decide_eq_true (by show (0:Int)<=(k:Int); omega)) (gd_mk (decide_eq_true (by show (k:Int)<=(c:Int); omega)) ⟨?_,hf.trans1 (f2.mono (fun q _ hq=>by subst hq; rfl)),?_⟩)
    ·show Value.slice (slA (some ⟨b,0,none⟩) c 0 2) ((k:Int).toNat) c=_
     rw [Int.toNat_natCast,hkk,sl0]
    ·rw [hkk]
     rw [htk] at hr2
     exact hr2
  ·have hne2:¬ x.1=y.1:=of_decide_eq_false hne
   refine jnC_mk (hC4 _ _ ⟨hf1,hr1,i+1,by omega,by omega,?_,?_⟩ ?_)
   ·show (_,_,IntKind.wrap .i64 ((i:Int)+1),())=_
    rw [i64_id (by omega) (by omega)]; rfl
   ·rw [cptN,if_neg,hc,List.take_add_one]
    rintro ⟨_,h'⟩
    rw [gi,gp] at h'
    exact hne2 (Option.some.inj h')
   ·show ((n:Int) - IntKind.wrap .i64 ((i:Int)+1)).toNat < ((n:Int) - (i:Int)).toNat
    rw [i64_id (by omega) (by omega)]; omega
 ·have hge2:¬ (i:Int) < (n:Int):=of_decide_eq_false hge
  exact whole i hi hc (by omega) u hf hr
end Go.Proofs.YtadbakmblklncaaGreatDoor
