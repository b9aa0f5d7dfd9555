import Derived.Lib.Bytealg
import Derived.Shelf.Lays
import Derived.Test.YthcdionpeoobbaaGreatDoorProg
import Derived.Shelf.Sort.Plain
import Derived.Shelf.Slices.In.SortNone
import Derived.Test.YthcdionpeoobbaaGreatDoorP2
set_option linter.unusedVariables false
set_option linter.unusedSimpArgs false
namespace Go.Proofs.YthcdionpeoobbaaGreatDoor
open Go.GV
set_option maxRecDepth 100000
open Go.Value renaming int -> VI, slice -> VS, tuple -> VT, pointer -> VP, string -> VG, bool -> VB
open Go.IntKind renaming wrap -> WR
def F154.vc (x0:List Value) (w:World) (Q:QT):Prop :=
 nw w x0 188 fun b1 w2 =>
 ldI .i64 w2 b1 (0+1) fun i3 =>
 vIf (decide (i3 >= 0))
 (ldI .i64 w2 b1 (0+1) fun i4 =>
 ldSl w2 b1 (0+2) fun A5 n6 c7 =>
 Q (VB (decide (i4<=(WR .i64 (1048576 - (n6:Int)))))) w2)
 (Q (VB false) w2)
def F154.an:Ann:=⟨[],[]⟩
theorem F154.of (x0:List Value) (w:World) {Q:QT} (h:F154.vc x0 w Q):Calls Tryz.prog 154 #[ofL x0] w (fun e w'=>∃ v,e=.returned v/\Q v w'):=vcFn_of (A:=F154.an) noCount mixed h (by kernel_rfl)
def F155.b6c (Q:QT) (C3:(ST×ST×Int×Unit)->WT) (C6:(ST×ST×Int×Int×Unit)->WT) (x0:ST) (x3:ST) (x4:Int) (x5:Int) (w:World):Prop :=
 vIf (decide (x5 < 8))
 (dr x0.1 fun b1 o2 =>
 gd (decide (0<=x4)) <|
 gd (decide (x4 < (x0.2.1:Int))) <|
 ldI .u8 w b1 (o2+(x4).toNat * 1) fun i3 =>
 gd (decide (0<=(WR .u64 x5))) <|
 nw w ([VB ((Int.tmod (Int.fdiv i3 (2 ^ (min ((WR .u64 x5)).toNat 8))) 2) == 1)] ++ []) 4 fun b4 w5 =>
 app w5 1 1 [VB false] 4 x3.1 x3.2.1 x3.2.2 (VS (some ⟨b4,0,none⟩) 1 1) fun A6 n7 c8 w9 =>
 jnC C6 ((x0.1,x0.2.1,x0.2.2),(A6,n7,c8),x4,((WR .i64 (x5+1))),()) w9)
 (jnC C3 ((x0.1,x0.2.1,x0.2.2),(x3.1,x3.2.1,x3.2.2),((WR .i64 (x4+1))),()) w)
def F155.b6 (Q:QT) (C3:(ST×ST×Int×Unit)->WT):(ST×ST×Int×Int×Unit)->World->((ST×ST×Int×Int×Unit)->WT)->Prop:=fun s w C6=>∀ _:Nat->Value,F155.b6c Q C3 C6 s.1 s.2.1 s.2.2.1 s.2.2.2.1 w
def F155.l6 (Q:QT) (C3:(ST×ST×Int×Unit)->WT):(ST×ST×Int×Int×Unit)->WT:=fun s w=>∃ n,loopC (F155.b6 Q C3) n s w
def F155.b3c (Q:QT) (C3:(ST×ST×Int×Unit)->WT) (x0:ST) (x3:ST) (x4:Int) (w:World):Prop :=
 vIf (decide (x4 < (x0.2.1:Int)))
 (jnC (F155.l6 Q C3) ((x0.1,x0.2.1,x0.2.2),(x3.1,x3.2.1,x3.2.2),x4,(0),()) w)
 (Q (VS x3.1 x3.2.1 x3.2.2) w)
def F155.b3 (Q:QT):(ST×ST×Int×Unit)->World->((ST×ST×Int×Unit)->WT)->Prop:=fun s w C3=>∀ _:Nat->Value,F155.b3c Q C3 s.1 s.2.1 s.2.2.1 w
def F155.l3 (Q:QT):(ST×ST×Int×Unit)->WT:=fun s w=>∃ n,loopC (F155.b3 Q) n s w
def F155.vc (x0A:Option Addr) (x0n x0c:Nat) (w:World) (Q:QT):Prop :=
 jnC (F155.l3 Q) ((x0A,x0n,x0c),(none,0,0),(0),()) w
def F155.an:Ann:=⟨[(3,[(0,.kSl),(3,.kSl),(4,.kI .i64)]),(6,[(0,.kSl),(3,.kSl),(4,.kI .i64),(5,.kI .i64)])],[]⟩
theorem F155.of (x0A:Option Addr) (x0n x0c:Nat) (w:World) {Q:QT} (h:F155.vc x0A x0n x0c w Q):Calls Tryz.prog 155 #[VS x0A x0n x0c] w (fun e w'=>∃ v,e=.returned v/\Q v w'):=vcFn_of (A:=F155.an) noCount mixed h (by kernel_rfl)
def F156.b2c (Q:QT) (C2:(Int×ByteArray×Int×Unit)->WT) (x0:Int) (x1:ByteArray) (x5:Int) (w:World):Prop :=
 vIf (decide (x5 < (x1.size:Int)))
 (gd (decide (0<=x5)) <|
 gd (decide (x5 < (x1.size:Int))) <|
 vIf ((byteAt x1 (x5).toNat) == x0)
 (Q (VB true) w)
 (jnC C2 (x0,x1,((WR .i64 (x5+1))),()) w))
 (Q (VB false) w)
def F156.b2 (Q:QT):(Int×ByteArray×Int×Unit)->World->((Int×ByteArray×Int×Unit)->WT)->Prop:=fun s w C2=>∀ _:Nat->Value,F156.b2c Q C2 s.1 s.2.1 s.2.2.1 w
def F156.l2 (Q:QT):(Int×ByteArray×Int×Unit)->WT:=fun s w=>∃ n,loopC (F156.b2 Q) n s w
def F156.vc (x0:Int) (x1:ByteArray) (w:World) (Q:QT):Prop :=
 jnC (F156.l2 Q) (x0,x1,(0),()) w
def F156.an:Ann:=⟨[(2,[(0,.kI .u8),(1,.kS),(5,.kI .i64)])],[]⟩
theorem F156.of (x0:Int) (x1:ByteArray) (w:World) {Q:QT} (h:F156.vc x0 x1 w Q):Calls Tryz.prog 156 #[VI .u8 x0,VG x1] w (fun e w'=>∃ v,e=.returned v/\Q v w'):=vcFn_of (A:=F156.an) noCount mixed h (by kernel_rfl)
def F157.b5c (Q:QT) (C5:(ST×Int×Int×Int×Unit)->WT) (x0:ST) (x1:Int) (x8:Int) (x9:Int) (w:World):Prop :=
 vIf (decide (x9 >= 0))
 (dr x0.1 fun b1 o2 =>
 gd (decide (0<=(WR .i64 (x1+x9)))) <|
 gd (decide ((WR .i64 (x1+x9)) < (x0.2.1:Int))) <|
 ldI .u8 w b1 (o2+((WR .i64 (x1+x9))).toNat * 1) fun i3 =>
 jnC C5 ((x0.1,x0.2.1,x0.2.2),x1,((WR .u64 ((WR .u64 (x8 * 256))+(WR .u64 i3)))),((WR .i64 (x9 - 1))),()) w)
 (Q (VT #[VI .u64 x8,VB true]) w)
def F157.b5 (Q:QT):(ST×Int×Int×Int×Unit)->World->((ST×Int×Int×Int×Unit)->WT)->Prop:=fun s w C5=>∀ _:Nat->Value,F157.b5c Q C5 s.1 s.2.1 s.2.2.1 s.2.2.2.1 w
def F157.l5 (Q:QT):(ST×Int×Int×Int×Unit)->WT:=fun s w=>∃ n,loopC (F157.b5 Q) n s w
def F157.k3c (Q:QT) (x0:ST) (x1:Int) (x2:Int) (w:World):Prop :=
 jnC (F157.l5 Q) ((x0.1,x0.2.1,x0.2.2),x1,(0),((WR .i64 (x2 - 1))),()) w
def F157.k3 (Q:QT):(ST×Int×Int×Unit)->WT:=fun s w=>∀ _:Nat->Value,F157.k3c Q s.1 s.2.1 s.2.2.1 w
def F157.vc (x0A:Option Addr) (x0n x0c:Nat) (x1:Int) (x2:Int) (w:World) (Q:QT):Prop :=
 vIf (decide (x2 < 1))
 (Q (VT #[VI .u64 0,VB false]) w)
 (vIf (decide (x2 > 8))
 (Q (VT #[VI .u64 0,VB false]) w)
 (vIf (decide (x1 < 0))
 (Q (VT #[VI .u64 0,VB false]) w)
 (vIf (decide ((WR .i64 ((x0n:Int) - x2)) < x1))
 (Q (VT #[VI .u64 0,VB false]) w)
 (jnC (F157.k3 Q) ((x0A,x0n,x0c),x1,x2,()) w))))
def F157.an:Ann:=⟨[(5,[(0,.kSl),(1,.kI .i64),(8,.kI .u64),(9,.kI .i64)])],[(3,[(0,.kSl),(1,.kI .i64),(2,.kI .i64)])]⟩
theorem F157.of (x0A:Option Addr) (x0n x0c:Nat) (x1:Int) (x2:Int) (w:World) {Q:QT} (h:F157.vc x0A x0n x0c x1 x2 w Q):Calls Tryz.prog 157 #[VS x0A x0n x0c,VI .i64 x1,VI .i64 x2] w (fun e w'=>∃ v,e=.returned v/\Q v w'):=vcFn_of (A:=F157.an) noCount mixed h (by kernel_rfl)
def F158.b3c (Q:QT) (C3:(ST×NT×NT×Int×Unit)->WT) (x0:ST) (x2:NT) (x3:NT) (x4:Int) (w:World):Prop :=
 vIf (decide (x4 < 32))
 (dr x0.1 fun b5 o6 =>
 gd (decide (0<=x4)) <|
 gd (decide (x4 < (x0.2.1:Int))) <|
 ldI .u8 w b5 (o6+(x4).toNat * 1) fun i7 =>
 gd (decide (0<=x4)) <|
 gd (decide (x4 < 32)) <|
 st w x3.1 (x3.2+(x4).toNat * 1) [VI .u8 i7] fun w8 =>
 jnC C3 ((x0.1,x0.2.1,x0.2.2),(x2.1,x2.2),(x3.1,x3.2),((WR .i64 (x4+1))),()) w8)
 (ldA 32 w x3.1 x3.2 fun a9 =>
 gd (a9.length == 32) <|
 st w x2.1 x2.2 a9 fun w10 =>
 ldA 32 w10 x2.1 x2.2 fun a11 =>
 Q (ofL a11) w10)
def F158.b3 (Q:QT):(ST×NT×NT×Int×Unit)->World->((ST×NT×NT×Int×Unit)->WT)->Prop:=fun s w C3=>∀ _:Nat->Value,F158.b3c Q C3 s.1 s.2.1 s.2.2.1 s.2.2.2.1 w
def F158.l3 (Q:QT):(ST×NT×NT×Int×Unit)->WT:=fun s w=>∃ n,loopC (F158.b3 Q) n s w
def F158.vc (x0A:Option Addr) (x0n x0c:Nat) (w:World) (Q:QT):Prop :=
 nw w Z90 90 fun b1 w2 =>
 nw w2 Z90 90 fun b3 w4 =>
 jnC (F158.l3 Q) ((x0A,x0n,x0c),(b1,0),(b3,0),(0),()) w4
def F158.an:Ann:=⟨[(3,[(0,.kSl),(2,.kL),(3,.kL),(4,.kI .i64)])],[]⟩
theorem F158.of (x0A:Option Addr) (x0n x0c:Nat) (w:World) {Q:QT} (h:F158.vc x0A x0n x0c w Q):Calls Tryz.prog 158 #[VS x0A x0n x0c] w (fun e w'=>∃ v,e=.returned v/\Q v w'):=vcFn_of (A:=F158.an) noCount mixed h (by kernel_rfl)
def F159.k11c (Q:QT) (x1:NT) (x2:NT) (x3:Int) (x4:NT) (w:World):Prop :=
 vIf (x3 == 6)
 (ldI .i64 w x1.1 (x1.2+37) fun i20 =>
 st w x4.1 (x4.2+37) [VI .i64 i20] fun w21 =>
 ldA 38 w21 x4.1 x4.2 fun a22 =>
 gd (a22.length == 38) <|
 st w21 x2.1 x2.2 a22 fun w23 =>
 ldA 38 w23 x2.1 x2.2 fun a24 =>
 Q (ofL a24) w23)
 (vIf (x3 == 8)
 (ldI .i64 w x1.1 (x1.2+37) fun i25 =>
 st w x4.1 (x4.2+37) [VI .i64 i25] fun w26 =>
 ldA 38 w26 x4.1 x4.2 fun a27 =>
 gd (a27.length == 38) <|
 st w26 x2.1 x2.2 a27 fun w28 =>
 ldA 38 w28 x2.1 x2.2 fun a29 =>
 Q (ofL a29) w28)
 (ldA 38 w x4.1 x4.2 fun a30 =>
 gd (a30.length == 38) <|
 st w x2.1 x2.2 a30 fun w31 =>
 ldA 38 w31 x2.1 x2.2 fun a32 =>
 Q (ofL a32) w31))
def F159.k11 (Q:QT):(NT×NT×Int×NT×Unit)->WT:=fun s w=>∀ _:Nat->Value,F159.k11c Q s.1 s.2.1 s.2.2.1 s.2.2.2.1 w
def F159.k9c (Q:QT) (x1:NT) (x2:NT) (x3:Int) (x4:NT) (w:World):Prop :=
 vIf (decide (x3 >= 6))
 (ldI .i64 w x1.1 (x1.2+36) fun i18 =>
 st w x4.1 (x4.2+36) [VI .i64 i18] fun w19 =>
 jnC (F159.k11 Q) ((x1.1,x1.2),(x2.1,x2.2),x3,(x4.1,x4.2),()) w19)
 (jnC (F159.k11 Q) ((x1.1,x1.2),(x2.1,x2.2),x3,(x4.1,x4.2),()) w)
def F159.k9 (Q:QT):(NT×NT×Int×NT×Unit)->WT:=fun s w=>∀ _:Nat->Value,F159.k9c Q s.1 s.2.1 s.2.2.1 s.2.2.2.1 w
def F159.k7c (Q:QT) (x1:NT) (x2:NT) (x3:Int) (x4:NT) (w:World):Prop :=
 vIf (x3 == 3)
 (ldS w x1.1 (x1.2+34) fun s16 =>
 st w x4.1 (x4.2+34) [VG s16] fun w17 =>
 jnC (F159.k9 Q) ((x1.1,x1.2),(x2.1,x2.2),x3,(x4.1,x4.2),()) w17)
 (vIf (x3 == 4)
 (ldS w x1.1 (x1.2+34) fun s33 =>
 st w x4.1 (x4.2+34) [VG s33] fun w34 =>
 jnC (F159.k9 Q) ((x1.1,x1.2),(x2.1,x2.2),x3,(x4.1,x4.2),()) w34)
 (jnC (F159.k9 Q) ((x1.1,x1.2),(x2.1,x2.2),x3,(x4.1,x4.2),()) w))
def F159.k7 (Q:QT):(NT×NT×Int×NT×Unit)->WT:=fun s w=>∀ _:Nat->Value,F159.k7c Q s.1 s.2.1 s.2.2.1 s.2.2.2.1 w
def F159.k5c (Q:QT) (x1:NT) (x2:NT) (x3:Int) (x4:NT) (w:World):Prop :=
 vIf (decide (x3<=2))
 (ldSl w x1.1 (x1.2+35) fun A12 n13 c14 =>
 st w x4.1 (x4.2+35) [VS A12 n13 c14] fun w15 =>
 jnC (F159.k7 Q) ((x1.1,x1.2),(x2.1,x2.2),x3,(x4.1,x4.2),()) w15)
 (jnC (F159.k7 Q) ((x1.1,x1.2),(x2.1,x2.2),x3,(x4.1,x4.2),()) w)
def F159.k5 (Q:QT):(NT×NT×Int×NT×Unit)->WT:=fun s w=>∀ _:Nat->Value,F159.k5c Q s.1 s.2.1 s.2.2.1 s.2.2.2.1 w
def F159.vc (x0:List Value) (w:World) (Q:QT):Prop :=
 nw w x0 92 fun b1 w2 =>
 nw w2 Z92 92 fun b3 w4 =>
 ldI .i64 w4 b1 0 fun i5 =>
 ldI .u64 w4 b1 (0+1) fun i6 =>
 nw w4 Z92 92 fun b7 w8 =>
 gd (([VI .i64 i5] ++ ([VI .u64 i6] ++ ([VI .u8 0,VI .u8 0,VI .u8 0,VI .u8 0,VI .u8 0,VI .u8 0,VI .u8 0,VI .u8 0,VI .u8 0,VI .u8 0,VI .u8 0,VI .u8 0,VI .u8 0,VI .u8 0,VI .u8 0,VI .u8 0,VI .u8 0,VI .u8 0,VI .u8 0,VI .u8 0,VI .u8 0,VI .u8 0,VI .u8 0,VI .u8 0,VI .u8 0,VI .u8 0,VI .u8 0,VI .u8 0,VI .u8 0,VI .u8 0,VI .u8 0,VI .u8 0] ++ ([VG (⟨#[]⟩:ByteArray)] ++ ([VS none 0 0] ++ ([VI .i64 0] ++ ([VI .i64 0] ++ []))))))).length == 38) <|
 st w8 b7 0 ([VI .i64 i5] ++ ([VI .u64 i6] ++ ([VI .u8 0,VI .u8 0,VI .u8 0,VI .u8 0,VI .u8 0,VI .u8 0,VI .u8 0,VI .u8 0,VI .u8 0,VI .u8 0,VI .u8 0,VI .u8 0,VI .u8 0,VI .u8 0,VI .u8 0,VI .u8 0,VI .u8 0,VI .u8 0,VI .u8 0,VI .u8 0,VI .u8 0,VI .u8 0,VI .u8 0,VI .u8 0,VI .u8 0,VI .u8 0,VI .u8 0,VI .u8 0,VI .u8 0,VI .u8 0,VI .u8 0,VI .u8 0] ++ ([VG (⟨#[]⟩:ByteArray)] ++ ([VS none 0 0] ++ ([VI .i64 0] ++ ([VI .i64 0] ++ []))))))) fun w9 =>
 vIf (decide (i5<=3))
 (ldA 32 w9 b1 (0+2) fun a10 =>
 gd (a10.length == 32) <|
 st w9 b7 (0+2) a10 fun w11 =>
 jnC (F159.k5 Q) ((b1,0),(b3,0),i5,(b7,0),()) w11)
 (vIf (i5 == 5)
 (ldA 32 w9 b1 (0+2) fun a35 =>
 gd (a35.length == 32) <|
 st w9 b7 (0+2) a35 fun w36 =>
 jnC (F159.k5 Q) ((b1,0),(b3,0),i5,(b7,0),()) w36)
 (jnC (F159.k5 Q) ((b1,0),(b3,0),i5,(b7,0),()) w9))
def F159.an:Ann:=⟨[],[(5,[(1,.kL),(2,.kL),(3,.kI .i64),(4,.kL)]),(7,[(1,.kL),(2,.kL),(3,.kI .i64),(4,.kL)]),(9,[(1,.kL),(2,.kL),(3,.kI .i64),(4,.kL)]),(11,[(1,.kL),(2,.kL),(3,.kI .i64),(4,.kL)])]⟩
theorem F159.of (x0:List Value) (w:World) {Q:QT} (h:F159.vc x0 w Q):Calls Tryz.prog 159 #[ofL x0] w (fun e w'=>∃ v,e=.returned v/\Q v w'):=vcFn_of (A:=F159.an) noCount mixed h (by kernel_rfl)
def F161.k5c (Q:QT) (x0:ST) (x3:NT) (w:World):Prop :=
 ldI .i64 w x3.1 (x3.2+1) fun i19 =>
 ldSl w x3.1 (x3.2+2) fun A20 n21 c22 =>
 gd (decide (0<=(if (x0.2.1:Int) < (WR .i64 (i19+(n21:Int))) then (WR .i64 (i19+(n21:Int))) else (x0.2.1:Int)))) <|
 gd (decide ((if (x0.2.1:Int) < (WR .i64 (i19+(n21:Int))) then (WR .i64 (i19+(n21:Int))) else (x0.2.1:Int))<=(if (x0.2.1:Int) < (WR .i64 (i19+(n21:Int))) then (WR .i64 (i19+(n21:Int))) else (x0.2.1:Int)))) <|
 gd (decide ((if (x0.2.1:Int) < (WR .i64 (i19+(n21:Int))) then (WR .i64 (i19+(n21:Int))) else (x0.2.1:Int)) * 1<=281474976710656/\(if (x0.2.1:Int) < (WR .i64 (i19+(n21:Int))) then (WR .i64 (i19+(n21:Int))) else (x0.2.1:Int))<=9223372036854775807)) <|
 nw w (zeros ((if (x0.2.1:Int) < (WR .i64 (i19+(n21:Int))) then (WR .i64 (i19+(n21:Int))) else (x0.2.1:Int))).toNat [VI .u8 0]) 5 fun b23 w24 =>
 cpy w24 1 (some ⟨b23,0,none⟩) (((if (x0.2.1:Int) < (WR .i64 (i19+(n21:Int))) then (WR .i64 (i19+(n21:Int))) else (x0.2.1:Int))).toNat) (VS x0.1 x0.2.1 x0.2.2) fun n25 w26 =>
 ldI .i64 w26.drew x3.1 (x3.2+1) fun i27 =>
 gd (decide (0<=i27)) <|
 gd (decide (i27<=((((if (x0.2.1:Int) < (WR .i64 (i19+(n21:Int))) then (WR .i64 (i19+(n21:Int))) else (x0.2.1:Int))).toNat:Nat):Int))) <|
 ldSl w26.drew x3.1 (x3.2+2) fun A28 n29 c30 =>
 cpy w26.drew 1 (slA (some ⟨b23,0,none⟩) ((if (x0.2.1:Int) < (WR .i64 (i19+(n21:Int))) then (WR .i64 (i19+(n21:Int))) else (x0.2.1:Int))).toNat (i27).toNat 1) (((if (x0.2.1:Int) < (WR .i64 (i19+(n21:Int))) then (WR .i64 (i19+(n21:Int))) else (x0.2.1:Int))).toNat - (i27).toNat) (VS A28 n29 c30) fun n31 w32 =>
 Q (VS (some ⟨b23,0,none⟩) ((if (x0.2.1:Int) < (WR .i64 (i19+(n21:Int))) then (WR .i64 (i19+(n21:Int))) else (x0.2.1:Int))).toNat ((if (x0.2.1:Int) < (WR .i64 (i19+(n21:Int))) then (WR .i64 (i19+(n21:Int))) else (x0.2.1:Int))).toNat) w32
def F161.k5 (Q:QT):(ST×NT×Unit)->WT:=fun s w=>∀ _:Nat->Value,F161.k5c Q s.1 s.2.1 w
def F161.k2c (Q:QT) (x0:ST) (x3:NT) (x6:Bool) (w:World):Prop :=
 vIf x6
 (Calls Tryz.prog 89 #[VS x0.1 x0.2.1 x0.2.2] w fun e8 w7 =>
 ∃ (A9:Option Addr) (n10 c11:Nat),e8=.returned (VS A9 n10 c11)/\(
 Q (VS A9 n10 c11) w7))
 (ldB w x3.1 x3.2 fun t12 =>
 vIf t12
 (ldI .i64 w x3.1 (x3.2+1) fun i13 =>
 gd (decide (0<=(if (x0.2.1:Int) < i13 then (x0.2.1:Int) else i13))) <|
 gd (decide ((if (x0.2.1:Int) < i13 then (x0.2.1:Int) else i13)<=(x0.2.2:Int))) <|
 Calls Tryz.prog 89 #[VS (slA x0.1 x0.2.2 0 1) ((if (x0.2.1:Int) < i13 then (x0.2.1:Int) else i13)).toNat x0.2.2] w fun e15 w14 =>
 ∃ (A16:Option Addr) (n17 c18:Nat),e15=.returned (VS A16 n17 c18)/\(
 Q (VS A16 n17 c18) w14))
 (jnC (F161.k5 Q) ((x0.1,x0.2.1,x0.2.2),(x3.1,x3.2),()) w))
def F161.k2 (Q:QT):(ST×NT×Bool×Unit)->WT:=fun s w=>∀ _:Nat->Value,F161.k2c Q s.1 s.2.1 s.2.2.1 w
def F161.vc (x0A:Option Addr) (x0n x0c:Nat) (x1:List Value) (w:World) (Q:QT):Prop :=
 nw w x1 188 fun b1 w2 =>
 ldA 3 w2 b1 0 fun a3 =>
 Calls Tryz.prog 183 #[ofL a3] w2 fun e5 w4 =>
 ∃ t6:Bool,e5=.returned (VB t6)/\(
 vIf (!t6)
 (jnC (F161.k2 Q) ((x0A,x0n,x0c),(b1,0),true,()) w4)
 (ldB w4 b1 0 fun t33 =>
 vIf (!t33)
 (ldSl w4 b1 (0+2) fun A34 n35 c36 =>
 jnC (F161.k2 Q) ((x0A,x0n,x0c),(b1,0),((n35:Int) == 0),()) w4)
 (jnC (F161.k2 Q) ((x0A,x0n,x0c),(b1,0),false,()) w4)))
def F161.an:Ann:=⟨[],[(2,[(0,.kSl),(3,.kL),(6,.kB)]),(5,[(0,.kSl),(3,.kL)])]⟩
theorem F161.of (x0A:Option Addr) (x0n x0c:Nat) (x1:List Value) (w:World) {Q:QT} (h:F161.vc x0A x0n x0c x1 w Q):Calls Tryz.prog 161 #[VS x0A x0n x0c,ofL x1] w (fun e w'=>∃ v,e=.returned v/\Q v w'):=vcFn_of (A:=F161.an) noCount mixed h (by kernel_rfl)
def F162s.b9c (Q:QT) (C7:(ST×Int×Unit×Int×Unit)->WT) (C9:(ST×Int×Unit×Int×Int×Int×Unit)->WT) (x0:ST) (x1:Int) (x2:Unit) (x6:Int) (x7:Int) (x8:Int) (w:World):Prop :=
 vIf (decide (x8<=x1))
 (Calls Tryz.prog 185 #[VS x0.1 x0.2.1 x0.2.2,VI .i64 x7,VI .i64 (WR .i64 (x7+x6)),VI .i64 x8,Value.func (.func 122) #[] #[]] w fun e6 w5 =>
 e6=.returned (VT #[])/\(
 jnC C9 ((x0.1,x0.2.1,x0.2.2),x1,(),x6,x8,((WR .i64 (x8+(WR .i64 (2 * x6))))),()) w5))
 (vIf (decide ((WR .i64 (x7+x6)) < x1))
 (Calls Tryz.prog 185 #[VS x0.1 x0.2.1 x0.2.2,VI .i64 x7,VI .i64 (WR .i64 (x7+x6)),VI .i64 x1,Value.func (.func 122) #[] #[]] w fun e8 w7 =>
 e8=.returned (VT #[])/\(
 jnC C7 ((x0.1,x0.2.1,x0.2.2),x1,(),((WR .i64 (x6 * 2))),()) w7))
 (jnC C7 ((x0.1,x0.2.1,x0.2.2),x1,(),((WR .i64 (x6 * 2))),()) w))
def F162s.b9 (Q:QT) (C7:(ST×Int×Unit×Int×Unit)->WT):(ST×Int×Unit×Int×Int×Int×Unit)->World->((ST×Int×Unit×Int×Int×Int×Unit)->WT)->Prop:=fun s w C9=>∀ _:Nat->Value,F162s.b9c Q C7 C9 s.1 s.2.1 s.2.2.1 s.2.2.2.1 s.2.2.2.2.1 s.2.2.2.2.2.1 w
def F162s.l9 (Q:QT) (C7:(ST×Int×Unit×Int×Unit)->WT):(ST×Int×Unit×Int×Int×Int×Unit)->WT:=fun s w=>∃ n,loopC (F162s.b9 Q C7) n s w
def F162s.b7c (Q:QT) (C7:(ST×Int×Unit×Int×Unit)->WT) (x0:ST) (x1:Int) (x2:Unit) (x6:Int) (w:World):Prop :=
 vIf (decide (x6 < x1))
 (jnC (F162s.l9 Q C7) ((x0.1,x0.2.1,x0.2.2),x1,(),x6,(0),((WR .i64 (2 * x6))),()) w)
 (Q (VT #[]) w)
def F162s.b7 (Q:QT):(ST×Int×Unit×Int×Unit)->World->((ST×Int×Unit×Int×Unit)->WT)->Prop:=fun s w C7=>∀ _:Nat->Value,F162s.b7c Q C7 s.1 s.2.1 s.2.2.1 s.2.2.2.1 w
def F162s.l7 (Q:QT):(ST×Int×Unit×Int×Unit)->WT:=fun s w=>∃ n,loopC (F162s.b7 Q) n s w
def F162s.b2c (Q:QT) (C2:(ST×Int×Unit×Int×Int×Int×Unit)->WT) (x0:ST) (x1:Int) (x2:Unit) (x6:Int) (x7:Int) (x8:Int) (w:World):Prop :=
 vIf (decide (x8<=x1))
 (Calls Tryz.prog 184 #[VS x0.1 x0.2.1 x0.2.2,VI .i64 x7,VI .i64 x8,Value.func (.func 122) #[] #[]] w fun e2 w1 =>
 e2=.returned (VT #[])/\(
 jnC C2 ((x0.1,x0.2.1,x0.2.2),x1,(),x6,x8,((WR .i64 (x8+x6))),()) w1))
 (Calls Tryz.prog 184 #[VS x0.1 x0.2.1 x0.2.2,VI .i64 x7,VI .i64 x1,Value.func (.func 122) #[] #[]] w fun e4 w3 =>
 e4=.returned (VT #[])/\(
 jnC (F162s.l7 Q) ((x0.1,x0.2.1,x0.2.2),x1,(),x6,()) w3))
def F162s.b2 (Q:QT):(ST×Int×Unit×Int×Int×Int×Unit)->World->((ST×Int×Unit×Int×Int×Int×Unit)->WT)->Prop:=fun s w C2=>∀ _:Nat->Value,F162s.b2c Q C2 s.1 s.2.1 s.2.2.1 s.2.2.2.1 s.2.2.2.2.1 s.2.2.2.2.2.1 w
def F162s.l2 (Q:QT):(ST×Int×Unit×Int×Int×Int×Unit)->WT:=fun s w=>∃ n,loopC (F162s.b2 Q) n s w
def F162s.vc (x0A:Option Addr) (x0n x0c:Nat) (x1:Int) (w:World) (Q:QT):Prop :=
 jnC (F162s.l2 Q) ((x0A,x0n,x0c),x1,(),(20),(0),(20),()) w
def F162s.an:Ann:=⟨[(2,[(0,.kSl),(1,.kI .i64),(2,.kF 122),(6,.kI .i64),(7,.kI .i64),(8,.kI .i64)]),(7,[(0,.kSl),(1,.kI .i64),(2,.kF 122),(6,.kI .i64)]),(9,[(0,.kSl),(1,.kI .i64),(2,.kF 122),(6,.kI .i64),(7,.kI .i64),(8,.kI .i64)])],[]⟩
theorem F162s.of (x0A:Option Addr) (x0n x0c:Nat) (x1:Int) (w:World) {Q:QT} (h:F162s.vc x0A x0n x0c x1 w Q):Calls Tryz.prog 162 #[VS x0A x0n x0c,VI .i64 x1,Value.func (.func 122) #[] #[]] w (fun e w'=>∃ v,e=.returned v/\Q v w'):=vcFn_of (A:=F162s.an) noCount mixed h (by kernel_rfl)
def F163.vc (x0A:Option Addr) (x0n x0c:Nat) (x1:Int) (x2A:Option Addr) (x2n x2c:Nat) (w:World) (Q:QT):Prop :=
 gd (decide (0<=x1)) <|
 gd (decide (x1<=(x0n:Int))) <|
 vIf ((x2n:Int) == 0)
 (Q (VS x0A x0n x0c) w)
 (vIf (x1 == (x0n:Int))
 (app w 2 24 [VG (⟨#[]⟩:ByteArray),VI .i64 0] 62 x0A x0n x0c (VS x2A x2n x2c) fun A1 n2 c3 w4 =>
 Q (VS A1 n2 c3) w4)
 (vIf (decide ((WR .i64 ((x0n:Int)+(x2n:Int))) > (x0c:Int)))
 (gd (decide (0<=x1)) <|
 gd (decide (x1<=(x0c:Int))) <|
 appZ w 2 24 [VG (⟨#[]⟩:ByteArray),VI .i64 0] 62 (slA x0A x0c 0 2) ((x1).toNat) x0c (WR .i64 ((WR .i64 ((x0n:Int)+(x2n:Int))) - x1)) fun A5 n6 c7 w8 =>
 gd (decide (0<=x1)) <|
 gd (decide (x1<=(n6:Int))) <|
 cpy w8 2 (slA A5 c7 (x1).toNat 2) (n6 - (x1).toNat) (VS x2A x2n x2c) fun n9 w10 =>
 gd (decide (0<=(WR .i64 (x1+(x2n:Int))))) <|
 gd (decide ((WR .i64 (x1+(x2n:Int)))<=(n6:Int))) <|
 gd (decide (0<=x1)) <|
 gd (decide (x1<=(x0n:Int))) <|
 cpy w10.drew 2 (slA A5 c7 ((WR .i64 (x1+(x2n:Int)))).toNat 2) (n6 - ((WR .i64 (x1+(x2n:Int)))).toNat) (VS (slA x0A x0c (x1).toNat 2) (x0n - (x1).toNat) (x0c - (x1).toNat)) fun n11 w12 =>
 Q (VS A5 n6 c7) w12)
 (gd (decide (0<=(WR .i64 ((x0n:Int)+(x2n:Int))))) <|
 gd (decide ((WR .i64 ((x0n:Int)+(x2n:Int)))<=(x0c:Int))) <|
 gd (decide (0<=(WR .i64 (x1+(x2n:Int))))) <|
 gd (decide ((WR .i64 (x1+(x2n:Int)))<=((((WR .i64 ((x0n:Int)+(x2n:Int)))).toNat:Nat):Int))) <|
 extC Tryz.prog 186 #[VS x2A x2n x2c,VS (slA (slA x0A x0c 0 2) x0c ((WR .i64 (x1+(x2n:Int)))).toNat 2) (((WR .i64 ((x0n:Int)+(x2n:Int)))).toNat - ((WR .i64 (x1+(x2n:Int)))).toNat) (x0c - ((WR .i64 (x1+(x2n:Int)))).toNat)] w fun v15 w13 =>
 ∃ t16:Bool,v15=VB t16/\(
 vIf (!t16)
 (gd (decide (0<=(WR .i64 (x1+(x2n:Int))))) <|
 gd (decide ((WR .i64 (x1+(x2n:Int)))<=((((WR .i64 ((x0n:Int)+(x2n:Int)))).toNat:Nat):Int))) <|
 gd (decide (0<=x1)) <|
 gd (decide (x1<=((((WR .i64 ((x0n:Int)+(x2n:Int)))).toNat:Nat):Int))) <|
 cpy w13.drew 2 (slA (slA x0A x0c 0 2) x0c ((WR .i64 (x1+(x2n:Int)))).toNat 2) (((WR .i64 ((x0n:Int)+(x2n:Int)))).toNat - ((WR .i64 (x1+(x2n:Int)))).toNat) (VS (slA (slA x0A x0c 0 2) x0c (x1).toNat 2) (((WR .i64 ((x0n:Int)+(x2n:Int)))).toNat - (x1).toNat) (x0c - (x1).toNat)) fun n17 w18 =>
 gd (decide (0<=x1)) <|
 gd (decide (x1<=((((WR .i64 ((x0n:Int)+(x2n:Int)))).toNat:Nat):Int))) <|
 cpy w18 2 (slA (slA x0A x0c 0 2) x0c (x1).toNat 2) (((WR .i64 ((x0n:Int)+(x2n:Int)))).toNat - (x1).toNat) (VS x2A x2n x2c) fun n19 w20 =>
 Q (VS (slA x0A x0c 0 2) ((WR .i64 ((x0n:Int)+(x2n:Int)))).toNat x0c) w20)
 (gd (decide (0<=(x0n:Int))) <|
 gd (decide ((x0n:Int)<=((((WR .i64 ((x0n:Int)+(x2n:Int)))).toNat:Nat):Int))) <|
 cpy w13 2 (slA (slA x0A x0c 0 2) x0c ((x0n:Int)).toNat 2) (((WR .i64 ((x0n:Int)+(x2n:Int)))).toNat - ((x0n:Int)).toNat) (VS x2A x2n x2c) fun n21 w22 =>
 gd (decide (0<=x1)) <|
 gd (decide (x1<=((((WR .i64 ((x0n:Int)+(x2n:Int)))).toNat:Nat):Int))) <|
 Calls Tryz.prog 187 #[VS (slA (slA x0A x0c 0 2) x0c (x1).toNat 2) (((WR .i64 ((x0n:Int)+(x2n:Int)))).toNat - (x1).toNat) (x0c - (x1).toNat),VI .i64 (x2n:Int)] w22 fun e24 w23 =>
 e24=.returned (VT #[])/\(
 Q (VS (slA x0A x0c 0 2) ((WR .i64 ((x0n:Int)+(x2n:Int)))).toNat x0c) w23))))))
def F163.an:Ann:=⟨[],[]⟩
theorem F163.of (x0A:Option Addr) (x0n x0c:Nat) (x1:Int) (x2A:Option Addr) (x2n x2c:Nat) (w:World) {Q:QT} (h:F163.vc x0A x0n x0c x1 x2A x2n x2c w Q):Calls Tryz.prog 163 #[VS x0A x0n x0c,VI .i64 x1,VS x2A x2n x2c] w (fun e w'=>∃ v,e=.returned v/\Q v w'):=vcFn_of (A:=F163.an) noCount mixed h (by kernel_rfl)
def F164.vc (x0A:Option Addr) (x0n x0c:Nat) (x1:Int) (x2:Int) (w:World) (Q:QT):Prop :=
 gd (decide (0<=(x0n:Int))) <|
 gd (decide ((x0n:Int)<=(x0c:Int))) <|
 gd (decide (0<=x2)) <|
 gd (decide (x2<=((((x0n:Int)).toNat:Nat):Int))) <|
 gd (decide (0<=x1)) <|
 gd (decide (x1<=(((x2).toNat:Nat):Int))) <|
 vIf (x1 == x2)
 (Q (VS x0A x0n x0c) w)
 (gd (decide (0<=x1)) <|
 gd (decide (x1<=(x0c:Int))) <|
 gd (decide (0<=x2)) <|
 gd (decide (x2<=(x0n:Int))) <|
 app w.drew 2 24 [VG (⟨#[]⟩:ByteArray),VI .i64 0] 62 (slA x0A x0c 0 2) ((x1).toNat) x0c (VS (slA x0A x0c (x2).toNat 2) (x0n - (x2).toNat) (x0c - (x2).toNat)) fun A1 n2 c3 w4 =>
 gd (decide (0<=(x0n:Int))) <|
 gd (decide ((x0n:Int)<=(c3:Int))) <|
 gd (decide (0<=(n2:Int))) <|
 gd (decide ((n2:Int)<=((((x0n:Int)).toNat:Nat):Int))) <|
 vIf ((((x0n:Int)).toNat - ((n2:Int)).toNat) == 0)
 (Q (VS A1 n2 c3) w4)
 (dr (slA A1 c3 ((n2:Int)).toNat 2) fun b6 o7 =>
 st w4 b6 o7 (zeros (((x0n:Int)).toNat - ((n2:Int)).toNat) [VG (⟨#[]⟩:ByteArray),VI .i64 0]) fun w5 =>
 Q (VS A1 n2 c3) w5))
def F164.an:Ann:=⟨[],[]⟩
theorem F164.of (x0A:Option Addr) (x0n x0c:Nat) (x1:Int) (x2:Int) (w:World) {Q:QT} (h:F164.vc x0A x0n x0c x1 x2 w Q):Calls Tryz.prog 164 #[VS x0A x0n x0c,VI .i64 x1,VI .i64 x2] w (fun e w'=>∃ v,e=.returned v/\Q v w'):=vcFn_of (A:=F164.an) noCount mixed h (by kernel_rfl)
def F177.b7c (Q:QT) (C3:(NT×NT×Int×Unit)->WT) (C7:(NT×NT×Int×Int×Int×Int×Unit)->WT) (x0:NT) (x1:NT) (x2:Int) (x3:Int) (x4:Int) (x9:Int) (w:World):Prop :=
 vIf (decide (x9 < 4))
 (vIf ((iAnd .u32 x3 1) == 1)
 (jnC C7 ((x0.1,x0.2),(x1.1,x1.2),x2,((iXor .u32 (Int.fdiv x3 (2 ^ 1)) 2197175160)),x4,((WR .i64 (x9+1))),()) w)
 (jnC C7 ((x0.1,x0.2),(x1.1,x1.2),x2,((Int.fdiv x3 (2 ^ 1))),x4,((WR .i64 (x9+1))),()) w))
 (gd (decide (0<=x2)) <|
 gd (decide (x2 < 16)) <|
 st w x1.1 (x1.2+(x2).toNat * 1) [VI .u32 x3] fun w5 =>
 jnC C3 ((x0.1,x0.2),(x1.1,x1.2),((WR .i64 (x4+1))),()) w5)
def F177.b7 (Q:QT) (C3:(NT×NT×Int×Unit)->WT):(NT×NT×Int×Int×Int×Int×Unit)->World->((NT×NT×Int×Int×Int×Int×Unit)->WT)->Prop:=fun s w C7=>∀ _:Nat->Value,F177.b7c Q C3 C7 s.1 s.2.1 s.2.2.1 s.2.2.2.1 s.2.2.2.2.1 s.2.2.2.2.2.1 w
def F177.l7 (Q:QT) (C3:(NT×NT×Int×Unit)->WT):(NT×NT×Int×Int×Int×Int×Unit)->WT:=fun s w=>∃ n,loopC (F177.b7 Q C3) n s w
def F177.b3c (Q:QT) (C3:(NT×NT×Int×Unit)->WT) (x0:NT) (x1:NT) (x4:Int) (w:World):Prop :=
 vIf (decide (x4 < 16))
 (jnC (F177.l7 Q C3) ((x0.1,x0.2),(x1.1,x1.2),x4,((WR .u32 x4)),x4,(0),()) w)
 (ldA 16 w x1.1 x1.2 fun a6 =>
 gd (a6.length == 16) <|
 st w x0.1 x0.2 a6 fun w7 =>
 ldA 16 w7 x0.1 x0.2 fun a8 =>
 Q (ofL a8) w7)
def F177.b3 (Q:QT):(NT×NT×Int×Unit)->World->((NT×NT×Int×Unit)->WT)->Prop:=fun s w C3=>∀ _:Nat->Value,F177.b3c Q C3 s.1 s.2.1 s.2.2.1 w
def F177.l3 (Q:QT):(NT×NT×Int×Unit)->WT:=fun s w=>∃ n,loopC (F177.b3 Q) n s w
def F177.vc  (w:World) (Q:QT):Prop :=
 nw w Z261 261 fun b1 w2 =>
 nw w2 Z261 261 fun b3 w4 =>
 jnC (F177.l3 Q) ((b1,0),(b3,0),(0),()) w4
def F177.an:Ann:=⟨[(3,[(0,.kL),(1,.kL),(4,.kI .i64)]),(7,[(0,.kL),(1,.kL),(2,.kI .i64),(3,.kI .u32),(4,.kI .i64),(9,.kI .i64)])],[]⟩
theorem F177.of  (w:World) {Q:QT} (h:F177.vc  w Q):Calls Tryz.prog 177 #[] w (fun e w'=>∃ v,e=.returned v/\Q v w'):=vcFn_of (A:=F177.an) noCount mixed h (by kernel_rfl)
def F178.vc (x0:Int) (w:World) (Q:QT):Prop :=
 vIf (decide (x0 >= 97))
 (vIf (decide (x0<=122))
 (Q (VB true) w)
 (vIf (decide (x0 >= 48))
 (Q (VB (decide (x0<=57))) w)
 (Q (VB false) w)))
 (vIf (decide (x0 >= 48))
 (Q (VB (decide (x0<=57))) w)
 (Q (VB false) w))
def F178.an:Ann:=⟨[],[]⟩
theorem F178.of (x0:Int) (w:World) {Q:QT} (h:F178.vc x0 w Q):Calls Tryz.prog 178 #[VI .u8 x0] w (fun e w'=>∃ v,e=.returned v/\Q v w'):=vcFn_of (A:=F178.an) noCount mixed h (by kernel_rfl)
def F179.k11c (Q:QT) (x2:NT) (x10:NT) (w:World):Prop :=
 ldA 5 w x10.1 x10.2 fun a28 =>
 gd (a28.length == 5) <|
 st w x2.1 x2.2 a28 fun w29 =>
 ldA 5 w29 x2.1 x2.2 fun a30 =>
 Q (VT #[ofL a30,VI .i64 0]) w29
def F179.k11 (Q:QT):(NT×NT×Unit)->WT:=fun s w=>∀ _:Nat->Value,F179.k11c Q s.1 s.2.1 w
def F179.k10c (Q:QT) (x2:NT) (x10:NT) (x43:Bool) (w:World):Prop :=
 vIf x43
 (gd (([VI .i64 0,VI .u64 0,VS none 0 0,VI .i64 0] ++ ([VI .i64 0] ++ [])).length == 5) <|
 st w x2.1 x2.2 ([VI .i64 0,VI .u64 0,VS none 0 0,VI .i64 0] ++ ([VI .i64 0] ++ [])) fun w26 =>
 ldA 5 w26 x2.1 x2.2 fun a27 =>
 Q (VT #[ofL a27,VI .i64 3]) w26)
 (jnC (F179.k11 Q) ((x2.1,x2.2),(x10.1,x10.2),()) w)
def F179.k10 (Q:QT):(NT×NT×Bool×Unit)->WT:=fun s w=>∀ _:Nat->Value,F179.k10c Q s.1 s.2.1 s.2.2.1 w
def F179.vc (x0A:Option Addr) (x0n x0c:Nat) (w:World) (Q:QT):Prop :=
 nw w Z265 265 fun b1 w2 =>
 vIf (decide ((x0n:Int) < 17))
 (gd (([VI .i64 0,VI .u64 0,VS none 0 0,VI .i64 0] ++ ([VI .i64 0] ++ [])).length == 5) <|
 st w2 b1 0 ([VI .i64 0,VI .u64 0,VS none 0 0,VI .i64 0] ++ ([VI .i64 0] ++ [])) fun w3 =>
 ldA 5 w3 b1 0 fun a4 =>
 Q (VT #[ofL a4,VI .i64 4]) w3)
 (Calls Tryz.prog 90 #[VS x0A x0n x0c,VI .i64 0,VI .i64 1] w2 fun e6 w5 =>
 ∃ i7:Int,∃ t8:Bool,e6=.returned (VT #[VI .u64 i7,VB t8])/\(
 Calls Tryz.prog 90 #[VS x0A x0n x0c,VI .i64 1,VI .i64 8] w5 fun e10 w9 =>
 ∃ i11:Int,∃ t12:Bool,e10=.returned (VT #[VI .u64 i11,VB t12])/\(
 Calls Tryz.prog 90 #[VS x0A x0n x0c,VI .i64 9,VI .i64 4] w9 fun e14 w13 =>
 ∃ i15:Int,∃ t16:Bool,e14=.returned (VT #[VI .u64 i15,VB t16])/\(
 gd (([VI .i64 (WR .i64 i7)] ++ ([VI .u64 i11] ++ ([VS none 0 0] ++ ([VI .i64 0] ++ [])))).length == 4) <|
 nw w13 Z265 265 fun b17 w18 =>
 gd ((([VI .i64 (WR .i64 i7)] ++ ([VI .u64 i11] ++ ([VS none 0 0] ++ ([VI .i64 0] ++ [])))) ++ ([VI .i64 (WR .i64 i15)] ++ [])).length == 5) <|
 st w18 b17 0 (([VI .i64 (WR .i64 i7)] ++ ([VI .u64 i11] ++ ([VS none 0 0] ++ ([VI .i64 0] ++ [])))) ++ ([VI .i64 (WR .i64 i15)] ++ [])) fun w19 =>
 gd (decide ((17:Int)<=(x0c:Int))) <|
 Calls Tryz.prog 181 #[VS (slA x0A x0c 0 1) 17 x0c] w19 fun e21 w20 =>
 ∃ t22:Bool,e21=.returned (VB t22)/\(
 vIf (!t22)
 (gd (([VI .i64 0,VI .u64 0,VS none 0 0,VI .i64 0] ++ ([VI .i64 0] ++ [])).length == 5) <|
 st w20 b1 0 ([VI .i64 0,VI .u64 0,VS none 0 0,VI .i64 0] ++ ([VI .i64 0] ++ [])) fun w23 =>
 ldA 5 w23 b1 0 fun a24 =>
 Q (VT #[ofL a24,VI .i64 5]) w23)
 (ldI .i64 w20 b17 0 fun i25 =>
 vIf (decide (i25 < 1))
 (jnC (F179.k10 Q) ((b1,0),(b17,0),true,()) w20)
 (ldI .i64 w20 b17 0 fun i31 =>
 vIf (decide (i31 > 8))
 (jnC (F179.k10 Q) ((b1,0),(b17,0),true,()) w20)
 (ldI .i64 w20 b17 (0+4) fun i32 =>
 jnC (F179.k10 Q) ((b1,0),(b17,0),(decide (i32 > 65536)),()) w20))))))))
def F179.an:Ann:=⟨[],[(10,[(2,.kL),(10,.kL),(43,.kB)]),(11,[(2,.kL),(10,.kL)])]⟩
theorem F179.of (x0A:Option Addr) (x0n x0c:Nat) (w:World) {Q:QT} (h:F179.vc x0A x0n x0c w Q):Calls Tryz.prog 179 #[VS x0A x0n x0c] w (fun e w'=>∃ v,e=.returned v/\Q v w'):=vcFn_of (A:=F179.an) noCount mixed h (by kernel_rfl)
def F180.vc (x0:Int) (w:World) (Q:QT):Prop :=
 Q (VI .i64 (WR .i64 ((WR .i64 (17+x0))+4))) w
def F180.an:Ann:=⟨[],[]⟩
theorem F180.of (x0:Int) (w:World) {Q:QT} (h:F180.vc x0 w Q):Calls Tryz.prog 180 #[VI .i64 x0] w (fun e w'=>∃ v,e=.returned v/\Q v w'):=vcFn_of (A:=F180.an) noCount mixed h (by kernel_rfl)
def F181.vc (x0A:Option Addr) (x0n x0c:Nat) (w:World) (Q:QT):Prop :=
 Calls Tryz.prog 90 #[VS x0A x0n x0c,VI .i64 (WR .i64 ((x0n:Int) - 4)),VI .i64 4] w fun e2 w1 =>
 ∃ i3:Int,∃ t4:Bool,e2=.returned (VT #[VI .u64 i3,VB t4])/\(
 gd (decide (0<=(WR .i64 ((x0n:Int) - 4)))) <|
 gd (decide ((WR .i64 ((x0n:Int) - 4))<=(x0c:Int))) <|
 Calls Tryz.prog 91 #[VS (slA x0A x0c 0 1) ((WR .i64 ((x0n:Int) - 4))).toNat x0c] w1 fun e6 w5 =>
 ∃ i7:Int,e6=.returned (VI .u32 i7)/\(
 Q (VB ((WR .u32 i3) == i7)) w5))
def F181.an:Ann:=⟨[],[]⟩
theorem F181.of (x0A:Option Addr) (x0n x0c:Nat) (w:World) {Q:QT} (h:F181.vc x0A x0n x0c w Q):Calls Tryz.prog 181 #[VS x0A x0n x0c] w (fun e w'=>∃ v,e=.returned v/\Q v w'):=vcFn_of (A:=F181.an) noCount mixed h (by kernel_rfl)
def F182.vc (x0A:Option Addr) (x0n x0c:Nat) (x1:Int) (x2:Int) (w:World) (Q:QT):Prop :=
 Calls Tryz.prog 90 #[VS x0A x0n x0c,VI .i64 x1,VI .i64 x2] w fun e2 w1 =>
 ∃ i3:Int,∃ t4:Bool,e2=.returned (VT #[VI .u64 i3,VB t4])/\(
 vIf (decide (i3 > 4294967295))
 (Q (VI .i64 0) w1)
 (Q (VI .i64 (WR .i64 i3)) w1))
def F182.an:Ann:=⟨[],[]⟩
theorem F182.of (x0A:Option Addr) (x0n x0c:Nat) (x1:Int) (x2:Int) (w:World) {Q:QT} (h:F182.vc x0A x0n x0c x1 x2 w Q):Calls Tryz.prog 182 #[VS x0A x0n x0c,VI .i64 x1,VI .i64 x2] w (fun e w'=>∃ v,e=.returned v/\Q v w'):=vcFn_of (A:=F182.an) noCount mixed h (by kernel_rfl)
def F183.vc (x0:List Value) (w:World) (Q:QT):Prop :=
 nw w x0 188 fun b1 w2 =>
 ldI .i64 w2 b1 (0+1) fun i3 =>
 vIf (decide (i3 >= 0))
 (ldI .i64 w2 b1 (0+1) fun i4 =>
 ldSl w2 b1 (0+2) fun A5 n6 c7 =>
 Q (VB (decide (i4<=(WR .i64 (1048576 - (n6:Int)))))) w2)
 (Q (VB false) w2)
def F183.an:Ann:=⟨[],[]⟩
theorem F183.of (x0:List Value) (w:World) {Q:QT} (h:F183.vc x0 w Q):Calls Tryz.prog 183 #[ofL x0] w (fun e w'=>∃ v,e=.returned v/\Q v w'):=vcFn_of (A:=F183.an) noCount mixed h (by kernel_rfl)
def F184s.k6c (Q:QT) (C1:(ST×Int×Int×Unit×Int×Unit)->WT) (C4:(ST×Int×Int×Unit×Int×Int×Unit)->WT) (x0:ST) (x1:Int) (x2:Int) (x3:Unit) (x8:Int) (x9:Int) (w:World):Prop :=
 dr x0.1 fun b10 o11 =>
 gd (decide (0<=(WR .i64 (x9 - 1)))) <|
 gd (decide ((WR .i64 (x9 - 1)) < (x0.2.1:Int))) <|
 ldA 2 w.drew b10 (o11+((WR .i64 (x9 - 1))).toNat * 2) fun a12 =>
 dr x0.1 fun b13 o14 =>
 gd (decide (0<=x9)) <|
 gd (decide (x9 < (x0.2.1:Int))) <|
 ldA 2 w.drew b13 (o14+(x9).toNat * 2) fun a15 =>
 dr x0.1 fun b16 o17 =>
 gd (decide (0<=x9)) <|
 gd (decide (x9 < (x0.2.1:Int))) <|
 gd (a12.length == 2) <|
 st w.drew b16 (o17+(x9).toNat * 2) a12 fun w18 =>
 dr x0.1 fun b19 o20 =>
 gd (decide (0<=(WR .i64 (x9 - 1)))) <|
 gd (decide ((WR .i64 (x9 - 1)) < (x0.2.1:Int))) <|
 gd (a15.length == 2) <|
 st w18 b19 (o20+((WR .i64 (x9 - 1))).toNat * 2) a15 fun w21 =>
 jnC C4 ((x0.1,x0.2.1,x0.2.2),x1,x2,(),x8,((WR .i64 (x9 - 1))),()) w21
def F184s.k6 (Q:QT) (C1:(ST×Int×Int×Unit×Int×Unit)->WT) (C4:(ST×Int×Int×Unit×Int×Int×Unit)->WT):(ST×Int×Int×Unit×Int×Int×Unit)->WT:=fun s w=>∀ _:Nat->Value,F184s.k6c Q C1 C4 s.1 s.2.1 s.2.2.1 s.2.2.2.1 s.2.2.2.2.1 s.2.2.2.2.2.1 w
def F184s.b4c (Q:QT) (C1:(ST×Int×Int×Unit×Int×Unit)->WT) (C4:(ST×Int×Int×Unit×Int×Int×Unit)->WT) (x0:ST) (x1:Int) (x2:Int) (x3:Unit) (x8:Int) (x9:Int) (w:World):Prop :=
 vIf (decide (x9 > x1))
 (dr x0.1 fun b1 o2 =>
 gd (decide (0<=x9)) <|
 gd (decide (x9 < (x0.2.1:Int))) <|
 ldA 2 w.drew b1 (o2+(x9).toNat * 2) fun a3 =>
 dr x0.1 fun b4 o5 =>
 gd (decide (0<=(WR .i64 (x9 - 1)))) <|
 gd (decide ((WR .i64 (x9 - 1)) < (x0.2.1:Int))) <|
 ldA 2 w.drew b4 (o5+((WR .i64 (x9 - 1))).toNat * 2) fun a6 =>
 Calls Tryz.prog 122 #[ofL a3,ofL a6] w.drew fun e8 w7 =>
 ∃ i9:Int,e8=.returned (VI .i64 i9)/\(
 vIf (decide (i9 < 0))
 (jnC (F184s.k6 Q C1 C4) ((x0.1,x0.2.1,x0.2.2),x1,x2,(),x8,x9,()) w7)
 (jnC C1 ((x0.1,x0.2.1,x0.2.2),x1,x2,(),((WR .i64 (x8+1))),()) w7)))
 (jnC C1 ((x0.1,x0.2.1,x0.2.2),x1,x2,(),((WR .i64 (x8+1))),()) w.drew)
def F184s.b4 (Q:QT) (C1:(ST×Int×Int×Unit×Int×Unit)->WT):(ST×Int×Int×Unit×Int×Int×Unit)->World->((ST×Int×Int×Unit×Int×Int×Unit)->WT)->Prop:=fun s w C4=>∀ _:Nat->Value,F184s.b4c Q C1 C4 s.1 s.2.1 s.2.2.1 s.2.2.2.1 s.2.2.2.2.1 s.2.2.2.2.2.1 w
def F184s.l4 (Q:QT) (C1:(ST×Int×Int×Unit×Int×Unit)->WT):(ST×Int×Int×Unit×Int×Int×Unit)->WT:=fun s w=>∃ n,loopC (F184s.b4 Q C1) n s w
def F184s.b1c (Q:QT) (C1:(ST×Int×Int×Unit×Int×Unit)->WT) (x0:ST) (x1:Int) (x2:Int) (x3:Unit) (x8:Int) (w:World):Prop :=
 vIf (decide (x8 < x2))
 (jnC (F184s.l4 Q C1) ((x0.1,x0.2.1,x0.2.2),x1,x2,(),x8,x8,()) w)
 (Q (VT #[]) w)
def F184s.b1 (Q:QT):(ST×Int×Int×Unit×Int×Unit)->World->((ST×Int×Int×Unit×Int×Unit)->WT)->Prop:=fun s w C1=>∀ _:Nat->Value,F184s.b1c Q C1 s.1 s.2.1 s.2.2.1 s.2.2.2.1 s.2.2.2.2.1 w
def F184s.l1 (Q:QT):(ST×Int×Int×Unit×Int×Unit)->WT:=fun s w=>∃ n,loopC (F184s.b1 Q) n s w
def F184s.vc (x0A:Option Addr) (x0n x0c:Nat) (x1:Int) (x2:Int) (w:World) (Q:QT):Prop :=
 jnC (F184s.l1 Q) ((x0A,x0n,x0c),x1,x2,(),((WR .i64 (x1+1))),()) w
def F184s.an:Ann:=⟨[(1,[(0,.kSl),(1,.kI .i64),(2,.kI .i64),(3,.kF 122),(8,.kI .i64)]),(4,[(0,.kSl),(1,.kI .i64),(2,.kI .i64),(3,.kF 122),(8,.kI .i64),(9,.kI .i64)])],[(6,[(0,.kSl),(1,.kI .i64),(2,.kI .i64),(3,.kF 122),(8,.kI .i64),(9,.kI .i64)])]⟩
theorem F184s.of (x0A:Option Addr) (x0n x0c:Nat) (x1:Int) (x2:Int) (w:World) {Q:QT} (h:F184s.vc x0A x0n x0c x1 x2 w Q):Calls Tryz.prog 184 #[VS x0A x0n x0c,VI .i64 x1,VI .i64 x2,Value.func (.func 122) #[] #[]] w (fun e w'=>∃ v,e=.returned v/\Q v w'):=vcFn_of (A:=F184s.an) noCount mixed h (by kernel_rfl)
def F185s.b9c (Q:QT) (C9:(ST×Int×Int×Unit)->WT) (x0:ST) (x10:Int) (x13:Int) (w:World):Prop :=
 vIf (decide (x13 < (WR .i64 (x10 - 1))))
 (dr x0.1 fun b10 o11 =>
 gd (decide (0<=(WR .i64 (x13+1)))) <|
 gd (decide ((WR .i64 (x13+1)) < (x0.2.1:Int))) <|
 ldA 2 w.drew b10 (o11+((WR .i64 (x13+1))).toNat * 2) fun a12 =>
 dr x0.1 fun b13 o14 =>
 gd (decide (0<=x13)) <|
 gd (decide (x13 < (x0.2.1:Int))) <|
 ldA 2 w.drew b13 (o14+(x13).toNat * 2) fun a15 =>
 dr x0.1 fun b16 o17 =>
 gd (decide (0<=x13)) <|
 gd (decide (x13 < (x0.2.1:Int))) <|
 gd (a12.length == 2) <|
 st w.drew b16 (o17+(x13).toNat * 2) a12 fun w18 =>
 dr x0.1 fun b19 o20 =>
 gd (decide (0<=(WR .i64 (x13+1)))) <|
 gd (decide ((WR .i64 (x13+1)) < (x0.2.1:Int))) <|
 gd (a15.length == 2) <|
 st w18 b19 (o20+((WR .i64 (x13+1))).toNat * 2) a15 fun w21 =>
 jnC C9 ((x0.1,x0.2.1,x0.2.2),x10,((WR .i64 (x13+1))),()) w21)
 (Q (VT #[]) w)
def F185s.b9 (Q:QT):(ST×Int×Int×Unit)->World->((ST×Int×Int×Unit)->WT)->Prop:=fun s w C9=>∀ _:Nat->Value,F185s.b9c Q C9 s.1 s.2.1 s.2.2.1 w
def F185s.l9 (Q:QT):(ST×Int×Int×Unit)->WT:=fun s w=>∃ n,loopC (F185s.b9 Q) n s w
def F185s.b3c (Q:QT) (C3:(ST×Int×Unit×Int×Int×Unit)->WT) (x0:ST) (x1:Int) (x4:Unit) (x10:Int) (x11:Int) (w:World):Prop :=
 vIf (decide (x10 < x11))
 (dr x0.1 fun b1 o2 =>
 gd (decide (0<=(WR .i64 (Int.fdiv (WR .u64 (WR .i64 (x10+x11))) (2 ^ 1))))) <|
 gd (decide ((WR .i64 (Int.fdiv (WR .u64 (WR .i64 (x10+x11))) (2 ^ 1))) < (x0.2.1:Int))) <|
 ldA 2 w.drew b1 (o2+((WR .i64 (Int.fdiv (WR .u64 (WR .i64 (x10+x11))) (2 ^ 1)))).toNat * 2) fun a3 =>
 dr x0.1 fun b4 o5 =>
 gd (decide (0<=x1)) <|
 gd (decide (x1 < (x0.2.1:Int))) <|
 ldA 2 w.drew b4 (o5+(x1).toNat * 2) fun a6 =>
 Calls Tryz.prog 122 #[ofL a3,ofL a6] w.drew fun e8 w7 =>
 ∃ i9:Int,e8=.returned (VI .i64 i9)/\(
 vIf (decide (i9 < 0))
 (jnC C3 ((x0.1,x0.2.1,x0.2.2),x1,(),((WR .i64 ((WR .i64 (Int.fdiv (WR .u64 (WR .i64 (x10+x11))) (2 ^ 1)))+1))),x11,()) w7)
 (jnC C3 ((x0.1,x0.2.1,x0.2.2),x1,(),x10,((WR .i64 (Int.fdiv (WR .u64 (WR .i64 (x10+x11))) (2 ^ 1)))),()) w7)))
 (jnC (F185s.l9 Q) ((x0.1,x0.2.1,x0.2.2),x10,x1,()) w)
def F185s.b3 (Q:QT):(ST×Int×Unit×Int×Int×Unit)->World->((ST×Int×Unit×Int×Int×Unit)->WT)->Prop:=fun s w C3=>∀ _:Nat->Value,F185s.b3c Q C3 s.1 s.2.1 s.2.2.1 s.2.2.2.1 s.2.2.2.2.1 w
def F185s.l3 (Q:QT):(ST×Int×Unit×Int×Int×Unit)->WT:=fun s w=>∃ n,loopC (F185s.b3 Q) n s w
def F185s.b21c (Q:QT) (C21:(ST×Int×Int×Unit)->WT) (x0:ST) (x14:Int) (x17:Int) (w:World):Prop :=
 vIf (decide (x17 > x14))
 (dr x0.1 fun b31 o32 =>
 gd (decide (0<=(WR .i64 (x17 - 1)))) <|
 gd (decide ((WR .i64 (x17 - 1)) < (x0.2.1:Int))) <|
 ldA 2 w.drew b31 (o32+((WR .i64 (x17 - 1))).toNat * 2) fun a33 =>
 dr x0.1 fun b34 o35 =>
 gd (decide (0<=x17)) <|
 gd (decide (x17 < (x0.2.1:Int))) <|
 ldA 2 w.drew b34 (o35+(x17).toNat * 2) fun a36 =>
 dr x0.1 fun b37 o38 =>
 gd (decide (0<=x17)) <|
 gd (decide (x17 < (x0.2.1:Int))) <|
 gd (a33.length == 2) <|
 st w.drew b37 (o38+(x17).toNat * 2) a33 fun w39 =>
 dr x0.1 fun b40 o41 =>
 gd (decide (0<=(WR .i64 (x17 - 1)))) <|
 gd (decide ((WR .i64 (x17 - 1)) < (x0.2.1:Int))) <|
 gd (a36.length == 2) <|
 st w39 b40 (o41+((WR .i64 (x17 - 1))).toNat * 2) a36 fun w42 =>
 jnC C21 ((x0.1,x0.2.1,x0.2.2),x14,((WR .i64 (x17 - 1))),()) w42)
 (Q (VT #[]) w)
def F185s.b21 (Q:QT):(ST×Int×Int×Unit)->World->((ST×Int×Int×Unit)->WT)->Prop:=fun s w C21=>∀ _:Nat->Value,F185s.b21c Q C21 s.1 s.2.1 s.2.2.1 w
def F185s.l21 (Q:QT):(ST×Int×Int×Unit)->WT:=fun s w=>∃ n,loopC (F185s.b21 Q) n s w
def F185s.b15c (Q:QT) (C15:(ST×Int×Unit×Int×Int×Unit)->WT) (x0:ST) (x2:Int) (x4:Unit) (x14:Int) (x15:Int) (w:World):Prop :=
 vIf (decide (x14 < x15))
 (dr x0.1 fun b22 o23 =>
 gd (decide (0<=x2)) <|
 gd (decide (x2 < (x0.2.1:Int))) <|
 ldA 2 w.drew b22 (o23+(x2).toNat * 2) fun a24 =>
 dr x0.1 fun b25 o26 =>
 gd (decide (0<=(WR .i64 (Int.fdiv (WR .u64 (WR .i64 (x14+x15))) (2 ^ 1))))) <|
 gd (decide ((WR .i64 (Int.fdiv (WR .u64 (WR .i64 (x14+x15))) (2 ^ 1))) < (x0.2.1:Int))) <|
 ldA 2 w.drew b25 (o26+((WR .i64 (Int.fdiv (WR .u64 (WR .i64 (x14+x15))) (2 ^ 1)))).toNat * 2) fun a27 =>
 Calls Tryz.prog 122 #[ofL a24,ofL a27] w.drew fun e29 w28 =>
 ∃ i30:Int,e29=.returned (VI .i64 i30)/\(
 vIf (!(decide (i30 < 0)))
 (jnC C15 ((x0.1,x0.2.1,x0.2.2),x2,(),((WR .i64 ((WR .i64 (Int.fdiv (WR .u64 (WR .i64 (x14+x15))) (2 ^ 1)))+1))),x15,()) w28)
 (jnC C15 ((x0.1,x0.2.1,x0.2.2),x2,(),x14,((WR .i64 (Int.fdiv (WR .u64 (WR .i64 (x14+x15))) (2 ^ 1)))),()) w28)))
 (jnC (F185s.l21 Q) ((x0.1,x0.2.1,x0.2.2),x14,x2,()) w)
def F185s.b15 (Q:QT):(ST×Int×Unit×Int×Int×Unit)->World->((ST×Int×Unit×Int×Int×Unit)->WT)->Prop:=fun s w C15=>∀ _:Nat->Value,F185s.b15c Q C15 s.1 s.2.1 s.2.2.1 s.2.2.2.1 s.2.2.2.2.1 w
def F185s.l15 (Q:QT):(ST×Int×Unit×Int×Int×Unit)->WT:=fun s w=>∃ n,loopC (F185s.b15 Q) n s w
def F185s.k44c (Q:QT) (x0:ST) (x3:Int) (x4:Unit) (x18:Int) (x24:Int) (x213:Bool) (w:World):Prop :=
 vIf x213
 (Calls Tryz.prog 185 #[VS x0.1 x0.2.1 x0.2.2,VI .i64 x18,VI .i64 x24,VI .i64 x3,Value.func (.func 122) #[] #[]] w fun e57 w56 =>
 e57=.returned (VT #[])/\(
 Q (VT #[]) w56))
 (Q (VT #[]) w)
def F185s.k44 (Q:QT):(ST×Int×Unit×Int×Int×Bool×Unit)->WT:=fun s w=>∀ _:Nat->Value,F185s.k44c Q s.1 s.2.1 s.2.2.1 s.2.2.2.1 s.2.2.2.2.1 s.2.2.2.2.2.1 w
def F185s.k43c (Q:QT) (x0:ST) (x3:Int) (x4:Unit) (x18:Int) (x24:Int) (w:World):Prop :=
 vIf (decide (x18 < x24))
 (jnC (F185s.k44 Q) ((x0.1,x0.2.1,x0.2.2),x3,(),x18,x24,(decide (x24 < x3)),()) w)
 (jnC (F185s.k44 Q) ((x0.1,x0.2.1,x0.2.2),x3,(),x18,x24,false,()) w)
def F185s.k43 (Q:QT):(ST×Int×Unit×Int×Int×Unit)->WT:=fun s w=>∀ _:Nat->Value,F185s.k43c Q s.1 s.2.1 s.2.2.1 s.2.2.2.1 s.2.2.2.2.1 w
def F185s.k42c (Q:QT) (x0:ST) (x1:Int) (x3:Int) (x4:Unit) (x18:Int) (x20:Int) (x24:Int) (x199:Bool) (w:World):Prop :=
 vIf x199
 (Calls Tryz.prog 185 #[VS x0.1 x0.2.1 x0.2.2,VI .i64 x1,VI .i64 x20,VI .i64 x18,Value.func (.func 122) #[] #[]] w fun e55 w54 =>
 e55=.returned (VT #[])/\(
 jnC (F185s.k43 Q) ((x0.1,x0.2.1,x0.2.2),x3,(),x18,x24,()) w54))
 (jnC (F185s.k43 Q) ((x0.1,x0.2.1,x0.2.2),x3,(),x18,x24,()) w)
def F185s.k42 (Q:QT):(ST×Int×Int×Unit×Int×Int×Int×Bool×Unit)->WT:=fun s w=>∀ _:Nat->Value,F185s.k42c Q s.1 s.2.1 s.2.2.1 s.2.2.2.1 s.2.2.2.2.1 s.2.2.2.2.2.1 s.2.2.2.2.2.2.1 s.2.2.2.2.2.2.2.1 w
def F185s.k41c (Q:QT) (x0:ST) (x1:Int) (x3:Int) (x4:Unit) (x18:Int) (x20:Int) (x24:Int) (w:World):Prop :=
 vIf (decide (x1 < x20))
 (jnC (F185s.k42 Q) ((x0.1,x0.2.1,x0.2.2),x1,x3,(),x18,x20,x24,(decide (x20 < x18)),()) w)
 (jnC (F185s.k42 Q) ((x0.1,x0.2.1,x0.2.2),x1,x3,(),x18,x20,x24,false,()) w)
def F185s.k41 (Q:QT):(ST×Int×Int×Unit×Int×Int×Int×Unit)->WT:=fun s w=>∀ _:Nat->Value,F185s.k41c Q s.1 s.2.1 s.2.2.1 s.2.2.2.1 s.2.2.2.2.1 s.2.2.2.2.2.1 s.2.2.2.2.2.2.1 w
def F185s.k40c (Q:QT) (x0:ST) (x1:Int) (x2:Int) (x3:Int) (x4:Unit) (x18:Int) (x20:Int) (x24:Int) (x185:Bool) (w:World):Prop :=
 vIf x185
 (Calls Tryz.prog 193 #[VS x0.1 x0.2.1 x0.2.2,VI .i64 x20,VI .i64 x2,VI .i64 x24,Value.func (.func 122) #[] #[]] w fun e53 w52 =>
 e53=.returned (VT #[])/\(
 jnC (F185s.k41 Q) ((x0.1,x0.2.1,x0.2.2),x1,x3,(),x18,x20,x24,()) w52))
 (jnC (F185s.k41 Q) ((x0.1,x0.2.1,x0.2.2),x1,x3,(),x18,x20,x24,()) w)
def F185s.k40 (Q:QT):(ST×Int×Int×Int×Unit×Int×Int×Int×Bool×Unit)->WT:=fun s w=>∀ _:Nat->Value,F185s.k40c Q s.1 s.2.1 s.2.2.1 s.2.2.2.1 s.2.2.2.2.1 s.2.2.2.2.2.1 s.2.2.2.2.2.2.1 s.2.2.2.2.2.2.2.1 s.2.2.2.2.2.2.2.2.1 w
def F185s.b33c (Q:QT) (C33:(ST×Int×Int×Int×Unit×Int×Int×Int×Int×Int×Unit)->WT) (x0:ST) (x1:Int) (x2:Int) (x3:Int) (x4:Unit) (x18:Int) (x19:Int) (x20:Int) (x21:Int) (x22:Int) (w:World):Prop :=
 vIf (decide (x20 < x21))
 (dr x0.1 fun b43 o44 =>
 gd (decide (0<=(WR .i64 (x22 - (WR .i64 (Int.fdiv (WR .u64 (WR .i64 (x20+x21))) (2 ^ 1))))))) <|
 gd (decide ((WR .i64 (x22 - (WR .i64 (Int.fdiv (WR .u64 (WR .i64 (x20+x21))) (2 ^ 1))))) < (x0.2.1:Int))) <|
 ldA 2 w.drew b43 (o44+((WR .i64 (x22 - (WR .i64 (Int.fdiv (WR .u64 (WR .i64 (x20+x21))) (2 ^ 1)))))).toNat * 2) fun a45 =>
 dr x0.1 fun b46 o47 =>
 gd (decide (0<=(WR .i64 (Int.fdiv (WR .u64 (WR .i64 (x20+x21))) (2 ^ 1))))) <|
 gd (decide ((WR .i64 (Int.fdiv (WR .u64 (WR .i64 (x20+x21))) (2 ^ 1))) < (x0.2.1:Int))) <|
 ldA 2 w.drew b46 (o47+((WR .i64 (Int.fdiv (WR .u64 (WR .i64 (x20+x21))) (2 ^ 1)))).toNat * 2) fun a48 =>
 Calls Tryz.prog 122 #[ofL a45,ofL a48] w.drew fun e50 w49 =>
 ∃ i51:Int,e50=.returned (VI .i64 i51)/\(
 vIf (!(decide (i51 < 0)))
 (jnC C33 ((x0.1,x0.2.1,x0.2.2),x1,x2,x3,(),x18,x19,((WR .i64 ((WR .i64 (Int.fdiv (WR .u64 (WR .i64 (x20+x21))) (2 ^ 1)))+1))),x21,x22,()) w49)
 (jnC C33 ((x0.1,x0.2.1,x0.2.2),x1,x2,x3,(),x18,x19,x20,((WR .i64 (Int.fdiv (WR .u64 (WR .i64 (x20+x21))) (2 ^ 1)))),x22,()) w49)))
 (vIf (decide (x20 < x2))
 (jnC (F185s.k40 Q) ((x0.1,x0.2.1,x0.2.2),x1,x2,x3,(),x18,x20,((WR .i64 (x19 - x20))),(decide (x2 < (WR .i64 (x19 - x20)))),()) w)
 (jnC (F185s.k40 Q) ((x0.1,x0.2.1,x0.2.2),x1,x2,x3,(),x18,x20,((WR .i64 (x19 - x20))),false,()) w))
def F185s.b33 (Q:QT):(ST×Int×Int×Int×Unit×Int×Int×Int×Int×Int×Unit)->World->((ST×Int×Int×Int×Unit×Int×Int×Int×Int×Int×Unit)->WT)->Prop:=fun s w C33=>∀ _:Nat->Value,F185s.b33c Q C33 s.1 s.2.1 s.2.2.1 s.2.2.2.1 s.2.2.2.2.1 s.2.2.2.2.2.1 s.2.2.2.2.2.2.1 s.2.2.2.2.2.2.2.1 s.2.2.2.2.2.2.2.2.1 s.2.2.2.2.2.2.2.2.2.1 w
def F185s.l33 (Q:QT):(ST×Int×Int×Int×Unit×Int×Int×Int×Int×Int×Unit)->WT:=fun s w=>∃ n,loopC (F185s.b33 Q) n s w
def F185s.k32c (Q:QT) (x0:ST) (x1:Int) (x2:Int) (x3:Int) (x4:Unit) (x18:Int) (x19:Int) (x20:Int) (x21:Int) (w:World):Prop :=
 jnC (F185s.l33 Q) ((x0.1,x0.2.1,x0.2.2),x1,x2,x3,(),x18,x19,x20,x21,((WR .i64 (x19 - 1))),()) w
def F185s.k32 (Q:QT):(ST×Int×Int×Int×Unit×Int×Int×Int×Int×Unit)->WT:=fun s w=>∀ _:Nat->Value,F185s.k32c Q s.1 s.2.1 s.2.2.1 s.2.2.2.1 s.2.2.2.2.1 s.2.2.2.2.2.1 s.2.2.2.2.2.2.1 s.2.2.2.2.2.2.2.1 s.2.2.2.2.2.2.2.2.1 w
def F185s.vc (x0A:Option Addr) (x0n x0c:Nat) (x1:Int) (x2:Int) (x3:Int) (w:World) (Q:QT):Prop :=
 vIf ((WR .i64 (x2 - x1)) == 1)
 (jnC (F185s.l3 Q) ((x0A,x0n,x0c),x1,(),x2,x3,()) w)
 (vIf ((WR .i64 (x3 - x2)) == 1)
 (jnC (F185s.l15 Q) ((x0A,x0n,x0c),x2,(),x1,x2,()) w)
 (vIf (decide (x2 > (WR .i64 (Int.fdiv (WR .u64 (WR .i64 (x1+x3))) (2 ^ 1)))))
 (jnC (F185s.k32 Q) ((x0A,x0n,x0c),x1,x2,x3,(),((WR .i64 (Int.fdiv (WR .u64 (WR .i64 (x1+x3))) (2 ^ 1)))),((WR .i64 ((WR .i64 (Int.fdiv (WR .u64 (WR .i64 (x1+x3))) (2 ^ 1)))+x2))),((WR .i64 ((WR .i64 ((WR .i64 (Int.fdiv (WR .u64 (WR .i64 (x1+x3))) (2 ^ 1)))+x2)) - x3))),((WR .i64 (Int.fdiv (WR .u64 (WR .i64 (x1+x3))) (2 ^ 1)))),()) w)
 (jnC (F185s.k32 Q) ((x0A,x0n,x0c),x1,x2,x3,(),((WR .i64 (Int.fdiv (WR .u64 (WR .i64 (x1+x3))) (2 ^ 1)))),((WR .i64 ((WR .i64 (Int.fdiv (WR .u64 (WR .i64 (x1+x3))) (2 ^ 1)))+x2))),x1,x2,()) w)))
def F185s.an:Ann:=⟨[(3,[(0,.kSl),(1,.kI .i64),(4,.kF 122),(10,.kI .i64),(11,.kI .i64)]),(9,[(0,.kSl),(10,.kI .i64),(13,.kI .i64)]),(15,[(0,.kSl),(2,.kI .i64),(4,.kF 122),(14,.kI .i64),(15,.kI .i64)]),(21,[(0,.kSl),(14,.kI .i64),(17,.kI .i64)]),(33,[(0,.kSl),(1,.kI .i64),(2,.kI .i64),(3,.kI .i64),(4,.kF 122),(18,.kI .i64),(19,.kI .i64),(20,.kI .i64),(21,.kI .i64),(22,.kI .i64)])],[(32,[(0,.kSl),(1,.kI .i64),(2,.kI .i64),(3,.kI .i64),(4,.kF 122),(18,.kI .i64),(19,.kI .i64),(20,.kI .i64),(21,.kI .i64)]),(40,[(0,.kSl),(1,.kI .i64),(2,.kI .i64),(3,.kI .i64),(4,.kF 122),(18,.kI .i64),(20,.kI .i64),(24,.kI .i64),(185,.kB)]),(41,[(0,.kSl),(1,.kI .i64),(3,.kI .i64),(4,.kF 122),(18,.kI .i64),(20,.kI .i64),(24,.kI .i64)]),(42,[(0,.kSl),(1,.kI .i64),(3,.kI .i64),(4,.kF 122),(18,.kI .i64),(20,.kI .i64),(24,.kI .i64),(199,.kB)]),(43,[(0,.kSl),(3,.kI .i64),(4,.kF 122),(18,.kI .i64),(24,.kI .i64)]),(44,[(0,.kSl),(3,.kI .i64),(4,.kF 122),(18,.kI .i64),(24,.kI .i64),(213,.kB)])]⟩
theorem F185s.of (x0A:Option Addr) (x0n x0c:Nat) (x1:Int) (x2:Int) (x3:Int) (w:World) {Q:QT} (h:F185s.vc x0A x0n x0c x1 x2 x3 w Q):Calls Tryz.prog 185 #[VS x0A x0n x0c,VI .i64 x1,VI .i64 x2,VI .i64 x3,Value.func (.func 122) #[] #[]] w (fun e w'=>∃ v,e=.returned v/\Q v w'):=vcFn_of (A:=F185s.an) noCount mixed h (by kernel_rfl)
def F193s.b2c (Q:QT) (C2:(ST×Int×Unit×Int×Int×Unit)->WT) (x0:ST) (x2:Int) (x4:Unit) (x10:Int) (x11:Int) (w:World):Prop :=
 vIf (x10 != x11)
 (vIf (decide (x10 > x11))
 (Calls Tryz.prog 197 #[VS x0.1 x0.2.1 x0.2.2,VI .i64 (WR .i64 (x2 - x10)),VI .i64 x2,VI .i64 x11,Value.func (.func 122) #[] #[]] w fun e2 w1 =>
 e2=.returned (VT #[])/\(
 jnC C2 ((x0.1,x0.2.1,x0.2.2),x2,(),((WR .i64 (x10 - x11))),x11,()) w1))
 (Calls Tryz.prog 197 #[VS x0.1 x0.2.1 x0.2.2,VI .i64 (WR .i64 (x2 - x10)),VI .i64 (WR .i64 ((WR .i64 (x2+x11)) - x10)),VI .i64 x10,Value.func (.func 122) #[] #[]] w fun e4 w3 =>
 e4=.returned (VT #[])/\(
 jnC C2 ((x0.1,x0.2.1,x0.2.2),x2,(),x10,((WR .i64 (x11 - x10))),()) w3)))
 (Calls Tryz.prog 197 #[VS x0.1 x0.2.1 x0.2.2,VI .i64 (WR .i64 (x2 - x10)),VI .i64 x2,VI .i64 x10,Value.func (.func 122) #[] #[]] w fun e6 w5 =>
 e6=.returned (VT #[])/\(
 Q (VT #[]) w5))
def F193s.b2 (Q:QT):(ST×Int×Unit×Int×Int×Unit)->World->((ST×Int×Unit×Int×Int×Unit)->WT)->Prop:=fun s w C2=>∀ _:Nat->Value,F193s.b2c Q C2 s.1 s.2.1 s.2.2.1 s.2.2.2.1 s.2.2.2.2.1 w
def F193s.l2 (Q:QT):(ST×Int×Unit×Int×Int×Unit)->WT:=fun s w=>∃ n,loopC (F193s.b2 Q) n s w
def F193s.vc (x0A:Option Addr) (x0n x0c:Nat) (x1:Int) (x2:Int) (x3:Int) (w:World) (Q:QT):Prop :=
 jnC (F193s.l2 Q) ((x0A,x0n,x0c),x2,(),((WR .i64 (x2 - x1))),((WR .i64 (x3 - x2))),()) w
def F193s.an:Ann:=⟨[(2,[(0,.kSl),(2,.kI .i64),(4,.kF 122),(10,.kI .i64),(11,.kI .i64)])],[]⟩
theorem F193s.of (x0A:Option Addr) (x0n x0c:Nat) (x1:Int) (x2:Int) (x3:Int) (w:World) {Q:QT} (h:F193s.vc x0A x0n x0c x1 x2 x3 w Q):Calls Tryz.prog 193 #[VS x0A x0n x0c,VI .i64 x1,VI .i64 x2,VI .i64 x3,Value.func (.func 122) #[] #[]] w (fun e w'=>∃ v,e=.returned v/\Q v w'):=vcFn_of (A:=F193s.an) noCount mixed h (by kernel_rfl)
def F197s.b1c (Q:QT) (C1:(ST×Int×Int×Int×Int×Unit)->WT) (x0:ST) (x1:Int) (x2:Int) (x3:Int) (x10:Int) (w:World):Prop :=
 vIf (decide (x10 < x3))
 (dr x0.1 fun b1 o2 =>
 gd (decide (0<=(WR .i64 (x2+x10)))) <|
 gd (decide ((WR .i64 (x2+x10)) < (x0.2.1:Int))) <|
 ldA 2 w.drew b1 (o2+((WR .i64 (x2+x10))).toNat * 2) fun a3 =>
 dr x0.1 fun b4 o5 =>
 gd (decide (0<=(WR .i64 (x1+x10)))) <|
 gd (decide ((WR .i64 (x1+x10)) < (x0.2.1:Int))) <|
 ldA 2 w.drew b4 (o5+((WR .i64 (x1+x10))).toNat * 2) fun a6 =>
 dr x0.1 fun b7 o8 =>
 gd (decide (0<=(WR .i64 (x1+x10)))) <|
 gd (decide ((WR .i64 (x1+x10)) < (x0.2.1:Int))) <|
 gd (a3.length == 2) <|
 st w.drew b7 (o8+((WR .i64 (x1+x10))).toNat * 2) a3 fun w9 =>
 dr x0.1 fun b10 o11 =>
 gd (decide (0<=(WR .i64 (x2+x10)))) <|
 gd (decide ((WR .i64 (x2+x10)) < (x0.2.1:Int))) <|
 gd (a6.length == 2) <|
 st w9 b10 (o11+((WR .i64 (x2+x10))).toNat * 2) a6 fun w12 =>
 jnC C1 ((x0.1,x0.2.1,x0.2.2),x1,x2,x3,((WR .i64 (x10+1))),()) w12)
 (Q (VT #[]) w)
def F197s.b1 (Q:QT):(ST×Int×Int×Int×Int×Unit)->World->((ST×Int×Int×Int×Int×Unit)->WT)->Prop:=fun s w C1=>∀ _:Nat->Value,F197s.b1c Q C1 s.1 s.2.1 s.2.2.1 s.2.2.2.1 s.2.2.2.2.1 w
def F197s.l1 (Q:QT):(ST×Int×Int×Int×Int×Unit)->WT:=fun s w=>∃ n,loopC (F197s.b1 Q) n s w
def F197s.vc (x0A:Option Addr) (x0n x0c:Nat) (x1:Int) (x2:Int) (x3:Int) (w:World) (Q:QT):Prop :=
 jnC (F197s.l1 Q) ((x0A,x0n,x0c),x1,x2,x3,(0),()) w
def F197s.an:Ann:=⟨[(1,[(0,.kSl),(1,.kI .i64),(2,.kI .i64),(3,.kI .i64),(10,.kI .i64)])],[]⟩
theorem F197s.of (x0A:Option Addr) (x0n x0c:Nat) (x1:Int) (x2:Int) (x3:Int) (w:World) {Q:QT} (h:F197s.vc x0A x0n x0c x1 x2 x3 w Q):Calls Tryz.prog 197 #[VS x0A x0n x0c,VI .i64 x1,VI .i64 x2,VI .i64 x3,Value.func (.func 122) #[] #[]] w (fun e w'=>∃ v,e=.returned v/\Q v w'):=vcFn_of (A:=F197s.an) noCount mixed h (by kernel_rfl)
end Go.Proofs.YthcdionpeoobbaaGreatDoor
namespace Go.Proofs.YthcdionpeoobbaaGreatDoor
open Go.GV Go.RowKit Go.Lib
def cmpN (a b:ByteArray):Int:=compareBytes a.data.toList b.data.toList
theorem bless_cmp:∀ (a b:List UInt8),Op.bytesLess a b=decide (compareBytes a b < 0)
 | [],[]=>by simp [Op.bytesLess,compareBytes]
 | _ :: _,[]=>by simp [Op.bytesLess,compareBytes]
 | [],_ :: _=>by simp [Op.bytesLess,compareBytes]
 | a :: x,b :: y=>by
  rw [Op.bytesLess,compareBytes,bless_cmp x y]
  by_cases h1:a < b
  ·rw [if_pos h1,decide_eq_true h1]; rfl
  ·rw [if_neg h1,decide_eq_false h1,Bool.false_or]
   by_cases h2:b < a
   ·rw [if_pos h2]
    have:(a == b)=false:=by
     rw [beq_eq_false_iff_ne]; intro h; subst h; exact h1 h2
    rw [this]; rfl
   ·have:a=b:=by
     rw [UInt8.lt_iff_toNat_lt] at h1 h2
     exact UInt8.toNat_inj.1 (by omega)
    rw [if_neg h2,this]
    simp
theorem ba_ext {a b:ByteArray} (h:a.data.toList=b.data.toList):a=b:=by
 obtain ⟨⟨x⟩⟩:=a
 obtain ⟨⟨y⟩⟩:=b
 have h:x=y:=h
 rw [h]
theorem nlt (a b:ByteArray):Op.bytesLess a.toList b.toList=decide (cmpN a b < 0):=by
 rw [bless_cmp,toList_data,toList_data]; rfl
theorem neq (a b:ByteArray):(a.toList == b.toList)=decide (a=b):=by
 rw [toList_data,toList_data,Bool.eq_iff_iff,beq_iff_eq,decide_eq_true_iff]
 exact ⟨ba_ext,fun h=>by rw [h]⟩
theorem cmpN_zero (a b:ByteArray):cmpN a b=0 ↔ a=b:=by
 unfold cmpN
 rw [cmp_zero]
 exact ⟨ba_ext,fun h=>by rw [h]⟩
theorem cmpN_self (a:ByteArray):cmpN a a=0:=(cmpN_zero a a).2 rfl
theorem cmpN_anti (a b:ByteArray):cmpN a b = - cmpN b a:=cmp_anti _ _
theorem cmpN_trans {a b c:ByteArray} (h1:cmpN a b < 0) (h2:cmpN b c < 0):cmpN a c < 0:=by
 have h:=cmp_trans a.data.toList b.data.toList c.data.toList (by unfold cmpN at h1; omega) (by unfold cmpN at h2; omega)
 have h:cmpN a c<=0:=h
 by_cases h0:cmpN a c=0
 ·have:=(cmpN_zero a c).1 h0
  subst this
  have:=cmpN_anti a b
  omega
 ·omega
theorem strcmp_calls (a b:ByteArray) (w:World):Calls Tryz.prog 73 #[.string a,.string b] w fun e w'=>e=.returned (.int .i64 (cmpN a b))/\w'=w:=by
 refine (F73.of a b w (Q:=fun v w'=>v=.int .i64 (cmpN a b)/\w'=w) ?_).mono (fun e w' ⟨v,he,hv,h⟩=>⟨by rw [he,hv],h⟩)
 refine (F117.of a b w (Q:=fun v w'=>v=.int .i64 (cmpN a b)/\w'=w) ?_).mono ?_
 ·exact ⟨_,Extern.BytealgCompare.compare,_,_,Tryz.func160,by kernel_rfl,by kernel_rfl,by kernel_rfl,Lib.run_compareString a b w,cmpN a b,rfl,rfl,rfl⟩
 ·rintro e w' ⟨v,rfl,rfl,rfl⟩
  exact ⟨_,rfl,rfl,rfl⟩
end Go.Proofs.YthcdionpeoobbaaGreatDoor
namespace Go.Stb
variable {α β:Type}
theorem get_mid {P R:List α} {x:α} {i:Nat} (hi:i=P.length):(P ++ x :: R)[i]?=some x:=by subst hi; simp
theorem set_mid {P R:List α} {x y:α} {i:Nat} (hi:i=P.length):(P ++ x :: R).set i y=P ++ y :: R:=by subst hi; simp
structure OrdC (cmp:β->β->Int):Prop where
 anti:∀ a b,cmp a b = - cmp b a
 trans:∀ a b c,cmp a b<=0->cmp b c<=0->cmp a c<=0
section
variable {cmp:β->β->Int}
def lt (cmp:β->β->Int) (x y:β×Nat):Prop:=cmp x.1 y.1 < 0\/(cmp x.1 y.1=0/\x.2 < y.2)
def Sorted (cmp:β->β->Int) (l:List (β×Nat)):Prop:=l.Pairwise (lt cmp)
def bef (x y:β×Nat):Prop:=x.2 < y.2
theorem OrdC.lt_le (h:OrdC cmp) {a b c:β} (h1:cmp a b < 0) (h2:cmp b c<=0):cmp a c < 0:=by
 have h3:=h.trans a b c (by omega) h2
 by_cases h0:cmp a c=0
 ·have h4:=h.anti c a
  have h5:=h.trans b c a h2 (by omega)
  have h6:=h.anti a b
  omega
 ·omega
theorem OrdC.le_lt (h:OrdC cmp) {a b c:β} (h1:cmp a b<=0) (h2:cmp b c < 0):cmp a c < 0:=by
 have h3:=h.trans a b c h1 (by omega)
 by_cases h0:cmp a c=0
 ·have h4:=h.anti c a
  have h5:=h.trans c a b (by omega) h1
  have h6:=h.anti b c
  omega
 ·omega
theorem lt_trans (h:OrdC cmp) {x y z:β×Nat} (h1:lt cmp x y) (h2:lt cmp y z):lt cmp x z:=by
 rcases h1 with h1 | ⟨h1,h1'⟩ <;> rcases h2 with h2 | ⟨h2,h2'⟩
 ·exact .inl (h.lt_le h1 (by omega))
 ·exact .inl (h.lt_le h1 (by omega))
 ·exact .inl (h.le_lt (by omega) h2)
 ·have h3:=h.trans x.1 y.1 z.1 (by omega) (by omega)
  have h4:=h.trans z.1 y.1 x.1 (by have:=h.anti z.1 y.1; omega) (by have:=h.anti y.1 x.1; omega)
  have h5:=h.anti x.1 z.1
  exact .inr ⟨by omega,by omega⟩
theorem lt_asymm (h:OrdC cmp) {x y:β×Nat} (h1:lt cmp x y) (h2:lt cmp y x):False:=by
 have h3:=h.anti x.1 y.1
 rcases h1 with h1 | ⟨h1,h1'⟩ <;> rcases h2 with h2 | ⟨h2,h2'⟩ <;> omega
theorem bef_yes (h:OrdC cmp) {x y:β×Nat} (hb:bef x y) (hc:cmp y.1 x.1 < 0):lt cmp y x:=.inl hc
theorem bef_no (h:OrdC cmp) {x y:β×Nat} (hb:bef x y) (hc:¬ cmp y.1 x.1 < 0):lt cmp x y:=by
 have h3:=h.anti x.1 y.1
 have hb:x.2 < y.2:=hb
 by_cases h0:cmp x.1 y.1=0
 ·exact .inr ⟨h0,hb⟩
 ·exact .inl (by omega)
theorem sorted_get (h:OrdC cmp) {l:List (β×Nat)} (hs:Sorted cmp l) {i j:Nat} {x y:β×Nat} (hi:l[i]?=some x) (hj:l[j]?=some y) (hij:i < j):lt cmp x y:=by
 obtain ⟨h1,rfl⟩:=List.getElem?_eq_some_iff.1 hi
 obtain ⟨h2,rfl⟩:=List.getElem?_eq_some_iff.1 hj
 exact (List.pairwise_iff_getElem.1 hs) i j h1 h2 hij
theorem sorted_app {A B:List (β×Nat)} (hA:Sorted cmp A) (hB:Sorted cmp B) (hAB:∀ x ∈ A,∀ y ∈ B,lt cmp x y):Sorted cmp (A ++ B):=List.pairwise_append.2 ⟨hA,hB,hAB⟩
theorem sorted_of_app {A B:List (β×Nat)} (h:Sorted cmp (A ++ B)):Sorted cmp A/\Sorted cmp B/\∀ x ∈ A,∀ y ∈ B,lt cmp x y:=List.pairwise_append.1 h
theorem sorted_unique (h:OrdC cmp):∀ {a b:List (β×Nat)},Sorted cmp a->Sorted cmp b->a.Perm b->a=b
 | [],b,_,_,hp=>by rw [List.nil_perm.1 hp]
 | x :: a,[],_,_,hp=>by have:=hp.length_eq; simp at this
 | x :: a,y :: b,ha,hb,hp=>by
  have hca:=List.pairwise_cons.1 ha
  have hcb:=List.pairwise_cons.1 hb
  have hxy:x=y:=by
   rcases List.mem_cons.1 (hp.mem_iff.1 (List.mem_cons_self (a:=x) (l:=a))) with h1 | h1
   ·exact h1
   ·rcases List.mem_cons.1 (hp.mem_iff.2 (List.mem_cons_self (a:=y) (l:=b))) with h2 | h2
    ·exact h2.symm
    ·exact (lt_asymm h (hcb.1 x h1) (hca.1 y h2)).elim
  subst hxy
  rw [sorted_unique h hca.2 hcb.2 ((List.perm_cons x).1 hp)]
def ins (cmp:β->β->Int) (x:β):List β->List β
 | []=>[x]
 | y :: r=>if cmp x y < 0 then x :: y :: r else y :: ins cmp x r
def stab (cmp:β->β->Int) (l:List β):List β:=l.foldl (fun a x=>ins cmp x a) []
theorem stab_snoc (l:List β) (x:β):stab cmp (l ++ [x])=ins cmp x (stab cmp l):=by unfold stab; rw [List.foldl_append]; rfl
def insT (cmp:β->β->Int) (x:β×Nat):List (β×Nat)->List (β×Nat)
 | []=>[x]
 | y :: r=>if cmp x.1 y.1 < 0 then x :: y :: r else y :: insT cmp x r
theorem insT_fst (x:β×Nat):∀ l:List (β×Nat),(insT cmp x l).map (·.1)=ins cmp x.1 (l.map (·.1))
 | []=>rfl
 | y :: r=>by
  unfold insT ins
  rw [List.map_cons]
  show _=(if cmp x.1 y.1 < 0 then _ else _)
  split
  ·rfl
  ·rw [List.map_cons,insT_fst x r]
theorem insT_perm (x:β×Nat):∀ l:List (β×Nat),(insT cmp x l).Perm (x :: l)
 | []=>List.Perm.refl _
 | y :: r=>by
  unfold insT
  split
  ·exact List.Perm.refl _
  ·exact ((insT_perm x r).cons y).trans (List.Perm.swap x y r)
theorem insT_sorted (h:OrdC cmp) (x:β×Nat):∀ l:List (β×Nat),Sorted cmp l->(∀ y ∈ l,bef y x)->Sorted cmp (insT cmp x l)
 | [],_,_=>List.pairwise_singleton _ _
 | y :: r,hs,hb=>by
  have hc:=List.pairwise_cons.1 hs
  unfold insT
  by_cases h1:cmp x.1 y.1 < 0
  ·rw [if_pos h1]
   refine List.pairwise_cons.2 ⟨fun z hz=>?_,hs⟩
   rcases List.mem_cons.1 hz with rfl | hz
   ·exact .inl h1
   ·exact lt_trans h (.inl h1) (hc.1 z hz)
  ·rw [if_neg h1]
   refine List.pairwise_cons.2 ⟨fun z hz=>?_,insT_sorted h x r hc.2 (fun z hz=>hb z (List.mem_cons_of_mem _ hz))⟩
   rcases List.mem_cons.1 ((insT_perm x r).mem_iff.1 hz) with rfl | hz
   ·exact bef_no h (hb y (List.mem_cons_self ..)) h1
   ·exact hc.1 z hz
def tagL (l:List β):List (β×Nat):=l.zipIdx
theorem tagL_fst (l:List β):(tagL l).map (·.1)=l:=by simp [tagL]
theorem tagL_snoc (l:List β) (x:β):tagL (l ++ [x])=tagL l ++ [(x,l.length)]:=by simp [tagL,List.zipIdx_append]
theorem tagL_lt {l:List β} {x:β×Nat} (h:x ∈ tagL l):x.2 < l.length:=by
 have:=List.snd_lt_of_mem_zipIdx h
 simpa using this
theorem snoc_ind {P:List β->Prop} (h0:P []) (h1:∀ l x,P l->P (l ++ [x])) (l:List β):P l:=by
 have:∀ n (l:List β),l.length=n->P l:=by
  intro n
  induction n with
  | zero=>intro l hl; rw [List.length_eq_zero_iff.1 hl]; exact h0
  | succ n ih =>
   intro l hl
   have hne:l ≠ []:=by intro h; rw [h] at hl; cases hl
   rw [<- List.dropLast_concat_getLast hne]
   exact h1 _ _ (ih _ (by simp [hl]))
 exact this _ l rfl
theorem stab_spec (h:OrdC cmp) (l:List β):∃ m,Sorted cmp m/\m.Perm (tagL l)/\m.map (·.1)=stab cmp l:=by
 refine snoc_ind (P:=fun l=>∃ m,Sorted cmp m/\m.Perm (tagL l)/\m.map (·.1)=stab cmp l) ⟨[],List.Pairwise.nil,List.Perm.refl _,rfl⟩ (fun l x ⟨m,h1,h2,h3⟩=>?_) l
 refine ⟨insT cmp (x,l.length) m,insT_sorted h _ m h1 (fun y hy=>tagL_lt (h2.mem_iff.1 hy)),?_,?_⟩
 ·rw [tagL_snoc]
  exact (insT_perm _ m).trans ((h2.cons _).trans (List.perm_append_singleton _ _).symm)
 ·rw [insT_fst,h3,stab_snoc]
theorem stab_of (h:OrdC cmp) {l:List β} {m:List (β×Nat)} (hs:Sorted cmp m) (hp:m.Perm (tagL l)):m.map (·.1)=stab cmp l:=by
 obtain ⟨m',h1,h2,h3⟩:=stab_spec h l
 rw [sorted_unique h hs h1 (hp.trans h2.symm),h3]
theorem ins_perm (x:β):∀ l:List β,(ins cmp x l).Perm (x :: l)
 | []=>List.Perm.refl _
 | y :: r=>by
  unfold ins
  split
  ·exact List.Perm.refl _
  ·exact ((ins_perm x r).cons y).trans (List.Perm.swap x y r)
theorem stab_perm (l:List β):(stab cmp l).Perm l :=
 snoc_ind (P:=fun l=>(stab cmp l).Perm l) (List.Perm.refl _) (fun l x ih=>by rw [stab_snoc]; exact (ins_perm x _).trans ((ih.cons x).trans (List.perm_append_singleton _ _).symm)) l
theorem stab_len (l:List β):(stab cmp l).length=l.length:=(stab_perm l).length_eq
def befC (c d:List (β×Nat)):Prop:=∀ x ∈ c,∀ y ∈ d,bef x y
theorem befC_merge {Ds R:List (List (β×Nat))} {c d m:List (β×Nat)} (h:(Ds ++ c :: d :: R).Pairwise befC) (hm:m.Perm (c ++ d)):(Ds ++ m :: R).Pairwise befC:=by
 have h:=List.pairwise_append.1 h
 have hc:=List.pairwise_cons.1 h.2.1
 have hd:=List.pairwise_cons.1 hc.2
 refine List.pairwise_append.2 ⟨h.1,List.pairwise_cons.2 ⟨fun r hr x hx y hy=>?_,hd.2⟩,fun e he r hr x hx y hy=>?_⟩
 ·rcases List.mem_append.1 (hm.mem_iff.1 hx) with hx | hx
  ·exact hc.1 r (List.mem_cons_of_mem _ hr) x hx y hy
  ·exact hd.1 r hr x hx y hy
 ·rcases List.mem_cons.1 hr with rfl | hr
  ·rcases List.mem_append.1 (hm.mem_iff.1 hy) with hy | hy
   ·exact h.2.2 e he c (List.mem_cons_self ..) x hx y hy
   ·exact h.2.2 e he d (List.mem_cons_of_mem _ (List.mem_cons_self ..)) x hx y hy
  ·exact h.2.2 e he r (List.mem_cons_of_mem _ (List.mem_cons_of_mem _ hr)) x hx y hy
theorem befC_two {Ds R:List (List (β×Nat))} {c d:List (β×Nat)} (h:(Ds ++ c :: d :: R).Pairwise befC):befC c d:=by
 have h:=List.pairwise_append.1 h
 exact (List.pairwise_cons.1 h.2.1).1 d (List.mem_cons_self ..)
theorem flat_len {k:Nat}:∀ {Fs:List (List (β×Nat))},(∀ f ∈ Fs,f.length=k)->Fs.flatten.length=Fs.length * k
 | [],_=>by simp
 | f :: r,h=>by
  rw [List.flatten_cons,List.length_append,h f (List.mem_cons_self ..),flat_len (fun g hg=>h g (List.mem_cons_of_mem _ hg)),List.length_cons,Nat.add_mul]; omega
end
end Go.Stb
namespace Go.Proofs.YthcdionpeoobbaaGreatDoor
open Go.GV Go.RowKit Go.Lib
def ivs (l:List Int):List Value:=l.map (Value.int .i64)
theorem ivs_len (l:List Int):(ivs l).length=l.length:=by simp [ivs]
theorem ivs_app (a b:List Int):ivs (a ++ b)=ivs a ++ ivs b:=by simp [ivs]
theorem ivs_one (l:List Int):∀ v ∈ ivs l,v.oneCell'=true:=by
 intro v hv
 simp only [ivs,List.mem_map] at hv
 obtain ⟨x,_,rfl⟩:=hv
 rfl
theorem ivs_at {l:List Int} {i:Nat} {x:Int} (h:l[i]?=some x):(ivs l)[i]?=some (.int .i64 x):=by simp [ivs,h]
theorem ivs_take (l:List Int) (k:Nat):(ivs l).take k=ivs (l.take k):=by simp [ivs]
theorem ei (i:Nat) (h:i < 1099511627776):IntKind.wrap .i64 ((i:Int)+1)=((i+1:Nat):Int):=by rw [i64_id (by omega) (by omega)]; rfl
theorem sl_n {w:World} {A:Option Addr} {n:Nat} {l:List Int} (h:Sl w 1 A n (ivs l)):l.length=n:=by
 have:=h.1
 rw [ivs_len] at this
 omega
theorem sl_at {w:World} {A:Option Addr} {n:Nat} {l:List Int} (h:Sl w 1 A n (ivs l)) {i:Nat} (hi:i < n) {x:Int} (hx:l[i]?=some x):∃ b o,A=some ⟨b,o,none⟩/\∀ j y,l[j]?=some y->cellAt w b (o+j * 1)=some (.int .i64 y):=by
 obtain ⟨b,o,hA,hc⟩:=h.2 (by omega)
 exact ⟨b,o,hA,fun j y hj=>by rw [Nat.mul_one]; exact hc j _ (ivs_at hj)⟩
theorem sl_rd {w:World} {A:Option Addr} {n:Nat} {l:List Int} (h:Sl w 1 A n (ivs l)) {i:Nat} (hi:i < n) {x:Int} (hx:l[i]?=some x) {K:Int->Prop} (hK:K x) :
  dr A fun b o=>gd (decide (0<=(i:Int))) (gd (decide ((i:Int) < ((n:Nat):Int))) (ldI .i64 w b (o+((i:Int)).toNat * 1) K)):=by
 obtain ⟨b,o,rfl,hc⟩:=sl_at h hi hx
 refine dr_mk (gd_mk (decide_eq_true (by omega)) (gd_mk (decide_eq_true (by omega)) ⟨x,?_,hK⟩))
 rw [Int.toNat_natCast]
 exact hc i x hx
theorem row_low {u:World} {B B':Nat} {e:TypeId} {sz:Nat} {A:Option Addr} {k c:Nat} {vs:List Value} (hB:B'<=B) (hr:Row u B e sz A k c vs):Row u B' e sz A k c vs:=by
 refine ⟨hr.len,hr.le,?_⟩
 rcases hr.at_ with h' | ⟨b',cs',q1,q2,q3⟩
 ·exact .inl h'
 ·exact .inr ⟨b',cs',q1,by omega,q3⟩
theorem at_lt {l:List Int} {i:Nat} (h:i < l.length):l[i]?=some (l[i]'h):=List.getElem?_eq_getElem h
end Go.Proofs.YthcdionpeoobbaaGreatDoor
namespace Go.Proofs.YthcdionpeoobbaaGreatDoor.InsNm
open Go.GV Go.RowKit
section
variable {β:Type} {enc:β->List Value}
theorem src_rec {w:World} {b:Nat} {e:TypeId} {cs:List Value} {sz:Nat} (h:RecAt w b e cs) (hl:cs.length=sz):srcOf w sz (.slice (some ⟨b,0,none⟩) 1 1) 1 cs :=
 ⟨rfl,by omega,fun _=>dr_mk (h.cells (o:=0) (fun j v hj=>by simpa using hj))⟩
set_option maxHeartbeats 1000000 in
theorem insert_calls (h0:EncO β enc 2) (B:Nat) (A:Option Addr) (n c i:Nat) (l:List β) (x:β) (bv:Nat) (w:World) (h:Row w B 62 2 A n c (flt enc l)) (hl:l.length=n) (hi:i<=n) (hv:RecAt w bv 62 (enc x)) (hA:blkOf A ≠ some bv) (hB:B<=w.heap.size) (hn:n<=1073741824) :
  Calls Tryz.prog 163 #[.slice A n c,.int .i64 (i:Nat),.slice (some ⟨bv,0,none⟩) 1 1] w fun e w'=>∃ A' c',e=.returned (.slice A' (n+1) c')/\Fr (fun k=>blkOf A=some k) w w'/\Row w' B 62 2 A' (n+1) c' (flt enc (l.take i ++ x :: l.drop i))/\∀ k,blkOf A'=some k->blkOf A=some k\/w.heap.size<=k:=by
 refine (F163.of A n c _ (some ⟨bv,0,none⟩) 1 1 w (Q:=fun v w'=>∃ A' c',v=.slice A' (n+1) c'/\Fr (fun k=>blkOf A=some k) w w'/\Row w' B 62 2 A' (n+1) c' (flt enc (l.take i ++ x :: l.drop i))/\∀ k,blkOf A'=some k->blkOf A=some k\/w.heap.size<=k) ?_).mono (fun e w' ⟨v,he,A',c',hv,h⟩=>⟨A',c',by rw [he,hv],h⟩)
 have hle:=h.le
 have hx:=h0.len x
 have hfl:=h0.fl l
 have hsx:=src_rec hv hx
 have ox:=h0.one x
 have htx:(enc x).take 2=enc x:=by rw [<- hx,List.take_length]
 have hlT:(flt enc (l.take i)).length=i * 2:=by rw [h0.fl,List.length_take,hl,Nat.min_eq_left hi]
 have hlD:(flt enc (l.drop i)).length=(n - i) * 2:=by rw [h0.fl,List.length_drop,hl]
 have fin:flt enc (l.take i ++ x :: l.drop i)=flt enc (l.take i) ++ enc x ++ flt enc (l.drop i):=by rw [flt_app,flt_cons,List.append_assoc]
 rw [fin]
 clear fin
 refine gd_mk (decide_eq_true (by omega)) (gd_mk (decide_eq_true (by omega)) (vIf_f rfl (vIf_mk (fun he=>?_) (fun hne=>?_))))
 ·have he:(i:Int)=(n:Int):=by simpa using he
  have he:i=n:=by omega
  subst he
  have ht:l.take i=l:=List.take_of_length_le (by omega)
  have hd:l.drop i=[]:=List.drop_of_length_le (by omega)
  refine app_row2 (us:=enc x) (m:=1) h hsx ox rfl (by omega) (by omega) hB (fun A' c' w' hr' f' hb'=>⟨A',c',rfl,f',?_,hb'⟩)
  rw [ht,hd,flt_nil,List.append_nil]
  exact hr'
 have hne:i ≠ n:=fun h=>by subst h; simp at hne
 obtain ⟨b,hb⟩:∃ b,A=some ⟨b,0,none⟩:=by
  rcases h.at_ with ⟨_,h0,_⟩ | ⟨b,_,hA,_⟩
  ·omega
  ·exact ⟨b,hA⟩
 subst hb
 have hbb:b ≠ bv:=fun h=>hA (by rw [h]; rfl)
 have en:IntKind.wrap .i64 ((n:Int)+((1:Nat):Int))=((n+1:Nat):Int):=by rw [i64_id (by omega) (by omega)]; rfl
 have ei:IntKind.wrap .i64 ((i:Int)+((1:Nat):Int))=((i+1:Nat):Int):=by rw [i64_id (by omega) (by omega)]; rfl
 have ed:IntKind.wrap .i64 (((n+1:Nat):Int) - (i:Int))=((n+1 - i:Nat):Int):=by rw [i64_id (by omega) (by omega)]; omega
 have h00:slA (some (⟨b,0,none⟩:Addr)) c 0 2=some ⟨b,0,none⟩:=sl0 _ _ _
 simp only [en,ei,ed,h00,Int.toNat_natCast]
 refine vIf_mk (fun hgt=>?_) (fun hng=>?_)
 ·have hgt:c < n+1:=by have:=of_decide_eq_true hgt; omega
  refine gd_mk (decide_eq_true (by omega)) (gd_mk (decide_eq_true (by omega)) ?_)
  have hnm:i+(n+1 - i)=n+1:=by omega
  refine appZ_new (m:=n+1 - i) (old:=flt enc (l.take i)) (B:=B) (by rw [<- h0.ft l (by omega)]; exact h.sl.headS (by omega)) (by rw [i64_id (by omega) (by omega)]) (by omega) (by intro v hv; repeat (first | (cases hv; done) | (rcases List.mem_cons.1 hv with rfl | hv; · rfl))) rfl (by omega) (by omega) (by omega) hB (fun b5 c5 w5 hb5 hr5 f5=>?_)
  rw [hnm] at hr5 ⊢
  have hzl:(zeros (n+1 - i) ([.string (⟨#[]⟩:ByteArray),.int .i64 0]:List Value)).length=(n+1 - i) * 2:=by rw [zeros_length]; rfl
  refine gd_mk (decide_eq_true (by omega)) (gd_mk (decide_eq_true (by omega)) ?_)
  refine cpy_row hr5 (src_rec (hv.fr f5 (fun h=>h)) hx) (by omega) (by omega) (by rw [Nat.min_eq_left (by omega),Nat.one_mul,htx]; exact ox) (fun w6 hr6 f6=>?_)
  rw [Nat.min_eq_left (by omega),Nat.one_mul,htx,splice_at hlT] at hr6
  refine gd_mk (decide_eq_true (by omega)) (gd_mk (decide_eq_true (by omega)) (gd_mk (decide_eq_true (by omega)) (gd_mk (decide_eq_true (by omega)) ?_)))
  have hsD:=h.tailS (k:=i) (by omega)
  rw [h0.fd l (by omega)] at hsD
  have hbl:=(h.blt (b:=b) rfl).2
  have f56:Fr (fun k=>b5=k) w w6:=(f5.mono (fun _ _ h=>h.elim)).trans1 (f6.mono (fun k _ h=>by simpa [blkOf] using h))
  have f7:=f56.trans1 (Fr.drew _ _)
  have hsD7:=f7.sl hsD (fun _ k hk h=>by rw [sl_blk] at hk; injection hk with hk; omega)
  refine cpy_row ((Fr.drew (fun _=>False) w6).row hr6 (fun _ _ h=>h)) hsD7.src (by rw [hlD]) (by omega) (by intro v hv; exact h0.fo _ v (List.mem_of_mem_take hv)) (fun w8 hr8 f8=>⟨_,_,rfl,?_,?_,fun k hk=>.inr (by simp [blkOf] at hk; omega)⟩)
  ·exact (f7.trans1 (f8.mono (fun k _ h=>by simpa [blkOf] using h))).mono (fun k hk h=>by omega)
  ·have hD:(flt enc (l.drop i)).take (min (n - i) (n+1 - (i+1)) * 2)=flt enc (l.drop i):=List.take_of_length_le (by rw [hlD,show min (n - i) (n+1 - (i+1))=n - i by omega]; exact Nat.le_refl _)
   have hd0:((zeros (n+1 - i) ([.string (⟨#[]⟩:ByteArray),.int .i64 0]:List Value)).drop (enc x).length).drop (flt enc (l.drop i)).length=[]:=List.drop_of_length_le (by rw [List.length_drop,hzl,hx,hlD]; omega)
   rw [hD,splice_at (by rw [List.length_append,hlT,hx]; omega),hd0,List.append_nil] at hr8
   exact hr8
 ·have hng:n+1<=c:=by have:=of_decide_eq_false hng; omega
  have hs1:slA (some (⟨b,0,none⟩:Addr)) c (i+1) 2=some ⟨b,(i+1) * 2,none⟩:=slS (by omega)
  refine gd_mk (decide_eq_true (by omega)) (gd_mk (decide_eq_true (by omega)) (gd_mk (decide_eq_true (by omega)) (gd_mk (decide_eq_true (by omega)) ?_)))
  obtain ⟨cs,hcs,hcl⟩:∃ cs,w.heap[b]?=some (.cells cs 62 (0,0))/\cs.size=c * 2:=by
   rcases h.at_ with ⟨h1,_⟩ | ⟨b',cs,hA',_,hh,hs,_⟩
   ·cases h1
   ·cases hA'; exact ⟨cs,hh,hs⟩
  have hov:∀ K:Value->World->Prop,K (.bool false) w->extC Tryz.prog 186 #[Value.slice (some ⟨bv,0,none⟩) 1 1,Value.slice (slA (some (⟨b,0,none⟩:Addr)) c (i+1) 2) (n+1 - (i+1)) (c - (i+1))] w K:=by
   intro K hK
   rw [hs1]
   exact overlaps_ext (tS:=33) (tR:=4) (e:=62) Tryz.func186 (by kernel_rfl) (by kernel_rfl) (by kernel_rfl) (by kernel_rfl) (size:=2) (by decide) (by kernel_rfl) hv hcs (fun h=>hbb h.symm) (by omega) hK
  refine hov _ ⟨false,rfl,vIf_t rfl ?_⟩
  refine gd_mk (decide_eq_true (by omega)) (gd_mk (decide_eq_true (by omega)) (gd_mk (decide_eq_true (by omega)) (gd_mk (decide_eq_true (by omega)) ?_)))
  have hwd:=(Fr.drew (fun _=>False) w).row h (fun _ _ h=>h)
  obtain ⟨us,hul,hE⟩:=row_ext hwd (k:=1) (by omega)
  have hsE:=hE.tailS (k:=i) (by omega)
  have hEl:(flt enc l ++ us).length=(n+1) * 2:=hE.len
  have hmin:min (n+1 - i) (n+1 - (i+1))=n - i:=by omega
  have hdi:(flt enc l ++ us).drop (i * 2)=flt enc (l.drop i) ++ us:=by rw [List.drop_append_of_le_length (by rw [hfl]; omega),h0.fd l (by omega)]
  rw [hdi] at hsE
  have htk:(flt enc (l.drop i) ++ us).take ((n - i) * 2)=flt enc (l.drop i):=by rw [<- hlD,List.take_left]
  refine cpy_row hE hsE.src (by rw [List.length_append,hlD,hul]; omega) (by omega) (by rw [hmin,htk]; exact h0.fo _) (fun w5 hr5 f5=>?_)
  rw [hmin,htk] at hr5
  have hsp:splice (flt enc l ++ us) ((i+1) * 2) (flt enc (l.drop i))=flt enc (l.take (i+1)) ++ flt enc (l.drop i):=by
   have e1:flt enc l ++ us=flt enc (l.take (i+1)) ++ (flt enc (l.drop (i+1)) ++ us):=by rw [<- List.append_assoc,<- flt_app,List.take_append_drop]
   have hd0:(flt enc (l.drop (i+1)) ++ us).drop (flt enc (l.drop i)).length=[]:=List.drop_of_length_le (by rw [List.length_append,h0.fl,List.length_drop,hl,hul,hlD]; omega)
   rw [e1,splice_at (by rw [h0.fl,List.length_take,hl,Nat.min_eq_left (by omega)]),hd0,List.append_nil]
  rw [hsp] at hr5
  have f5:Fr (fun k=>b=k) w w5:=((Fr.drew (fun k=>b=k) w).trans1 (f5.mono (fun k _ h=>by simpa [blkOf] using h)))
  refine gd_mk (decide_eq_true (by omega)) (gd_mk (decide_eq_true (by omega)) ?_)
  refine cpy_row hr5 (src_rec (hv.fr f5 (fun h=>hbb h)) hx) (by omega) (by omega) (by rw [Nat.min_eq_left (by omega),Nat.one_mul,htx]; exact ox) (fun w6 hr6 f6=>⟨_,_,rfl,?_,?_,fun k hk=>.inl hk⟩)
  ·exact (f5.trans1 (f6.mono (fun k _ h=>by simpa [blkOf] using h))).mono (fun k _ h=>by rw [h]; rfl)
  ·rw [Nat.min_eq_left (by omega),Nat.one_mul,htx] at hr6
   have e2:l.take (i+1)=l.take i ++ [l[i]'(by omega)]:=by rw [List.take_add_one,List.getElem?_eq_getElem (by omega)]; rfl
   rw [e2,flt_app,flt_one,List.append_assoc,splice_at hlT,hx,List.drop_left' (h0.len _)] at hr6
   exact hr6
end
end Go.Proofs.YthcdionpeoobbaaGreatDoor.InsNm
namespace Go.Proofs.YthcdionpeoobbaaGreatDoor.DelNm
open Go.GV Go.RowKit
section
variable {β:Type} {enc:β->List Value}
set_option maxHeartbeats 1000000 in
theorem delete_calls (h0:EncO β enc 2) (B:Nat) (A:Option Addr) (n c i:Nat) (l:List β) (w:World) (h:Row w B 62 2 A n c (flt enc l)) (hl:l.length=n) (hi:i < n) (hn:n<=1073741824) {j:Int} (hj:j=((i+1:Nat):Int)) :
  Calls Tryz.prog 164 #[.slice A n c,.int .i64 (i:Nat),.int .i64 j] w fun e w'=>e=.returned (.slice A (n - 1) c)/\Fr (fun k=>blkOf A=some k) w w'/\Row w' B 62 2 A (n - 1) c (flt enc (l.take i ++ l.drop (i+1))):=by
 subst hj
 refine (F164.of A n c _ _ w (Q:=fun v w'=>v=.slice A (n - 1) c/\Fr (fun k=>blkOf A=some k) w w'/\Row w' B 62 2 A (n - 1) c (flt enc (l.take i ++ l.drop (i+1)))) ?_).mono (fun e w' ⟨v,he,hv,h⟩=>⟨by rw [he,hv],h⟩)
 have hle:=h.le
 have hfl:=h0.fl l
 obtain ⟨b,hb⟩:∃ b,A=some ⟨b,0,none⟩:=by
  rcases h.at_ with ⟨_,h0,_⟩ | ⟨b,_,hA,_⟩
  ·omega
  ·exact ⟨b,hA⟩
 subst hb
 have h00:slA (some (⟨b,0,none⟩:Addr)) c 0 2=some ⟨b,0,none⟩:=sl0 _ _ _
 refine gd_mk (decide_eq_true (by omega)) (gd_mk (decide_eq_true (by omega)) (gd_mk (decide_eq_true (by omega)) (gd_mk (decide_eq_true (by omega)) (gd_mk (decide_eq_true (by omega)) (gd_mk (decide_eq_true (by omega)) (vIf_f (by simp; omega) ?_))))))
 refine gd_mk (decide_eq_true (by omega)) (gd_mk (decide_eq_true (by omega)) (gd_mk (decide_eq_true (by omega)) (gd_mk (decide_eq_true (by omega)) ?_)))
 simp only [h00,Int.toNat_natCast]
 have hwd:=(Fr.drew (fun _=>False) w).row h (fun _ _ h=>h)
 have hcut:=row_cutG hwd (k:=i) (by omega)
 have hsD:=hwd.tailS (k:=i+1) (by omega)
 rw [h0.fd l (by omega)] at hsD
 rw [h0.ft l (by omega)] at hcut
 have hnm:i+(n - (i+1))=n - 1:=by omega
 refine app_in hcut hsD.src (by rw [h0.fl,List.length_drop,hl]) (h0.fo _) (by omega) (by omega) (by omega) (fun w5 hr5 f5=>?_)
 rw [hnm] at hr5 ⊢
 rw [<- flt_app] at hr5
 refine gd_mk (decide_eq_true (by omega)) (gd_mk (decide_eq_true (by omega)) (gd_mk (decide_eq_true (by omega)) (gd_mk (decide_eq_true (by omega)) (vIf_f (by simp; omega) ?_))))
 have hs1:slA (some (⟨b,0,none⟩:Addr)) c (n - 1) 2=some ⟨b,(n - 1) * 2,none⟩:=slS (by omega)
 simp only [Int.toNat_natCast]
 rw [hs1,show n - (n - 1)=1 by omega]
 obtain ⟨us,hul,hE⟩:=row_ext hr5 (k:=1) (by omega)
 have hpl:(flt enc (l.take i ++ l.drop (i+1))).length=(n - 1) * 2:=hr5.len
 rw [show n - 1+1=n by omega] at hE
 have hpt:=row_putG (o':=(n - 1) * 2) (us:=zeros 1 ([.string (⟨#[]⟩:ByteArray),.int .i64 0]:List Value)) (K:=fun w'=>True/\Fr (fun k=>blkOf (some (⟨b,0,none⟩:Addr))=some k) w w'/\Row w' B 62 2 (some ⟨b,0,none⟩) (n - 1) c (flt enc (l.take i ++ l.drop (i+1)))) hE (by omega) (by rw [zeros_length]; show (n - 1) * 2+1 * 2<=_; rw [<- Nat.add_mul]; exact Nat.mul_le_mul_right _ (by omega)) (zeros_one (by intro v hv; repeat (first | (cases hv; done) | (rcases List.mem_cons.1 hv with rfl | hv; · rfl)))) (fun w6 hr6 f6=>⟨trivial,((Fr.drew _ w).trans1 f5).trans1 f6,?_⟩)
 ·rw [<- Nat.zero_add ((n - 1) * 2)]
  exact hpt
 ·have h7:=row_cutG hr6 (k:=n - 1) (by omega)
  rw [splice_at hpl,List.append_assoc,<- hpl,List.take_left] at h7
  exact h7
end
end Go.Proofs.YthcdionpeoobbaaGreatDoor.DelNm
namespace Go.Proofs.YthcdionpeoobbaaGreatDoor.ClnNm
open Go.GV Go.RowKit
theorem clone_calls (A:Option Addr) (n c:Nat) (vs:List Value) (w:World) (h:Sl w 2 A n vs) (ho:∀ v ∈ vs,v.oneCell'=true) (hn:n<=1073741824) :
  Calls Tryz.prog 120 #[.slice A n c] w fun e w'=>Fr (fun _=>False) w w'/\∃ A' c',e=.returned (.slice A' n c')/\Row w' w.heap.size 62 2 A' n c' vs:=by
 refine (F120.of A n c w (Q:=fun v w'=>Fr (fun _=>False) w w'/\∃ A' c',v=.slice A' n c'/\Row w' w.heap.size 62 2 A' n c' vs) ?_).mono (fun e w' ⟨v,he,hf,A',c',hv,h⟩=>⟨hf,A',c',by rw [he,hv],h⟩)
 refine vIf_mk (fun h0=>?_) (fun h0=>nw_mk ?_)
 ·have:n=0:=by
   refine Classical.byContradiction fun hn0=>?_
   obtain ⟨b,o,hA,_⟩:=h.2 hn0
   rw [hA] at h0; cases h0
  subst this
  have:vs=[]:=List.length_eq_zero_iff.1 (by have:=h.1; omega)
  subst this
  exact ⟨Fr.refl _ _,none,0,rfl,Row.nil _ _ _ _⟩
 ·have f1:Fr (fun _=>False) w (w.alloc (.cells ([]:List Value).toArray 62)):=Fr.alloc _ _ _
  have r1:Row (w.alloc (.cells ([]:List Value).toArray 62)) w.heap.size 62 2 (some ⟨w.heap.size,0,none⟩) 0 0 []:=Row.new (Nat.le_refl _) rfl
  have hs:(w.alloc (.cells ([]:List Value).toArray 62)).heap.size=w.heap.size+1:=alloc_size _ _
  generalize w.alloc (.cells ([]:List Value).toArray 62)=w1 at f1 r1 hs ⊢
  refine app_row r1 (f1.sl h (fun _ _ _ h=>h)).src ho rfl (by omega) (by omega) (by omega) (fun A' c' w' hr' f'=>⟨?_,A',c',?_,?_⟩)
  ·exact f1.trans f' (fun _ _ h=>h) (fun k hk h'=>by simp only [blkOf,Option.some.injEq] at h'; omega)
  ·rw [Nat.zero_add]
  ·rw [Nat.zero_add,List.nil_append] at hr'; exact hr'
end Go.Proofs.YthcdionpeoobbaaGreatDoor.ClnNm
namespace Go.Proofs.YthcdionpeoobbaaGreatDoor.StbNm
open Go.GV Go.RowKit Go.Stb
structure Srt (β:Type) (enc:β->List Value) (cmp:β->β->Int):Prop where
 len:∀ x,(enc x).length=2
 one:∀ x,∀ v ∈ enc x,v.oneCell'=true
 ord:OrdC cmp
 call:∀ x y w,Calls Tryz.prog 122 #[ofL (enc x),ofL (enc y)] w fun e w'=>e=.returned (.int .i64 (cmp x y))/\Fr (fun _=>False) w w'
def cf:Value:=.func (.func 122) #[] #[]
section
variable {β:Type} {enc:β->List Value} {cmp:β->β->Int}
abbrev encT (enc:β->List Value):β×Nat->List Value:=fun x=>enc x.1
theorem Srt.lenT (h:Srt β enc cmp) {l:List (β×Nat)}:∀ x ∈ l,(encT enc x).length=2:=fun x _=>h.len x.1
def RS (enc:β->List Value) (w:World) (B:Nat) (A:Option Addr) (n c:Nat) (l:List (β×Nat)):Prop:=Row w B 62 2 A n c (flt (encT enc) l)/\l.length=n
theorem RS.fr0 {w w':World} {B:Nat} {A:Option Addr} {n c:Nat} {l:List (β×Nat)} (h:RS enc w B A n c l) (f:Fr (fun _=>False) w w'):RS enc w' B A n c l:=⟨f.row h.1 (fun _ _ h=>h),h.2⟩
theorem RS.drew {w:World} {B:Nat} {A:Option Addr} {n c:Nat} {l:List (β×Nat)} (h:RS enc w B A n c l):RS enc w.drew B A n c l:=h.fr0 (Fr.drew _ _)
theorem rs_rd (h0:Srt β enc cmp) {w:World} {B:Nat} {A:Option Addr} {n c:Nat} {l:List (β×Nat)} (h:RS enc w B A n c l) {i:Nat} {x:β×Nat} (hi:l[i]?=some x) {ii:Int} (hii:ii=(i:Int)) {K:List Value->Prop} (hK:K (enc x.1)) :
  dr A fun b o=>gd (decide (0<=ii)) (gd (decide (ii < ((n:Nat):Int))) (ldA 2 w b (o+ii.toNat * 2) K)) :=
 el_rd h.1.sl h0.lenT hi hii h.2 (fun b o hA hc=>⟨enc x.1,h0.len x.1,hc,hK⟩)
theorem rs_swap (h0:Srt β enc cmp) {w:World} {B:Nat} {A:Option Addr} {n c:Nat} {l:List (β×Nat)} (h:RS enc w B A n c l) {i j:Nat} {x y:β×Nat} (hi:i < n) (hj:j < n) {ii jj:Int} (hii:ii=(i:Int)) (hjj:jj=(j:Int)) {K:World->Prop}
  (hK:∀ w',RS enc w' B A n c ((l.set i y).set j x)->Fr (fun k=>blkOf A=some k) w w'->K w') :
  dr A fun b o=>gd (decide (0<=ii)) (gd (decide (ii < ((n:Nat):Int))) (gd ((enc y.1).length == 2) (st w b (o+ii.toNat * 2) (enc y.1) fun w1 =>
   dr A fun b o=>gd (decide (0<=jj)) (gd (decide (jj < ((n:Nat):Int))) (gd ((enc x.1).length == 2) (st w1 b (o+jj.toNat * 2) (enc x.1) K)))))) :=
 el_put (enc:=encT enc) h.1 h0.lenT h.2 hi hii (h0.len y.1) (h0.one y.1) (fun w1 hr1 f1 =>
  el_put (enc:=encT enc) hr1 h0.lenT (by rw [List.length_set]; exact h.2) hj hjj (h0.len x.1) (h0.one x.1) (fun w2 hr2 f2=>hK w2 ⟨hr2,by rw [List.length_set,List.length_set]; exact h.2⟩ (f1.trans1 f2)))
theorem em (i j:Nat) (h1:i < 1099511627776) (h2:j < 1099511627776):IntKind.wrap .i64 (Int.fdiv (IntKind.wrap .u64 (IntKind.wrap .i64 ((i:Int)+(j:Int)))) (2 ^ 1))=(((i+j) / 2:Nat):Int):=by
 rw [i64_id (n:=(i:Int)+(j:Int)) (by omega) (by omega),IntKind.wrap_u64,Int.fdiv_eq_ediv_of_nonneg _ (by decide),i64_id (by omega) (by omega)]; omega
theorem ep (i:Nat) (h:i < 1099511627776):IntKind.wrap .i64 ((i:Int)+1)=((i+1:Nat):Int):=by rw [i64_id (by omega) (by omega)]; rfl
theorem ea (i j:Nat) (h1:i < 1099511627776) (h2:j < 1099511627776):IntKind.wrap .i64 ((i:Int)+(j:Int))=((i+j:Nat):Int):=by rw [i64_id (by omega) (by omega)]; rfl
theorem es (i j:Nat) (h1:i < 1099511627776) (h2:j<=i):IntKind.wrap .i64 ((i:Int) - (j:Int))=((i - j:Nat):Int):=by rw [i64_id (by omega) (by omega)]; omega
theorem e1 (i:Nat) (h1:i < 1099511627776) (h2:1<=i):IntKind.wrap .i64 ((i:Int) - 1)=((i - 1:Nat):Int):=by rw [i64_id (by omega) (by omega)]; omega
theorem swapRange_calls (h0:Srt β enc cmp) (B:Nat) (A:Option Addr) (n c:Nat) (P X Y Z S:List (β×Nat)) (w:World) (h:RS enc w B A n c (P ++ X ++ Y ++ Z ++ S)) (hXZ:X.length=Z.length) (hn:n < 549755813888) {a b m:Int} (ha:a=((P.length:Nat):Int)) (hb:b=((P.length+X.length+Y.length:Nat):Int)) (hm:m=((X.length:Nat):Int)) :
  Calls Tryz.prog 197 #[.slice A n c,.int .i64 a,.int .i64 b,.int .i64 m,cf] w fun e w'=>e=.returned (.tuple #[])/\Fr (fun k=>blkOf A=some k) w w'/\RS enc w' B A n c (P ++ Z ++ Y ++ X ++ S):=by
 subst ha; subst hb; subst hm
 refine (F197s.of A n c _ _ _ w (Q:=fun v w'=>v=.tuple #[]/\Fr (fun k=>blkOf A=some k) w w'/\RS enc w' B A n c (P ++ Z ++ Y ++ X ++ S)) ?_).mono (fun e w' ⟨v,he,hv,h⟩=>⟨by rw [he,hv],h⟩)
 have hlen:=h.2
 simp only [List.length_append] at hlen
 refine jnC_mk (loop_rule (fun s u=>Fr (fun k=>blkOf A=some k) w u/\∃ (k:Nat) (X1 X2 Z1 Z2:List (β×Nat)),X=X1 ++ X2/\Z=Z1 ++ Z2/\X1.length=k/\Z1.length=k/\s=((A,n,c),((P.length:Nat):Int),((P.length+X.length+Y.length:Nat):Int),((X.length:Nat):Int),(k:Int),())/\RS enc u B A n c (P ++ Z1 ++ X2 ++ Y ++ X1 ++ Z2 ++ S))
  (fun s _=>(X.length - s.2.2.2.2.1).toNat) ?_ _ _ ⟨Fr.refl _ _,0,[],X,[],Z,rfl,rfl,rfl,rfl,rfl,by simpa using h⟩)
 rintro s u C ⟨hf,k,X1,X2,Z1,Z2,hX,hZ,hx1,hz1,rfl,hr⟩ hC _
 have hXl:X.length=X1.length+X2.length:=by rw [hX,List.length_append]
 have hZl:Z.length=Z1.length+Z2.length:=by rw [hZ,List.length_append]
 refine vIf_mk (fun hlt=>?_) (fun hge=>?_)
 ·have hlt2:(k:Int) < (X.length:Int):=of_decide_eq_true hlt
  obtain ⟨x,X2',rfl⟩:∃ x X2',X2=x :: X2':=by
   cases X2 with
   | nil=>simp at hXl; omega
   | cons x r=>exact ⟨x,r,rfl⟩
  obtain ⟨z,Z2',rfl⟩:∃ z Z2',Z2=z :: Z2':=by
   cases Z2 with
   | nil=>simp at hZl; omega
   | cons x r=>exact ⟨x,r,rfl⟩
  simp only [List.length_cons] at hXl hZl
  have ea1:IntKind.wrap .i64 (((P.length:Nat):Int)+(k:Int))=((P.length+k:Nat):Int):=ea _ _ (by omega) (by omega)
  have eb1:IntKind.wrap .i64 (((P.length+X.length+Y.length:Nat):Int)+(k:Int))=((P.length+X.length+Y.length+k:Nat):Int):=ea _ _ (by omega) (by omega)
  have hr:=hr.drew
  have fd:Fr (fun k=>blkOf A=some k) w u.drew:=hf.trans1 (Fr.drew _ _)
  have hl1:P ++ Z1 ++ (x :: X2') ++ Y ++ X1 ++ (z :: Z2') ++ S=(P ++ Z1) ++ x :: (X2' ++ Y ++ X1 ++ (z :: Z2') ++ S):=by simp
  have hl2:P ++ Z1 ++ (x :: X2') ++ Y ++ X1 ++ (z :: Z2') ++ S=(P ++ Z1 ++ (x :: X2') ++ Y ++ X1) ++ z :: (Z2' ++ S):=by simp
  dsimp only
  refine rs_rd h0 hr (i:=P.length+X.length+Y.length+k) (x:=z) (by rw [hl2]; exact get_mid (by simp; omega)) eb1 ?_
  refine rs_rd h0 hr (i:=P.length+k) (x:=x) (by rw [hl1]; exact get_mid (by simp; omega)) ea1 ?_
  refine rs_swap h0 hr (i:=P.length+k) (j:=P.length+X.length+Y.length+k) (x:=x) (y:=z) (by omega) (by omega) ea1 eb1 (fun w' hr' f'=>jnC_mk (hC _ _ ⟨fd.trans1 f',k+1,X1 ++ [x],X2',Z1 ++ [z],Z2',by rw [hX]; simp,by rw [hZ]; simp,by simp [hx1],by simp [hz1],by rw [ep k (by omega)],?_⟩ ?_))
  ·rw [hl1,set_mid (by simp; omega)] at hr'
   have hl3:(P ++ Z1) ++ z :: (X2' ++ Y ++ X1 ++ (z :: Z2') ++ S)=(P ++ Z1 ++ z :: (X2' ++ Y ++ X1)) ++ z :: (Z2' ++ S):=by simp
   rw [hl3,set_mid (by simp; omega)] at hr'
   have hl4:(P ++ Z1 ++ z :: (X2' ++ Y ++ X1)) ++ x :: (Z2' ++ S)=P ++ (Z1 ++ [z]) ++ X2' ++ Y ++ (X1 ++ [x]) ++ Z2' ++ S:=by simp
   rw [hl4] at hr'
   exact hr'
  ·show ((X.length:Int) - IntKind.wrap .i64 ((k:Int)+1)).toNat < ((X.length:Int) - (k:Int)).toNat
   rw [ep k (by omega)]; omega
 ·have hge2:¬ (k:Int) < (X.length:Int):=of_decide_eq_false hge
  have hx2:X2=[]:=List.length_eq_zero_iff.1 (by omega)
  have hz2:Z2=[]:=List.length_eq_zero_iff.1 (by omega)
  subst hx2; subst hz2
  simp only [List.append_nil] at hX hZ hr
  subst hX; subst hZ
  exact ⟨rfl,hf,hr⟩
theorem rotate_calls (h0:Srt β enc cmp) (B:Nat) (A:Option Addr) (n c:Nat) (P X Y S:List (β×Nat)) (w:World) (h:RS enc w B A n c (P ++ X ++ Y ++ S)) (hX:X ≠ []) (hY:Y ≠ []) (hn:n < 549755813888) {a m b:Int} (ha:a=((P.length:Nat):Int)) (hm:m=((P.length+X.length:Nat):Int)) (hb:b=((P.length+X.length+Y.length:Nat):Int)) :
  Calls Tryz.prog 193 #[.slice A n c,.int .i64 a,.int .i64 m,.int .i64 b,cf] w fun e w'=>e=.returned (.tuple #[])/\Fr (fun k=>blkOf A=some k) w w'/\RS enc w' B A n c (P ++ Y ++ X ++ S):=by
 subst ha; subst hm; subst hb
 refine (F193s.of A n c _ _ _ w (Q:=fun v w'=>v=.tuple #[]/\Fr (fun k=>blkOf A=some k) w w'/\RS enc w' B A n c (P ++ Y ++ X ++ S)) ?_).mono (fun e w' ⟨v,he,hv,h⟩=>⟨by rw [he,hv],h⟩)
 have hlen:=h.2
 simp only [List.length_append] at hlen
 have hX0:X.length ≠ 0:=fun h=>hX (List.length_eq_zero_iff.1 h)
 have hY0:Y.length ≠ 0:=fun h=>hY (List.length_eq_zero_iff.1 h)
 have eX:IntKind.wrap .i64 (((P.length+X.length:Nat):Int) - ((P.length:Nat):Int))=((X.length:Nat):Int):=by rw [es _ _ (by omega) (by omega),Nat.add_sub_cancel_left]
 have eY:IntKind.wrap .i64 (((P.length+X.length+Y.length:Nat):Int) - ((P.length+X.length:Nat):Int))=((Y.length:Nat):Int):=by rw [es _ _ (by omega) (by omega),Nat.add_sub_cancel_left]
 refine jnC_mk (loop_rule (fun s u=>Fr (fun k=>blkOf A=some k) w u/\∃ (P' X' Y' S':List (β×Nat)),X' ≠ []/\Y' ≠ []/\P'.length+X'.length=P.length+X.length/\P' ++ Y' ++ X' ++ S'=P ++ Y ++ X ++ S/\s=((A,n,c),((P.length+X.length:Nat):Int),(),((X'.length:Nat):Int),((Y'.length:Nat):Int),())/\RS enc u B A n c (P' ++ X' ++ Y' ++ S'))
  (fun s _=>(s.2.2.2.1+s.2.2.2.2.1).toNat) ?_ _ _ ⟨Fr.refl _ _,P,X,Y,S,hX,hY,rfl,rfl,by rw [eX,eY],h⟩)
 rintro s u C ⟨hf,P',X',Y',S',hX',hY',hpx,htot,rfl,hr⟩ hC _
 have hX1:X'.length ≠ 0:=fun h=>hX' (List.length_eq_zero_iff.1 h)
 have hY1:Y'.length ≠ 0:=fun h=>hY' (List.length_eq_zero_iff.1 h)
 have hl:=hr.2
 simp only [List.length_append] at hl
 have em1:IntKind.wrap .i64 (((P.length+X.length:Nat):Int) - ((X'.length:Nat):Int))=((P'.length:Nat):Int):=by rw [es _ _ (by omega) (by omega)]; congr 1; omega
 refine vIf_mk (fun hne=>vIf_mk (fun hgt=>?_) (fun hle=>?_)) (fun heq=>?_)
 ·have hgt2:(X'.length:Int) > (Y'.length:Int):=of_decide_eq_true hgt
  obtain ⟨U,V,hUV,hU⟩:∃ U V,X'=U ++ V/\U.length=Y'.length:=⟨X'.take Y'.length,X'.drop Y'.length,(List.take_append_drop _ _).symm,by rw [List.length_take]; omega⟩
  have hVl:X'.length=U.length+V.length:=by rw [hUV,List.length_append]
  have hr2:RS enc u B A n c (P' ++ U ++ V ++ Y' ++ S'):=by
   rw [hUV] at hr
   simpa using hr
  refine (swapRange_calls h0 B A n c P' U V Y' S' u hr2 hU hn em1 (by rw [Nat.add_assoc P'.length,<- hVl]; exact congrArg _ hpx.symm) (by rw [hU])).mono ?_
  rintro r u2 ⟨rfl,f2,hr3⟩
  refine ⟨rfl,jnC_mk (hC _ _ ⟨hf.trans1 f2,P' ++ Y',V,U,S',?_,?_,?_,?_,?_,?_⟩ ?_)⟩
  ·intro h; rw [h] at hVl; simp at hVl; omega
  ·intro h; rw [h] at hU; simp at hU; omega
  ·simp only [List.length_append]; omega
  ·rw [<- htot,hUV]; simp
  ·show (_,_,_,IntKind.wrap .i64 ((X'.length:Int) - (Y'.length:Int)),_,())=_
   rw [es _ _ (by omega) (by omega),hU,show X'.length - Y'.length=V.length by omega]
  ·exact hr3
  ·show (IntKind.wrap .i64 ((X'.length:Int) - (Y'.length:Int))+(Y'.length:Int)).toNat < ((X'.length:Int)+(Y'.length:Int)).toNat
   rw [es _ _ (by omega) (by omega)]; omega
 ·have hle2:¬ (X'.length:Int) > (Y'.length:Int):=of_decide_eq_false hle
  have hne2:X'.length ≠ Y'.length:=by
   have hne:((X'.length:Int) != (Y'.length:Int))=true:=hne
   intro h; rw [h] at hne; simp at hne
  obtain ⟨U,V,hUV,hV⟩:∃ U V,Y'=U ++ V/\V.length=X'.length:=⟨Y'.take (Y'.length - X'.length),Y'.drop (Y'.length - X'.length),(List.take_append_drop _ _).symm,by rw [List.length_drop]; omega⟩
  have hUl:Y'.length=U.length+V.length:=by rw [hUV,List.length_append]
  have hr2:RS enc u B A n c (P' ++ X' ++ U ++ V ++ S'):=by
   rw [hUV] at hr
   simpa using hr
  have eb2:IntKind.wrap .i64 (IntKind.wrap .i64 (((P.length+X.length:Nat):Int)+((Y'.length:Nat):Int)) - ((X'.length:Nat):Int))=((P'.length+X'.length+U.length:Nat):Int):=by
   rw [ea _ _ (by omega) (by omega),es _ _ (by omega) (by omega)]; congr 1; omega
  refine (swapRange_calls h0 B A n c P' X' U V S' u hr2 hV.symm hn em1 eb2 rfl).mono ?_
  rintro r u2 ⟨rfl,f2,hr3⟩
  refine ⟨rfl,jnC_mk (hC _ _ ⟨hf.trans1 f2,P',V,U,X' ++ S',?_,?_,?_,?_,?_,?_⟩ ?_)⟩
  ·intro h; rw [h] at hV; simp at hV; omega
  ·intro h; rw [h] at hUl; simp at hUl; omega
  ·omega
  ·rw [<- htot,hUV]; simp
  ·show (_,_,_,_,IntKind.wrap .i64 ((Y'.length:Int) - (X'.length:Int)),())=_
   rw [es _ _ (by omega) (by omega),hV,show Y'.length - X'.length=U.length by omega]
  ·simpa using hr3
  ·show ((X'.length:Int)+IntKind.wrap .i64 ((Y'.length:Int) - (X'.length:Int))).toNat < ((X'.length:Int)+(Y'.length:Int)).toNat
   rw [es _ _ (by omega) (by omega)]; omega
 ·have heq2:X'.length=Y'.length:=by
   have heq:((X'.length:Int) != (Y'.length:Int))=false:=heq
   have:(X'.length:Int)=(Y'.length:Int):=by simpa using heq
   omega
  refine (swapRange_calls h0 B A n c P' X' [] Y' S' u (by simpa using hr) heq2 hn em1 (by simp; omega) rfl).mono ?_
  rintro r u2 ⟨rfl,f2,hr3⟩
  rw [List.append_nil,htot] at hr3
  exact ⟨rfl,rfl,hf.trans1 f2,hr3⟩
end
section
variable {β:Type} {enc:β->List Value} {cmp:β->β->Int}
def Mrg (enc:β->List Value) (cmp:β->β->Int) (w w':World) (B:Nat) (A:Option Addr) (n c:Nat) (P X Y S:List (β×Nat)):Prop :=
 Fr (fun k=>blkOf A=some k) w w'/\∃ M,M.Perm (X ++ Y)/\Sorted cmp M/\RS enc w' B A n c (P ++ M ++ S)
theorem le_lt_le (h:OrdC cmp) {X Y:List (β×Nat)} (hX:Sorted cmp X) (hY:Sorted cmp Y) {k k' l l':Nat} {u u' v v':β×Nat} (hu:X[k]?=some u) (hu':X[k']?=some u') (hk:k<=k') (hv:Y[l]?=some v) (hv':Y[l']?=some v') (hl:l'<=l) (hlt:lt cmp u' v'):lt cmp u v:=by
 have h1:lt cmp u v':=by
  rcases Nat.lt_or_ge k k' with h' | h'
  ·exact lt_trans h (sorted_get h hX hu hu' h') hlt
  ·have:k=k':=by omega
   subst this
   rw [hu] at hu'; injection hu' with hu'; subst hu'; exact hlt
 rcases Nat.lt_or_ge l' l with h' | h'
 ·exact lt_trans h h1 (sorted_get h hY hv' hv h')
 ·have:l=l':=by omega
  subst this
  rw [hv] at hv'; injection hv' with hv'; subst hv'; exact h1
theorem mem_take_at {l:List (β×Nat)} {i:Nat} {x:β×Nat} (h:x ∈ l.take i):∃ j,j < i/\l[j]?=some x:=by
 obtain ⟨j,hj⟩:=List.mem_iff_getElem?.1 h
 rw [List.getElem?_take] at hj
 split at hj
 ·exact ⟨j,by assumption,hj⟩
 ·cases hj
theorem mem_drop_at {l:List (β×Nat)} {i:Nat} {x:β×Nat} (h:x ∈ l.drop i):∃ j,i<=j/\l[j]?=some x:=by
 obtain ⟨j,hj⟩:=List.mem_iff_getElem?.1 h
 rw [List.getElem?_drop] at hj
 exact ⟨i+j,by omega,hj⟩
theorem merge_one (h0:Srt β enc cmp) (B:Nat) (A:Option Addr) (n c:Nat) (P Y S:List (β×Nat)) (x:β×Nat) (w:World) (h:RS enc w B A n c (P ++ x :: Y ++ S)) (hY:Sorted cmp Y) (hb:∀ y ∈ Y,bef x y) (hn:n < 549755813888) :
  F185s.l3 (fun v w'=>v=.tuple #[]/\Mrg enc cmp w w' B A n c P [x] Y S) ((A,n,c),((P.length:Nat):Int),(),((P.length+1:Nat):Int),((P.length+1+Y.length:Nat):Int),()) w:=by
 have hlen:=h.2
 simp only [List.length_append,List.length_cons] at hlen
 have gx:(P ++ x :: Y ++ S)[P.length]?=some x:=by rw [List.append_assoc]; exact get_mid rfl
 refine loop_rule (fun s u=>Fr (fun k=>blkOf A=some k) w u/\RS enc u B A n c (P ++ x :: Y ++ S)/\∃ p q:Nat,p<=q/\q<=Y.length/\(∀ y ∈ Y.take p,lt cmp y x)/\(∀ y ∈ Y.drop q,lt cmp x y)/\s=((A,n,c),((P.length:Nat):Int),(),((P.length+1+p:Nat):Int),((P.length+1+q:Nat):Int),()))
  (fun s _=>(s.2.2.2.2.1 - s.2.2.2.1).toNat) ?_ _ _ ⟨Fr.refl _ _,h,0,Y.length,by omega,by omega,by simp,by simp,rfl⟩
 rintro s u C ⟨hf,hr,p,q,hpq,hqY,hlo,hhi,rfl⟩ hC _
 refine vIf_mk (fun hlt=>?_) (fun hge=>?_)
 ·have hlt2:((P.length+1+p:Nat):Int) < ((P.length+1+q:Nat):Int):=of_decide_eq_true hlt
  have emm:=em (P.length+1+p) (P.length+1+q) (by omega) (by omega)
  have hh:(P.length+1+p+(P.length+1+q)) / 2=P.length+1+(p+q) / 2:=by omega
  rw [hh] at emm
  have gi:Y[(p+q) / 2]?=some (Y[(p+q) / 2]'(by omega)):=List.getElem?_eq_getElem (by omega)
  generalize Y[(p+q) / 2]'(by omega)=y at gi
  have gy:(P ++ x :: Y ++ S)[P.length+1+(p+q) / 2]?=some y:=by
   have:P ++ x :: Y ++ S=(P ++ [x]) ++ (Y ++ S):=by simp
   rw [this,List.getElem?_append_right (by simp),List.getElem?_append_left (by simp; omega)]
   rw [show P.length+1+(p+q) / 2 - (P ++ [x]).length=(p+q) / 2 by simp]; exact gi
  have hym:y ∈ Y:=List.mem_of_getElem? gi
  dsimp only
  rw [emm]
  refine rs_rd h0 hr.drew gy rfl (rs_rd h0 hr.drew gx rfl ((h0.call y.1 x.1 u.drew).mono ?_))
  rintro r u2 ⟨rfl,f2⟩
  have hf2:Fr (fun k=>blkOf A=some k) w u2:=(hf.trans1 (Fr.drew _ _)).trans1 (f2.mono (fun _ _ h=>h.elim))
  refine ⟨_,rfl,vIf_mk (fun h1=>jnC_mk (hC _ _ ⟨hf2,hr.drew.fr0 f2,(p+q) / 2+1,q,by omega,hqY,fun z hz=>?_,hhi,by rw [ep _ (by omega)]; rfl⟩ ?_)) (fun h1=>jnC_mk (hC _ _ ⟨hf2,hr.drew.fr0 f2,p,(p+q) / 2,by omega,by omega,hlo,fun z hz=>?_,rfl⟩ ?_))⟩
  ·have h1:=bef_yes h0.ord (hb y hym) (of_decide_eq_true h1)
   obtain ⟨j,hj,hz⟩:=mem_take_at hz
   by_cases hjm:j=(p+q) / 2
   ·subst hjm; rw [gi] at hz; injection hz with hz; subst hz; exact h1
   ·exact lt_trans h0.ord (sorted_get h0.ord hY hz gi (by omega)) h1
  ·show (((P.length+1+q:Nat):Int) - IntKind.wrap .i64 (((P.length+1+(p+q) / 2:Nat):Int)+1)).toNat < (((P.length+1+q:Nat):Int) - ((P.length+1+p:Nat):Int)).toNat
   rw [ep _ (by omega)]; omega
  ·have h1:=bef_no h0.ord (hb y hym) (of_decide_eq_false h1)
   obtain ⟨j,hj,hz⟩:=mem_drop_at hz
   by_cases hjm:j=(p+q) / 2
   ·subst hjm; rw [gi] at hz; injection hz with hz; subst hz; exact h1
   ·exact lt_trans h0.ord h1 (sorted_get h0.ord hY gi hz (by omega))
  ·show (((P.length+1+(p+q) / 2:Nat):Int) - ((P.length+1+p:Nat):Int)).toNat < (((P.length+1+q:Nat):Int) - ((P.length+1+p:Nat):Int)).toNat
   omega
 ·have hge2:¬ ((P.length+1+p:Nat):Int) < ((P.length+1+q:Nat):Int):=of_decide_eq_false hge
  have hpq2:q=p:=by omega
  subst hpq2
  clear hC
  have hYs:=List.take_append_drop q Y
  have hs2:=hY
  rw [<- hYs] at hs2
  obtain ⟨hs21,hs22,hs23⟩:=sorted_of_app hs2
  have htl:(Y.take q).length=q:=by rw [List.length_take]; omega
  refine jnC_mk (loop_rule (fun s v=>Fr (fun k=>blkOf A=some k) w v/\∃ U V:List (β×Nat),U ++ V=Y.take q/\s=((A,n,c),((P.length+1+q:Nat):Int),((P.length+U.length:Nat):Int),())/\RS enc v B A n c (P ++ U ++ x :: V ++ Y.drop q ++ S))
   (fun s _=>(P.length+1+q - s.2.2.1).toNat) ?_ _ _ ⟨hf,[],Y.take q,rfl,rfl,by
    have:P ++ [] ++ x :: Y.take q ++ Y.drop q ++ S=P ++ x :: Y ++ S:=by
     conv=>rhs; rw [<- hYs]
     simp
    rw [this]; exact hr⟩)
  rintro s v C ⟨hfv,U,V,hUV,rfl,hrv⟩ hC _
  have hUVl:U.length+V.length=q:=by rw [<- htl,<- hUV,List.length_append]
  have e0:IntKind.wrap .i64 (((P.length+1+q:Nat):Int) - 1)=((P.length+q:Nat):Int):=by rw [e1 _ (by omega) (by omega)]; congr 1; omega
  refine vIf_mk (fun hlt=>?_) (fun hge=>?_)
  ·have hlt2:((P.length+U.length:Nat):Int) < IntKind.wrap .i64 (((P.length+1+q:Nat):Int) - 1):=of_decide_eq_true hlt
   rw [e0] at hlt2
   obtain ⟨y,V',rfl⟩:∃ y V',V=y :: V':=by
    cases V with
    | nil=>simp at hUVl; omega
    | cons y r=>exact ⟨y,r,rfl⟩
   have l1:P ++ U ++ x :: (y :: V') ++ Y.drop q ++ S=(P ++ U) ++ x :: (y :: V' ++ Y.drop q ++ S):=by simp
   have l2:P ++ U ++ x :: (y :: V') ++ Y.drop q ++ S=(P ++ U ++ [x]) ++ y :: (V' ++ Y.drop q ++ S):=by simp
   have ek:IntKind.wrap .i64 (((P.length+U.length:Nat):Int)+1)=((P.length+U.length+1:Nat):Int):=ep _ (by omega)
   refine rs_rd h0 hrv.drew (i:=P.length+U.length+1) (x:=y) (by rw [l2]; exact get_mid (by simp; omega)) ek (rs_rd h0 hrv.drew (i:=P.length+U.length) (x:=x) (by rw [l1]; exact get_mid (by simp)) rfl ?_)
   refine rs_swap h0 hrv.drew (i:=P.length+U.length) (j:=P.length+U.length+1) (by omega) (by omega) rfl ek (fun w' hr' f'=>jnC_mk (hC _ _ ⟨(hfv.trans1 (Fr.drew _ _)).trans1 f',U ++ [y],V',by rw [<- hUV]; simp,?_,?_⟩ ?_))
   ·show (_,_,IntKind.wrap .i64 (((P.length+U.length:Nat):Int)+1),())=_
    rw [ek]; simp; omega
   ·rw [l1,set_mid (by simp)] at hr'
    have l3:(P ++ U) ++ y :: (y :: V' ++ Y.drop q ++ S)=(P ++ U ++ [y]) ++ y :: (V' ++ Y.drop q ++ S):=by simp
    rw [l3,set_mid (by simp; omega)] at hr'
    have l4:(P ++ U ++ [y]) ++ x :: (V' ++ Y.drop q ++ S)=P ++ (U ++ [y]) ++ x :: V' ++ Y.drop q ++ S:=by simp
    rw [l4] at hr'; exact hr'
   ·show (((P.length:Nat):Int)+1+((q:Nat):Int) - IntKind.wrap .i64 (((P.length+U.length:Nat):Int)+1)).toNat < (((P.length:Nat):Int)+1+((q:Nat):Int) - ((P.length+U.length:Nat):Int)).toNat
    rw [ek]; omega
  ·have hge2:¬ ((P.length+U.length:Nat):Int) < IntKind.wrap .i64 (((P.length+1+q:Nat):Int) - 1):=of_decide_eq_false hge
   rw [e0] at hge2
   have hV:V=[]:=List.length_eq_zero_iff.1 (by omega)
   subst hV
   rw [List.append_nil] at hUV
   subst hUV
   refine ⟨rfl,hfv,Y.take q ++ ([x] ++ Y.drop q),?_,sorted_app hs21 (sorted_app (List.pairwise_singleton _ _) hs22 (fun u hu v hv=>by simp at hu; subst hu; exact hhi v hv)) (fun u hu v hv=>?_),by simpa using hrv⟩
   ·conv=>rhs; rw [<- hYs]
    exact List.perm_append_comm_assoc _ _ _
   ·rcases List.mem_append.1 hv with hv | hv
    ·simp at hv; subst hv; exact hlo u hu
    ·exact hs23 u hu v hv
theorem merge_last (h0:Srt β enc cmp) (B:Nat) (A:Option Addr) (n c:Nat) (P X S:List (β×Nat)) (y:β×Nat) (w:World) (h:RS enc w B A n c (P ++ X ++ y :: S)) (hX:Sorted cmp X) (hb:∀ x ∈ X,bef x y) (hn:n < 549755813888) :
  F185s.l15 (fun v w'=>v=.tuple #[]/\Mrg enc cmp w w' B A n c P X [y] S) ((A,n,c),((P.length+X.length:Nat):Int),(),((P.length:Nat):Int),((P.length+X.length:Nat):Int),()) w:=by
 have hlen:=h.2
 simp only [List.length_append,List.length_cons] at hlen
 have gy:(P ++ X ++ y :: S)[P.length+X.length]?=some y:=get_mid (by simp)
 refine loop_rule (fun s u=>Fr (fun k=>blkOf A=some k) w u/\RS enc u B A n c (P ++ X ++ y :: S)/\∃ p q:Nat,p<=q/\q<=X.length/\(∀ x ∈ X.take p,lt cmp x y)/\(∀ x ∈ X.drop q,lt cmp y x)/\s=((A,n,c),((P.length+X.length:Nat):Int),(),((P.length+p:Nat):Int),((P.length+q:Nat):Int),()))
  (fun s _=>(s.2.2.2.2.1 - s.2.2.2.1).toNat) ?_ _ _ ⟨Fr.refl _ _,h,0,X.length,by omega,by omega,by simp,by simp,rfl⟩
 rintro s u C ⟨hf,hr,p,q,hpq,hqX,hlo,hhi,rfl⟩ hC _
 refine vIf_mk (fun hlt=>?_) (fun hge=>?_)
 ·have hlt2:((P.length+p:Nat):Int) < ((P.length+q:Nat):Int):=of_decide_eq_true hlt
  have emm:=em (P.length+p) (P.length+q) (by omega) (by omega)
  have hh:(P.length+p+(P.length+q)) / 2=P.length+(p+q) / 2:=by omega
  rw [hh] at emm
  have gi:X[(p+q) / 2]?=some (X[(p+q) / 2]'(by omega)):=List.getElem?_eq_getElem (by omega)
  generalize X[(p+q) / 2]'(by omega)=x at gi
  have gx:(P ++ X ++ y :: S)[P.length+(p+q) / 2]?=some x:=by
   rw [List.append_assoc,List.getElem?_append_right (by omega),List.getElem?_append_left (by omega),Nat.add_sub_cancel_left]; exact gi
  have hxm:x ∈ X:=List.mem_of_getElem? gi
  dsimp only
  rw [emm]
  refine rs_rd h0 hr.drew gy rfl (rs_rd h0 hr.drew gx rfl ((h0.call y.1 x.1 u.drew).mono ?_))
  rintro r u2 ⟨rfl,f2⟩
  have hf2:Fr (fun k=>blkOf A=some k) w u2:=(hf.trans1 (Fr.drew _ _)).trans1 (f2.mono (fun _ _ h=>h.elim))
  refine ⟨_,rfl,vIf_mk (fun h1=>jnC_mk (hC _ _ ⟨hf2,hr.drew.fr0 f2,(p+q) / 2+1,q,by omega,hqX,fun z hz=>?_,hhi,by rw [ep _ (by omega)]; rfl⟩ ?_)) (fun h1=>jnC_mk (hC _ _ ⟨hf2,hr.drew.fr0 f2,p,(p+q) / 2,by omega,by omega,hlo,fun z hz=>?_,rfl⟩ ?_))⟩
  ·have h1:¬ cmp y.1 x.1 < 0:=by simpa using h1
   have h1:=bef_no h0.ord (hb x hxm) h1
   obtain ⟨j,hj,hz⟩:=mem_take_at hz
   by_cases hjm:j=(p+q) / 2
   ·subst hjm; rw [gi] at hz; injection hz with hz; subst hz; exact h1
   ·exact lt_trans h0.ord (sorted_get h0.ord hX hz gi (by omega)) h1
  ·show (((P.length+q:Nat):Int) - IntKind.wrap .i64 (((P.length+(p+q) / 2:Nat):Int)+1)).toNat < (((P.length+q:Nat):Int) - ((P.length+p:Nat):Int)).toNat
   rw [ep _ (by omega)]; omega
  ·have h1:cmp y.1 x.1 < 0:=by simpa using h1
   have h1:=bef_yes h0.ord (hb x hxm) h1
   obtain ⟨j,hj,hz⟩:=mem_drop_at hz
   by_cases hjm:j=(p+q) / 2
   ·subst hjm; rw [gi] at hz; injection hz with hz; subst hz; exact h1
   ·exact lt_trans h0.ord h1 (sorted_get h0.ord hX gi hz (by omega))
  ·show (((P.length+(p+q) / 2:Nat):Int) - ((P.length+p:Nat):Int)).toNat < (((P.length+q:Nat):Int) - ((P.length+p:Nat):Int)).toNat
   omega
 ·have hge2:¬ ((P.length+p:Nat):Int) < ((P.length+q:Nat):Int):=of_decide_eq_false hge
  have hpq2:q=p:=by omega
  subst hpq2
  clear hC
  have hXs:=List.take_append_drop q X
  have hs2:=hX
  rw [<- hXs] at hs2
  obtain ⟨hs21,hs22,hs23⟩:=sorted_of_app hs2
  have htl:(X.take q).length=q:=by rw [List.length_take]; omega
  have hdl:(X.drop q).length=X.length - q:=List.length_drop
  refine jnC_mk (loop_rule (fun s v=>Fr (fun k=>blkOf A=some k) w v/\∃ U V:List (β×Nat),U ++ V=X.drop q/\s=((A,n,c),((P.length+q:Nat):Int),((P.length+q+U.length:Nat):Int),())/\RS enc v B A n c (P ++ X.take q ++ U ++ y :: V ++ S))
   (fun s _=>s.2.2.1.toNat) ?_ _ _ ⟨hf,X.drop q,[],by simp,by rw [hdl]; simp; omega,by
    have:P ++ X.take q ++ X.drop q ++ [y] ++ S=P ++ X ++ y :: S:=by
     conv=>rhs; rw [<- hXs]
     simp
    rw [this]; exact hr⟩)
  rintro s v C ⟨hfv,U,V,hUV,rfl,hrv⟩ hC _
  have hUVl:U.length+V.length=X.length - q:=by rw [<- hdl,<- hUV,List.length_append]
  refine vIf_mk (fun hlt=>?_) (fun hge=>?_)
  ·have hlt2:((P.length+q+U.length:Nat):Int) > ((P.length+q:Nat):Int):=of_decide_eq_true hlt
   obtain ⟨U',z,rfl⟩:∃ U' z,U=U' ++ [z]:=by
    have hne:U ≠ []:=by intro h; subst h; simp at hlt2
    exact ⟨U.dropLast,U.getLast hne,(List.dropLast_concat_getLast hne).symm⟩
   simp only [List.length_append,List.length_cons,List.length_nil] at hUVl hlt2
   have l1:P ++ X.take q ++ (U' ++ [z]) ++ y :: V ++ S=(P ++ X.take q ++ U') ++ z :: (y :: V ++ S):=by simp
   have l2:P ++ X.take q ++ (U' ++ [z]) ++ y :: V ++ S=(P ++ X.take q ++ (U' ++ [z])) ++ y :: (V ++ S):=by simp
   have ek:IntKind.wrap .i64 (((P.length+q+(U' ++ [z]).length:Nat):Int) - 1)=((P.length+q+U'.length:Nat):Int):=by rw [e1 _ (by simp; omega) (by simp; omega)]; simp only [List.length_append,List.length_cons,List.length_nil]; omega
   refine rs_rd h0 hrv.drew (i:=P.length+q+U'.length) (x:=z) (by rw [l1]; exact get_mid (by simp; omega)) ek (rs_rd h0 hrv.drew (i:=P.length+q+(U' ++ [z]).length) (x:=y) (by rw [l2]; exact get_mid (by simp; omega)) rfl ?_)
   refine rs_swap h0 hrv.drew (i:=P.length+q+(U' ++ [z]).length) (j:=P.length+q+U'.length) (x:=y) (y:=z) (by simp; omega) (by omega) rfl ek (fun w' hr' f'=>jnC_mk (hC _ _ ⟨(hfv.trans1 (Fr.drew _ _)).trans1 f',U',z :: V,by rw [<- hUV]; simp,?_,?_⟩ ?_))
   ·show (_,_,IntKind.wrap .i64 (((P.length+q+(U' ++ [z]).length:Nat):Int) - 1),())=_
    rw [ek]
   ·rw [l2,set_mid (by simp; omega)] at hr'
    have l3:(P ++ X.take q ++ (U' ++ [z])) ++ z :: (V ++ S)=(P ++ X.take q ++ U') ++ z :: (z :: (V ++ S)):=by simp
    rw [l3,set_mid (by simp; omega)] at hr'
    have l4:(P ++ X.take q ++ U') ++ y :: (z :: (V ++ S))=P ++ X.take q ++ U' ++ y :: (z :: V) ++ S:=by simp
    rw [l4] at hr'; exact hr'
   ·show (IntKind.wrap .i64 (((P.length+q+(U' ++ [z]).length:Nat):Int) - 1)).toNat < (((P.length+q+(U' ++ [z]).length:Nat):Int)).toNat
    rw [ek]; simp only [List.length_append,List.length_cons,List.length_nil]; omega
  ·have hge2:¬ ((P.length+q+U.length:Nat):Int) > ((P.length+q:Nat):Int):=of_decide_eq_false hge
   have hU:U=[]:=List.length_eq_zero_iff.1 (by omega)
   subst hU
   rw [List.nil_append] at hUV
   subst hUV
   refine ⟨rfl,hfv,X.take q ++ ([y] ++ X.drop q),?_,sorted_app hs21 (sorted_app (List.pairwise_singleton _ _) hs22 (fun u hu v hv=>by simp at hu; subst hu; exact hhi v hv)) (fun u hu v hv=>?_),by simpa using hrv⟩
   ·conv=>rhs; rw [<- hXs,List.append_assoc]
    exact (List.perm_append_comm).append_left _
   ·rcases List.mem_append.1 hv with hv | hv
    ·simp at hv; subst hv; exact hlo u hu
    ·exact hs23 u hu v hv
end
section
variable {β:Type} {enc:β->List Value} {cmp:β->β->Int}
theorem take_len {l:List (β×Nat)} {k:Nat} (h:k<=l.length):(l.take k).length=k:=by rw [List.length_take]; omega
theorem get_in {P X R:List (β×Nat)} {i j:Nat} {x:β×Nat} (hi:i=P.length+j) (hx:X[j]?=some x):(P ++ X ++ R)[i]?=some x:=by
 have hj:=(List.getElem?_eq_some_iff.1 hx).1
 subst hi
 rw [List.append_assoc,List.getElem?_append_right (by omega),List.getElem?_append_left (by omega),Nat.add_sub_cancel_left]; exact hx
set_option maxHeartbeats 1000000 in
theorem symMerge_calls (h0:Srt β enc cmp) (B:Nat) (A:Option Addr) (n c:Nat) (hn:n < 549755813888):∀ (K:Nat) (P X Y S:List (β×Nat)) (w:World),X.length+Y.length<=K->RS enc w B A n c (P ++ X ++ Y ++ S)->Sorted cmp X->Sorted cmp Y->befC X Y->X ≠ []->Y ≠ []->∀ (a m b:Int),a=((P.length:Nat):Int)->m=((P.length+X.length:Nat):Int)->b=((P.length+X.length+Y.length:Nat):Int) ->
  Calls Tryz.prog 185 #[.slice A n c,.int .i64 a,.int .i64 m,.int .i64 b,cf] w fun e w'=>e=.returned (.tuple #[])/\Mrg enc cmp w w' B A n c P X Y S
 | 0,P,X,Y,S,w,hK,_,_,_,_,hX,_,_,_,_,_,_,_=>absurd (List.length_eq_zero_iff.1 (by omega)) hX
 | K+1,P,X,Y,S,w,hK,h,sX,sY,hb,hX,hY,a,m,b,ha,hm,hbb=>by
  subst ha; subst hm; subst hbb
  have ih:=symMerge_calls h0 B A n c hn K
  refine (F185s.of A n c _ _ _ w (Q:=fun v w'=>v=.tuple #[]/\Mrg enc cmp w w' B A n c P X Y S) ?_).mono (fun e w' ⟨v,he,hv,h⟩=>⟨by rw [he,hv],h⟩)
  have hlen:=h.2
  simp only [List.length_append] at hlen
  have hX0:X.length ≠ 0:=fun h=>hX (List.length_eq_zero_iff.1 h)
  have hY0:Y.length ≠ 0:=fun h=>hY (List.length_eq_zero_iff.1 h)
  have eX:IntKind.wrap .i64 (((P.length+X.length:Nat):Int) - ((P.length:Nat):Int))=((X.length:Nat):Int):=by rw [es _ _ (by omega) (by omega),Nat.add_sub_cancel_left]
  have eY:IntKind.wrap .i64 (((P.length+X.length+Y.length:Nat):Int) - ((P.length+X.length:Nat):Int))=((Y.length:Nat):Int):=by rw [es _ _ (by omega) (by omega),Nat.add_sub_cancel_left]
  have eM:=em P.length (P.length+X.length+Y.length) (by omega) (by omega)
  unfold F185s.vc
  rw [eX,eY,eM]
  generalize hmid:(P.length+(P.length+X.length+Y.length)) / 2=mid at eM ⊢
  have eN:IntKind.wrap .i64 ((mid:Int)+((P.length+X.length:Nat):Int))=((mid+(P.length+X.length):Nat):Int):=ea _ _ (by omega) (by omega)
  rw [eN]
  generalize hN:mid+(P.length+X.length)=N at eN ⊢
  refine vIf_mk (fun h1=>?_) (fun h1=>vIf_mk (fun h2=>?_) (fun h2=>?_))
  ·have h1:X.length=1:=by
    have:((X.length:Nat):Int)=1:=by simpa using h1
    omega
   obtain ⟨x,rfl⟩:=List.length_eq_one_iff.1 h1
   refine jnC_mk ?_
   have:=merge_one h0 B A n c P Y S x w (by simpa using h) sY (fun y hy=>hb x (by simp) y hy) hn
   simpa using this
  ·have h2:Y.length=1:=by
    have:((Y.length:Nat):Int)=1:=by simpa using h2
    omega
   obtain ⟨y,rfl⟩:=List.length_eq_one_iff.1 h2
   refine jnC_mk ?_
   exact merge_last h0 B A n c P X S y w (by simpa using h) sX (fun x hx=>hb x hx y (by simp)) hn
  ·have h1:X.length ≠ 1:=fun h=>by rw [h] at h1; simp at h1
   have h2:Y.length ≠ 1:=fun h=>by rw [h] at h2; simp at h2
   have fin:∀ s0 r0:Nat,P.length<=s0->s0<=r0->r0<=P.length+X.length->r0<=mid->N<=s0+(P.length+X.length+Y.length)->(s0=P.length\/N=s0+(P.length+X.length+Y.length))->(r0=P.length+X.length\/r0=mid) ->
     jnC (F185s.k32 (fun v w'=>v=.tuple #[]/\Mrg enc cmp w w' B A n c P X Y S)) ((A,n,c),((P.length:Nat):Int),((P.length+X.length:Nat):Int),((P.length+X.length+Y.length:Nat):Int),(),(mid:Int),(N:Int),(s0:Int),(r0:Int),()) w:=by
    intro s0 r0 q1 q2 q3 q4 q5 q6 q7
    refine jnC_mk (fun _=>jnC_mk ?_)
    have eP:IntKind.wrap .i64 ((N:Int) - 1)=((N - 1:Nat):Int):=e1 _ (by omega) (by omega)
    dsimp only
    rw [eP]
    refine loop_rule (fun s u=>Fr (fun _=>False) w u/\∃ st r:Nat,s0<=st/\st<=r/\r<=r0/\(∀ c,s0<=c->c < st->∀ u v,X[c - P.length]?=some u->Y[N - 1 - c - (P.length+X.length)]?=some v->lt cmp u v)/\(∀ c,r<=c->c < r0->∀ u v,X[c - P.length]?=some u->Y[N - 1 - c - (P.length+X.length)]?=some v->lt cmp v u) /\
      s=((A,n,c),((P.length:Nat):Int),((P.length+X.length:Nat):Int),((P.length+X.length+Y.length:Nat):Int),(),(mid:Int),(N:Int),(st:Int),(r:Int),((N - 1:Nat):Int),()))
     (fun s _=>(s.2.2.2.2.2.2.2.2.1 - s.2.2.2.2.2.2.2.1).toNat) ?_ _ _ ⟨Fr.refl _ _,s0,r0,by omega,q2,by omega,fun c h1 h2=>by omega,fun c h1 h2=>by omega,rfl⟩
    rintro s u C ⟨hf,st,r,p1,p2,p3,hlo,hhi,rfl⟩ hC _
    have hru:=h.fr0 hf
    refine vIf_mk (fun hlt=>?_) (fun hge=>?_)
    ·have hlt2:(st:Int) < (r:Int):=of_decide_eq_true hlt
     have emm:=em st r (by omega) (by omega)
     generalize hcc:(st+r) / 2=cc at emm
     have epc:IntKind.wrap .i64 (((N - 1:Nat):Int) - (cc:Int))=((N - 1 - cc:Nat):Int):=es _ _ (by omega) (by omega)
     have gu:X[cc - P.length]?=some (X[cc - P.length]'(by omega)):=List.getElem?_eq_getElem (by omega)
     have gv:Y[N - 1 - cc - (P.length+X.length)]?=some (Y[N - 1 - cc - (P.length+X.length)]'(by omega)):=List.getElem?_eq_getElem (by omega)
     generalize X[cc - P.length]'(by omega)=x at gu
     generalize Y[N - 1 - cc - (P.length+X.length)]'(by omega)=y at gv
     have hbxy:=hb x (List.mem_of_getElem? gu) y (List.mem_of_getElem? gv)
     dsimp only
     rw [emm,epc]
     refine rs_rd h0 hru.drew (i:=N - 1 - cc) (x:=y) (get_in (P:=P ++ X) (X:=Y) (R:=S) (j:=N - 1 - cc - (P.length+X.length)) (by simp; omega) gv) rfl (rs_rd h0 hru.drew (i:=cc) (x:=x) (by
      have:P ++ X ++ Y ++ S=P ++ X ++ (Y ++ S):=by simp
      rw [this]; exact get_in (j:=cc - P.length) (by omega) gu) rfl ((h0.call y.1 x.1 u.drew).mono ?_))
     rintro q u2 ⟨rfl,f2⟩
     have hf2:Fr (fun _=>False) w u2:=(hf.trans1 (Fr.drew _ _)).trans1 f2
     refine ⟨_,rfl,vIf_mk (fun hc=>jnC_mk (hC _ _ ⟨hf2,cc+1,r,by omega,by omega,p3,fun d d1 d2 u v hu hv=>?_,hhi,by rw [ep _ (by omega)]⟩ ?_)) (fun hc=>jnC_mk (hC _ _ ⟨hf2,st,cc,p1,by omega,by omega,hlo,fun d d1 d2 u v hu hv=>?_,rfl⟩ ?_))⟩
     ·have hc:¬ cmp y.1 x.1 < 0:=by simpa using hc
      exact le_lt_le h0.ord sX sY hu gu (by omega) hv gv (by omega) (bef_no h0.ord hbxy hc)
     ·show ((r:Int) - IntKind.wrap .i64 ((cc:Int)+1)).toNat < ((r:Int) - (st:Int)).toNat
      rw [ep _ (by omega)]; omega
     ·have hc:cmp y.1 x.1 < 0:=by simpa using hc
      exact le_lt_le h0.ord sY sX hv gv (by omega) hu gu (by omega) (bef_yes h0.ord hbxy hc)
     ·show ((cc:Int) - (st:Int)).toNat < ((r:Int) - (st:Int)).toNat
      omega
    ·have hge2:¬ (st:Int) < (r:Int):=of_decide_eq_false hge
     have hst:r=st:=by omega
     subst hst
     clear hC
     have eE:IntKind.wrap .i64 ((N:Int) - (r:Int))=((N - r:Nat):Int):=es _ _ (by omega) (by omega)
     dsimp only
     rw [eE]
     have hXs:=List.take_append_drop (r - P.length) X
     have hYs:=List.take_append_drop (N - r - (P.length+X.length)) Y
     have lX1:(X.take (r - P.length)).length=r - P.length:=take_len (by omega)
     have lX2:(X.drop (r - P.length)).length=P.length+X.length - r:=by rw [List.length_drop]; omega
     have lY1:(Y.take (N - r - (P.length+X.length))).length=N - r - (P.length+X.length):=take_len (by omega)
     have lY2:(Y.drop (N - r - (P.length+X.length))).length=P.length+X.length+Y.length - (N - r):=by rw [List.length_drop]; omega
     have D1:∀ x ∈ X.take (r - P.length),∀ y ∈ Y.drop (N - r - (P.length+X.length)),lt cmp x y:=fun x hx y hy=>by
      obtain ⟨k,hk,hx⟩:=mem_take_at hx
      obtain ⟨l,hl,hy⟩:=mem_drop_at hy
      have hl2:=(List.getElem?_eq_some_iff.1 hy).1
      have hr0:s0 < r:=by
       rcases q6 with q6 | q6 <;> omega
      have gu:X[r - 1 - P.length]?=some (X[r - 1 - P.length]'(by omega)):=List.getElem?_eq_getElem (by omega)
      have gv:Y[N - 1 - (r - 1) - (P.length+X.length)]?=some (Y[N - 1 - (r - 1) - (P.length+X.length)]'(by omega)):=List.getElem?_eq_getElem (by omega)
      exact le_lt_le h0.ord sX sY hx gu (by omega) hy gv (by omega) (hlo (r - 1) (by omega) (by omega) _ _ gu gv)
     have D2:∀ y ∈ Y.take (N - r - (P.length+X.length)),∀ x ∈ X.drop (r - P.length),lt cmp y x:=fun y hy x hx=>by
      obtain ⟨k,hk,hx⟩:=mem_drop_at hx
      obtain ⟨l,hl,hy⟩:=mem_take_at hy
      have hk2:=(List.getElem?_eq_some_iff.1 hx).1
      have hr0:r < r0:=by
       rcases q7 with q7 | q7 <;> omega
      have gu:X[r - P.length]?=some (X[r - P.length]'(by omega)):=List.getElem?_eq_getElem (by omega)
      have gv:Y[N - 1 - r - (P.length+X.length)]?=some (Y[N - 1 - r - (P.length+X.length)]'(by omega)):=List.getElem?_eq_getElem (by omega)
      exact le_lt_le h0.ord sY sX hy gv (by omega) hx gu (by omega) (hhi r (by omega) (by omega) _ _ gu gv)
     have sX2:=sX
     have sY2:=sY
     rw [<- hXs] at sX2
     rw [<- hYs] at sY2
     obtain ⟨sA1,sA2,sA⟩:=sorted_of_app sX2
     obtain ⟨sB1,sB2,sB⟩:=sorted_of_app sY2
     have hb11:befC (X.take (r - P.length)) (Y.take (N - r - (P.length+X.length))):=fun x hx y hy=>hb x (List.mem_of_mem_take hx) y (List.mem_of_mem_take hy)
     have hb22:befC (X.drop (r - P.length)) (Y.drop (N - r - (P.length+X.length))):=fun x hx y hy=>hb x (List.mem_of_mem_drop hx) y (List.mem_of_mem_drop hy)
     have hru2:RS enc u B A n c (P ++ X.take (r - P.length) ++ X.drop (r - P.length) ++ Y.take (N - r - (P.length+X.length)) ++ (Y.drop (N - r - (P.length+X.length)) ++ S)):=by
      have:P ++ X.take (r - P.length) ++ X.drop (r - P.length) ++ Y.take (N - r - (P.length+X.length)) ++ (Y.drop (N - r - (P.length+X.length)) ++ S)=P ++ X ++ Y ++ S:=by
       simp only [List.append_assoc]
       rw [<- List.append_assoc (X.take (r - P.length)),hXs,<- List.append_assoc (Y.take (N - r - (P.length+X.length))),hYs]
      rw [this]; exact hru
     have hperm:(X.take (r - P.length) ++ Y.take (N - r - (P.length+X.length)) ++ (X.drop (r - P.length) ++ Y.drop (N - r - (P.length+X.length)))).Perm (X ++ Y):=by
      conv=>rhs; rw [<- hXs,<- hYs]
      simp only [List.append_assoc]
      exact (List.perm_append_comm_assoc _ _ _).append_left _
     generalize X.take (r - P.length)=A1 at lX1 D1 sA1 sA hb11 hru2 hperm hXs
     generalize X.drop (r - P.length)=A2 at lX2 D2 sA2 sA hb22 hru2 hperm hXs
     generalize Y.take (N - r - (P.length+X.length))=B1 at lY1 D2 sB1 sB hb11 hru2 hperm hYs
     generalize Y.drop (N - r - (P.length+X.length))=B2 at lY2 D1 sB2 sB hb22 hru2 hperm hYs
     have last:∀ (v:World) (M1 M2:List (β×Nat)),Fr (fun k=>blkOf A=some k) w v->M1.Perm (A1 ++ B1)->Sorted cmp M1->M2.Perm (A2 ++ B2)->Sorted cmp M2->RS enc v B A n c (P ++ M1 ++ M2 ++ S)->Value.tuple #[]=Value.tuple #[]/\Mrg enc cmp w v B A n c P X Y S:=by
      intro v M1 M2 fv m1 s1 m2 s2 hv
      refine ⟨rfl,fv,M1 ++ M2,(m1.append m2).trans hperm,sorted_app s1 s2 (fun x hx y hy=>?_),by simpa using hv⟩
      rcases List.mem_append.1 (m1.mem_iff.1 hx) with hx | hx <;> rcases List.mem_append.1 (m2.mem_iff.1 hy) with hy | hy
      ·exact sA x hx y hy
      ·exact D1 x hx y hy
      ·exact D2 x hx y hy
      ·exact sB x hx y hy
     have right:∀ (v:World) (M1:List (β×Nat)),Fr (fun k=>blkOf A=some k) w v->M1.Perm (A1 ++ B1)->Sorted cmp M1->RS enc v B A n c (P ++ M1 ++ (A2 ++ B2) ++ S) ->
       jnC (F185s.k43 (fun v w'=>v=.tuple #[]/\Mrg enc cmp w w' B A n c P X Y S)) ((A,n,c),((P.length+X.length+Y.length:Nat):Int),(),(mid:Int),((N - r:Nat):Int),()) v:=by
      intro v M1 fv m1 s1 hv
      have lM1:M1.length=mid - P.length:=by rw [m1.length_eq,List.length_append]; omega
      have k44:∀ bb:Bool,bb=decide (mid < N - r/\N - r < P.length+X.length+Y.length)->jnC (F185s.k44 (fun v w'=>v=.tuple #[]/\Mrg enc cmp w w' B A n c P X Y S)) ((A,n,c),((P.length+X.length+Y.length:Nat):Int),(),(mid:Int),((N - r:Nat):Int),bb,()) v:=by
       intro bb hbb
       refine jnC_mk (fun _=>vIf_mk (fun h1=>?_) (fun h1=>?_))
       ·have h1:bb=true:=h1
        rw [h1] at hbb
        have hh:=of_decide_eq_true hbb.symm
        refine (ih (P ++ M1) A2 B2 S v (by omega) (by simpa using hv) sA2 sB2 hb22 (fun h=>by rw [h] at lX2; simp at lX2; omega) (fun h=>by rw [h] at lY2; simp at lY2; omega) (mid:Int) ((N - r:Nat):Int) ((P.length+X.length+Y.length:Nat):Int) (by rw [List.length_append]; omega) (by rw [List.length_append]; omega) (by rw [List.length_append]; omega)).mono ?_
        rintro q v2 ⟨rfl,f2,M2,m2,s2,hv2⟩
        exact ⟨rfl,last v2 M1 M2 (fv.trans1 f2) m1 s1 m2 s2 (by simpa using hv2)⟩
       ·have h1:bb=false:=h1
        rw [h1] at hbb
        have hh:=of_decide_eq_false hbb.symm
        refine last v M1 (A2 ++ B2) fv m1 s1 (List.Perm.refl _) ?_ (by simpa using hv)
        rcases Nat.lt_or_ge mid (N - r) with hh2 | hh2
        ·have:B2=[]:=List.length_eq_zero_iff.1 (by omega)
         rw [this,List.append_nil]; exact sA2
        ·have:A2=[]:=List.length_eq_zero_iff.1 (by omega)
         rw [this,List.nil_append]; exact sB2
      refine jnC_mk (fun _=>vIf_mk (fun h1=>k44 _ ?_) (fun h1=>k44 _ ?_))
      ·have h1:(mid:Int) < ((N - r:Nat):Int):=of_decide_eq_true h1
       apply decide_eq_decide.2
       show ((N - r:Nat):Int) < ((P.length+X.length+Y.length:Nat):Int) ↔ _
       omega
      ·have h1:¬ (mid:Int) < ((N - r:Nat):Int):=of_decide_eq_false h1
       rw [decide_eq_false (fun h=>h1 (by omega))]
     have left:∀ (v:World),Fr (fun k=>blkOf A=some k) w v->RS enc v B A n c (P ++ (A1 ++ B1) ++ (A2 ++ B2) ++ S) ->
       jnC (F185s.k41 (fun v w'=>v=.tuple #[]/\Mrg enc cmp w w' B A n c P X Y S)) ((A,n,c),((P.length:Nat):Int),((P.length+X.length+Y.length:Nat):Int),(),(mid:Int),(r:Int),((N - r:Nat):Int),()) v:=by
      intro v fv hv
      have k42:∀ bb:Bool,bb=decide (P.length < r/\r < mid)->jnC (F185s.k42 (fun v w'=>v=.tuple #[]/\Mrg enc cmp w w' B A n c P X Y S)) ((A,n,c),((P.length:Nat):Int),((P.length+X.length+Y.length:Nat):Int),(),(mid:Int),(r:Int),((N - r:Nat):Int),bb,()) v:=by
       intro bb hbb
       refine jnC_mk (fun _=>vIf_mk (fun h1=>?_) (fun h1=>?_))
       ·have h1:bb=true:=h1
        rw [h1] at hbb
        have hh:=of_decide_eq_true hbb.symm
        refine (ih P A1 B1 (A2 ++ B2 ++ S) v (by omega) (by simpa using hv) sA1 sB1 hb11 (fun h=>by rw [h] at lX1; simp at lX1; omega) (fun h=>by rw [h] at lY1; simp at lY1; omega) ((P.length:Nat):Int) (r:Int) (mid:Int) rfl (by omega) (by omega)).mono ?_
        rintro q v2 ⟨rfl,f2,M1,m1,s1,hv2⟩
        exact ⟨rfl,right v2 M1 (fv.trans1 f2) m1 s1 (by simpa using hv2)⟩
       ·have h1:bb=false:=h1
        rw [h1] at hbb
        have hh:=of_decide_eq_false hbb.symm
        refine right v (A1 ++ B1) fv (List.Perm.refl _) ?_ hv
        rcases Nat.lt_or_ge P.length r with hh2 | hh2
        ·have:B1=[]:=List.length_eq_zero_iff.1 (by omega)
         rw [this,List.append_nil]; exact sA1
        ·have:A1=[]:=List.length_eq_zero_iff.1 (by omega)
         rw [this,List.nil_append]; exact sB1
      refine jnC_mk (fun _=>vIf_mk (fun h1=>k42 _ ?_) (fun h1=>k42 _ ?_))
      ·have h1:((P.length:Nat):Int) < (r:Int):=of_decide_eq_true h1
       apply decide_eq_decide.2
       show (r:Int) < (mid:Int) ↔ _
       omega
      ·have h1:¬ ((P.length:Nat):Int) < (r:Int):=of_decide_eq_false h1
       rw [decide_eq_false (fun h=>h1 (by omega))]
     have k40:∀ bb:Bool,bb=decide (r < P.length+X.length/\P.length+X.length < N - r)->jnC (F185s.k40 (fun v w'=>v=.tuple #[]/\Mrg enc cmp w w' B A n c P X Y S)) ((A,n,c),((P.length:Nat):Int),((P.length+X.length:Nat):Int),((P.length+X.length+Y.length:Nat):Int),(),(mid:Int),(r:Int),((N - r:Nat):Int),bb,()) u:=by
      intro bb hbb
      have fu:Fr (fun k=>blkOf A=some k) w u:=hf.mono (fun _ _ h=>h.elim)
      refine jnC_mk (fun _=>vIf_mk (fun h1=>?_) (fun h1=>?_))
      ·have h1:bb=true:=h1
       rw [h1] at hbb
       have hh:=of_decide_eq_true hbb.symm
       refine (rotate_calls (a:=(r:Int)) (m:=((P.length+X.length:Nat):Int)) (b:=((N - r:Nat):Int)) h0 B A n c (P ++ A1) A2 B1 (B2 ++ S) u hru2 (fun h=>by rw [h] at lX2; simp at lX2; omega) (fun h=>by rw [h] at lY1; simp at lY1; omega) hn (by rw [List.length_append]; omega) (by rw [List.length_append]; omega) (by rw [List.length_append]; omega)).mono ?_
       rintro q v ⟨rfl,f2,hv⟩
       exact ⟨rfl,left v (fu.trans1 f2) (by simpa using hv)⟩
      ·have h1:bb=false:=h1
       rw [h1] at hbb
       have hh:=of_decide_eq_false hbb.symm
       refine left u fu ?_
       rcases Nat.lt_or_ge r (P.length+X.length) with hh2 | hh2
       ·have:B1=[]:=List.length_eq_zero_iff.1 (by omega)
        rw [this] at hru2 ⊢
        simpa using hru2
       ·have:A2=[]:=List.length_eq_zero_iff.1 (by omega)
        rw [this] at hru2 ⊢
        simpa using hru2
     refine vIf_mk (fun h1=>k40 _ ?_) (fun h1=>k40 _ ?_)
     ·have h1:(r:Int) < ((P.length+X.length:Nat):Int):=of_decide_eq_true h1
      apply decide_eq_decide.2
      omega
     ·have h1:¬ (r:Int) < ((P.length+X.length:Nat):Int):=of_decide_eq_false h1
      rw [decide_eq_false (fun h=>h1 (by omega))]
   refine vIf_mk (fun h3=>?_) (fun h3=>?_)
   ·have h3:((P.length+X.length:Nat):Int) > (mid:Int):=of_decide_eq_true h3
    have eS:IntKind.wrap .i64 ((N:Int) - ((P.length+X.length+Y.length:Nat):Int))=((N - (P.length+X.length+Y.length):Nat):Int):=es _ _ (by omega) (by omega)
    rw [eS]
    exact fin _ _ (by omega) (by omega) (by omega) (by omega) (by omega) (.inr (by omega)) (.inr rfl)
   ·have h3:¬ ((P.length+X.length:Nat):Int) > (mid:Int):=of_decide_eq_false h3
    exact fin _ _ (by omega) (by omega) (by omega) (by omega) (by omega) (.inl rfl) (.inl rfl)
end
section
variable {β:Type} {enc:β->List Value} {cmp:β->β->Int}
def Srted (enc:β->List Value) (cmp:β->β->Int) (w w':World) (B:Nat) (A:Option Addr) (n c:Nat) (P X S:List (β×Nat)):Prop :=
 Fr (fun k=>blkOf A=some k) w w'/\∃ M,M.Perm X/\Sorted cmp M/\RS enc w' B A n c (P ++ M ++ S)
set_option maxHeartbeats 1000000 in
theorem insSort_calls (h0:Srt β enc cmp) (B:Nat) (A:Option Addr) (n c:Nat) (P X S:List (β×Nat)) (w:World) (h:RS enc w B A n c (P ++ X ++ S)) (hb:X.Pairwise bef) (hn:n < 549755813888) {a b:Int} (ha:a=((P.length:Nat):Int)) (hbb:b=((P.length+X.length:Nat):Int)) :
  Calls Tryz.prog 184 #[.slice A n c,.int .i64 a,.int .i64 b,cf] w fun e w'=>e=.returned (.tuple #[])/\Srted enc cmp w w' B A n c P X S:=by
 subst ha; subst hbb
 refine (F184s.of A n c _ _ w (Q:=fun v w'=>v=.tuple #[]/\Srted enc cmp w w' B A n c P X S) ?_).mono (fun e w' ⟨v,he,hv,h⟩=>⟨by rw [he,hv],h⟩)
 have hlen:=h.2
 simp only [List.length_append] at hlen
 by_cases hX0:X=[]
 ·subst hX0
  refine jnC_mk (loop_rule (fun s u=>u=w/\s=((A,n,c),((P.length:Nat):Int),((P.length+([]:List (β×Nat)).length:Nat):Int),(),((P.length+1:Nat):Int),())) (fun _ _=>0) ?_ _ _ ⟨rfl,by rw [ep _ (by omega)]⟩)
  rintro s u C ⟨rfl,rfl⟩ hC _
  refine vIf_f (decide_eq_false ?_) ⟨rfl,Fr.refl _ _,[],List.Perm.refl _,List.Pairwise.nil,h⟩
  show ¬ ((P.length+1:Nat):Int) < ((P.length+([]:List (β×Nat)).length:Nat):Int)
  simp only [List.length_nil]
  omega
 obtain ⟨x0,X0,rfl⟩:∃ x r,X=x :: r:=by
  cases X with
  | nil=>exact absurd rfl hX0
  | cons x r=>exact ⟨x,r,rfl⟩
 refine jnC_mk (loop_rule (fun s u=>Fr (fun k=>blkOf A=some k) w u/\∃ X1 M X2:List (β×Nat),X1 ++ X2=x0 :: X0/\M.Perm X1/\Sorted cmp M/\M ≠ []/\s=((A,n,c),((P.length:Nat):Int),((P.length+(x0 :: X0).length:Nat):Int),(),((P.length+M.length:Nat):Int),())/\RS enc u B A n c (P ++ M ++ X2 ++ S))
  (fun s _=>(P.length+(x0 :: X0).length - s.2.2.2.2.1).toNat) ?_ _ _ ⟨Fr.refl _ _,[x0],[x0],X0,rfl,List.Perm.refl _,List.pairwise_singleton _ _,by simp,by rw [ep _ (by omega)]; rfl,by simpa using h⟩)
 rintro s u C1 ⟨hf,X1,M,X2,hX,hM,sM,hM0,rfl,hr⟩ hC1 _
 have hXl:X1.length+X2.length=(x0 :: X0).length:=by rw [<- hX,List.length_append]
 have hMl:=hM.length_eq
 refine vIf_mk (fun hlt=>?_) (fun hge=>?_)
 ·have hlt2:((P.length+M.length:Nat):Int) < ((P.length+(x0 :: X0).length:Nat):Int):=of_decide_eq_true hlt
  obtain ⟨x,X2',rfl⟩:∃ x r,X2=x :: r:=by
   cases X2 with
   | nil=>simp at hXl hlt2; omega
   | cons x r=>exact ⟨x,r,rfl⟩
  simp only [List.length_cons] at hXl hlt2 hlen
  have hbx:∀ y ∈ M,bef y x:=fun y hy=>by
   rw [<- hX] at hb
   exact (List.pairwise_append.1 hb).2.2 y (hM.mem_iff.1 hy) x (List.mem_cons_self ..)
  have hM1:M.length ≠ 0:=fun h=>hM0 (List.length_eq_zero_iff.1 h)
  refine jnC_mk (loop_rule (fun s v=>Fr (fun k=>blkOf A=some k) w v/\∃ U V:List (β×Nat),U ++ V=M/\(∀ y ∈ V,lt cmp x y)/\s=((A,n,c),((P.length:Nat):Int),((P.length+(x0 :: X0).length:Nat):Int),(),((P.length+M.length:Nat):Int),((P.length+U.length:Nat):Int),())/\RS enc v B A n c (P ++ U ++ x :: V ++ X2' ++ S))
   (fun s _=>s.2.2.2.2.2.1.toNat) ?_ _ _ ⟨hf,M,[],by simp,by simp,rfl,by simpa using hr⟩)
  rintro s v C ⟨hfv,U,V,hUV,hVx,rfl,hrv⟩ hC _
  have hUVl:U.length+V.length=M.length:=by rw [<- hUV,List.length_append]
  have sUV:=sM
  rw [<- hUV] at sUV
  obtain ⟨sU,sV,sUV2⟩:=sorted_of_app sUV
  have next:∀ u2:World,Fr (fun k=>blkOf A=some k) w u2->RS enc u2 B A n c (P ++ U ++ x :: V ++ X2' ++ S)->(∀ y ∈ U,lt cmp y x)->C1 ((A,n,c),((P.length:Nat):Int),((P.length+(x0 :: X0).length:Nat):Int),(),IntKind.wrap .i64 (((P.length+M.length:Nat):Int)+1),()) u2:=by
   intro u2 f2 h2 hUx
   refine hC1 _ _ ⟨f2,X1 ++ [x],U ++ x :: V,X2',by rw [<- hX]; simp,?_,?_,by simp,?_,by simpa using h2⟩ ?_
   ·refine List.perm_middle.trans ?_
    rw [hUV]
    exact (hM.cons x).trans (List.perm_append_singleton _ _).symm
   ·refine sorted_app sU (List.pairwise_cons.2 ⟨hVx,sV⟩) (fun y hy z hz=>?_)
    rcases List.mem_cons.1 hz with rfl | hz
    ·exact hUx y hy
    ·exact sUV2 y hy z hz
   ·have:(U ++ x :: V).length=M.length+1:=by simp; omega
    rw [ep _ (by omega),this]; rfl
   ·show (((P.length:Nat):Int)+(((x0 :: X0).length:Nat):Int) - IntKind.wrap .i64 (((P.length+M.length:Nat):Int)+1)).toNat < (((P.length:Nat):Int)+(((x0 :: X0).length:Nat):Int) - ((P.length+M.length:Nat):Int)).toNat
    rw [ep _ (by omega),List.length_cons]; omega
  have hvd:=hrv.drew
  have fvd:Fr (fun k=>blkOf A=some k) w v.drew:=hfv.trans1 (Fr.drew _ _)
  refine vIf_mk (fun hj=>?_) (fun hj=>?_)
  ·have hj2:((P.length+U.length:Nat):Int) > ((P.length:Nat):Int):=of_decide_eq_true hj
   obtain ⟨U',z,rfl⟩:∃ U' z,U=U' ++ [z]:=by
    have hne:U ≠ []:=by intro h; subst h; simp at hj2
    exact ⟨U.dropLast,U.getLast hne,(List.dropLast_concat_getLast hne).symm⟩
   simp only [List.length_append,List.length_cons,List.length_nil] at hUVl hj2
   have l1:P ++ (U' ++ [z]) ++ x :: V ++ X2' ++ S=(P ++ U') ++ z :: (x :: V ++ X2' ++ S):=by simp
   have l2:P ++ (U' ++ [z]) ++ x :: V ++ X2' ++ S=(P ++ (U' ++ [z])) ++ x :: (V ++ X2' ++ S):=by simp
   have ek:IntKind.wrap .i64 (((P.length+(U' ++ [z]).length:Nat):Int) - 1)=((P.length+U'.length:Nat):Int):=by rw [e1 _ (by simp; omega) (by simp; omega)]; simp only [List.length_append,List.length_cons,List.length_nil]; omega
   have gx:=fun (t:World) (ht:RS enc t B A n c (P ++ (U' ++ [z]) ++ x :: V ++ X2' ++ S)) {K:List Value->Prop} (hK:K (enc x.1))=>rs_rd h0 ht (i:=P.length+(U' ++ [z]).length) (x:=x) (by rw [l2]; exact get_mid (by simp)) rfl hK
   have gz:=fun (t:World) (ht:RS enc t B A n c (P ++ (U' ++ [z]) ++ x :: V ++ X2' ++ S)) {K:List Value->Prop} (hK:K (enc z.1))=>rs_rd h0 ht (i:=P.length+U'.length) (x:=z) (by rw [l1]; exact get_mid (by simp)) ek hK
   refine gx _ hvd (gz _ hvd ((h0.call x.1 z.1 v.drew).mono ?_))
   rintro r v2 ⟨rfl,f2⟩
   have fv2:=fvd.trans1 (f2.mono (T:=fun k=>blkOf A=some k) (fun _ _ h=>h.elim))
   have hv2:=hvd.fr0 f2
   have hzM:z ∈ M:=by rw [<- hUV]; simp
   have hbz:=hbx z hzM
   refine ⟨_,rfl,vIf_mk (fun hc=>jnC_mk (fun _=>?_)) (fun hc=>jnC_mk (next v2 fv2 hv2 (fun y hy=>?_)))⟩
   ·have hxz:=bef_yes h0.ord hbz (of_decide_eq_true hc)
    have hv3:=hv2.drew
    refine gz _ hv3 (gx _ hv3 ?_)
    refine rs_swap h0 hv3 (i:=P.length+(U' ++ [z]).length) (j:=P.length+U'.length) (x:=x) (y:=z) (by simp; omega) (by omega) rfl ek (fun w' hr' f'=>jnC_mk (hC _ _ ⟨(fv2.trans1 (Fr.drew _ _)).trans1 f',U',z :: V,by rw [<- hUV]; simp,fun y hy=>?_,?_,?_⟩ ?_))
    ·rcases List.mem_cons.1 hy with rfl | hy
     ·exact hxz
     ·exact hVx y hy
    ·show (_,_,_,_,_,IntKind.wrap .i64 (((P.length+(U' ++ [z]).length:Nat):Int) - 1),())=_
     rw [ek]
    ·rw [l2,set_mid (by simp)] at hr'
     have l3:(P ++ (U' ++ [z])) ++ z :: (V ++ X2' ++ S)=(P ++ U') ++ z :: (z :: (V ++ X2' ++ S)):=by simp
     rw [l3,set_mid (by simp)] at hr'
     have l4:(P ++ U') ++ x :: (z :: (V ++ X2' ++ S))=P ++ U' ++ x :: (z :: V) ++ X2' ++ S:=by simp
     rw [l4] at hr'; exact hr'
    ·show (IntKind.wrap .i64 (((P.length+(U' ++ [z]).length:Nat):Int) - 1)).toNat < (((P.length+(U' ++ [z]).length:Nat):Int)).toNat
     rw [ek]; simp only [List.length_append,List.length_cons,List.length_nil]; omega
   ·have hzx:=bef_no h0.ord hbz (of_decide_eq_false hc)
    rcases List.mem_append.1 hy with hy | hy
    ·refine lt_trans h0.ord ?_ hzx
     exact (sorted_of_app sU).2.2 y hy z (by simp)
    ·simp at hy; subst hy; exact hzx
  ·have hj2:¬ ((P.length+U.length:Nat):Int) > ((P.length:Nat):Int):=of_decide_eq_false hj
   have hU:U=[]:=List.length_eq_zero_iff.1 (by omega)
   exact jnC_mk (next v.drew fvd hvd (fun y hy=>by rw [hU] at hy; cases hy))
 ·have hge2:¬ ((P.length+M.length:Nat):Int) < ((P.length+(x0 :: X0).length:Nat):Int):=of_decide_eq_false hge
  have hX2:X2=[]:=List.length_eq_zero_iff.1 (by omega)
  subst hX2
  rw [List.append_nil] at hX hr
  subst hX
  exact ⟨rfl,hf,M,hM,sM,hr⟩
structure Blk (cmp:β->β->Int) (k:Nat) (Fs:List (List (β×Nat))) (t:List (β×Nat)):Prop where
 len:∀ f ∈ Fs,f.length=k
 srt:∀ f ∈ Fs,Sorted cmp f
 tl:t.length < k
 ts:Sorted cmp t
 bf:(Fs ++ [t]).Pairwise befC
set_option maxHeartbeats 2000000 in
theorem stable_calls (h0:Srt β enc cmp) (B:Nat) (A:Option Addr) (n c:Nat) (X:List (β×Nat)) (w:World) (h:RS enc w B A n c X) (hb:X.Pairwise bef) (hn:n < 68719476736) :
  Calls Tryz.prog 162 #[.slice A n c,.int .i64 (n:Nat),cf] w fun e w'=>e=.returned (.tuple #[])/\Srted enc cmp w w' B A n c [] X []:=by
 refine (F162s.of A n c _ w (Q:=fun v w'=>v=.tuple #[]/\Srted enc cmp w w' B A n c [] X []) ?_).mono (fun e w' ⟨v,he,hv,h⟩=>⟨by rw [he,hv],h⟩)
 have hXl:=h.2
 have merges:∀ (u:World) (Fs:List (List (β×Nat))) (t:List (β×Nat)),Fr (fun k=>blkOf A=some k) w u->(Fs.flatten ++ t).Perm X->Blk cmp 20 Fs t->RS enc u B A n c (Fs.flatten ++ t) ->
   jnC (F162s.l7 (fun v w'=>v=.tuple #[]/\Srted enc cmp w w' B A n c [] X [])) ((A,n,c),(n:Int),(),20,()) u:=by
  intro u Fs t hf hp hB hr
  refine jnC_mk (loop_rule (fun s u=>Fr (fun k=>blkOf A=some k) w u/\∃ (k:Nat) (Fs:List (List (β×Nat))) (t:List (β×Nat)),20<=k/\k<=2 * n+20/\s=((A,n,c),(n:Int),(),(k:Int),())/\(Fs.flatten ++ t).Perm X/\Blk cmp k Fs t/\RS enc u B A n c (Fs.flatten ++ t))
   (fun s _=>(2 * (n:Int)+20 - s.2.2.2.1).toNat) ?_ _ _ ⟨hf,20,Fs,t,by omega,by omega,rfl,hp,hB,hr⟩)
  clear hr hB hp hf
  rintro s u C7 ⟨hf,k,Fs,t,hk1,hk2,rfl,hp,hB,hr⟩ hC7 _
  refine vIf_mk (fun hlt=>?_) (fun hge=>?_)
  ·have hlt2:(k:Int) < (n:Int):=of_decide_eq_true hlt
   have e2k:IntKind.wrap .i64 (2 * (k:Int))=((2 * k:Nat):Int):=by rw [i64_id (by omega) (by omega)]; omega
   have ek2:IntKind.wrap .i64 ((k:Int) * 2)=((2 * k:Nat):Int):=by rw [i64_id (by omega) (by omega)]; omega
   dsimp only
   rw [e2k]
   have done:∀ (v:World) (Ds:List (List (β×Nat))) (t':List (β×Nat)),Fr (fun k=>blkOf A=some k) w v->(Ds.flatten ++ t').Perm X->Blk cmp (2 * k) Ds t'->RS enc v B A n c (Ds.flatten ++ t')->C7 ((A,n,c),(n:Int),(),IntKind.wrap .i64 ((k:Int) * 2),()) v:=by
    intro v Ds t' fv hp' hB' hr'
    refine hC7 _ _ ⟨fv,2 * k,Ds,t',by omega,by omega,by rw [ek2],hp',hB',hr'⟩ ?_
    show (2 * (n:Int)+20 - IntKind.wrap .i64 ((k:Int) * 2)).toNat < (2 * (n:Int)+20 - (k:Int)).toNat
    rw [ek2]; omega
   refine jnC_mk (loop_rule (fun s v=>Fr (fun k=>blkOf A=some k) w v/\∃ (Ds Fs:List (List (β×Nat))),(Ds.flatten ++ (Fs.flatten ++ t)).Perm X/\(∀ d ∈ Ds,d.length=2 * k/\Sorted cmp d)/\(∀ f ∈ Fs,f.length=k/\Sorted cmp f)/\(Ds ++ (Fs ++ [t])).Pairwise befC/\s=((A,n,c),(n:Int),(),(k:Int),((Ds.flatten.length:Nat):Int),((Ds.flatten.length+2 * k:Nat):Int),())/\RS enc v B A n c (Ds.flatten ++ (Fs.flatten ++ t)))
    (fun s _=>((n:Int) - s.2.2.2.2.1).toNat) ?_ _ _ ⟨hf,[],Fs,by simpa using hp,by simp,fun f hf=>⟨hB.len f hf,hB.srt f hf⟩,hB.bf,by simp,by simpa using hr⟩)
   have ht:=hB.tl
   have hts:=hB.ts
   clear hr hB hp hf
   rintro s v C9 ⟨hf,Ds,Fs,hp,hD,hF,hbf,rfl,hr⟩ hC9 _
   have hl:=hr.2
   simp only [List.length_append] at hl
   have hFl:=flat_len (fun f hf=>(hF f hf).1)
   have eAk:IntKind.wrap .i64 (((Ds.flatten.length:Nat):Int)+(k:Int))=((Ds.flatten.length+k:Nat):Int):=ea _ _ (by omega) (by omega)
   refine vIf_mk (fun hlt=>?_) (fun hge=>?_)
   ·have hlt2:((Ds.flatten.length+2 * k:Nat):Int)<=(n:Int):=of_decide_eq_true hlt
    obtain ⟨f1,f2,Fs',rfl⟩:∃ f1 f2 r,Fs=f1 :: f2 :: r:=by
     match Fs,hFl with
     | [],hFl=>simp only [List.flatten_nil,List.length_nil] at hFl hl; omega
     | [f],hFl=>simp only [List.length_cons,List.length_nil] at hFl; omega
     | f1 :: f2 :: r,_=>exact ⟨f1,f2,r,rfl⟩
    have q1:=hF f1 (List.mem_cons_self ..)
    have q2:=hF f2 (List.mem_cons_of_mem _ (List.mem_cons_self ..))
    have hfl:Ds.flatten ++ ((f1 :: f2 :: Fs').flatten ++ t)=Ds.flatten ++ f1 ++ f2 ++ (Fs'.flatten ++ t):=by simp
    rw [hfl] at hr hp
    dsimp only
    rw [eAk]
    refine (symMerge_calls h0 B A n c (by omega) _ Ds.flatten f1 f2 (Fs'.flatten ++ t) v (Nat.le_refl _) hr q1.2 q2.2 (befC_two (Ds:=Ds) (R:=Fs' ++ [t]) (by simpa using hbf)) (fun h=>by rw [h] at q1; have:=q1.1; simp only [List.length_nil] at this; omega) (fun h=>by rw [h] at q2; have:=q2.1; simp only [List.length_nil] at this; omega) ((Ds.flatten.length:Nat):Int) ((Ds.flatten.length+k:Nat):Int) ((Ds.flatten.length+2 * k:Nat):Int) rfl (by rw [q1.1]) (by rw [q1.1,q2.1]; omega)).mono ?_
    rintro r v2 ⟨rfl,f',M,mM,sM,hr'⟩
    have lM:M.length=2 * k:=by rw [mM.length_eq,List.length_append,q1.1,q2.1]; omega
    have hfl2:Ds.flatten ++ M ++ (Fs'.flatten ++ t)=(Ds ++ [M]).flatten ++ (Fs'.flatten ++ t):=by simp
    rw [hfl2] at hr'
    have lD2:(Ds ++ [M]).flatten.length=Ds.flatten.length+2 * k:=by rw [List.flatten_append,List.flatten_cons,List.flatten_nil,List.append_nil,List.length_append,lM]
    refine ⟨rfl,jnC_mk (hC9 _ _ ⟨hf.trans1 f',Ds ++ [M],Fs',?_,fun d hd=>?_,fun f hf=>hF f (List.mem_cons_of_mem _ (List.mem_cons_of_mem _ hf)),?_,?_,hr'⟩ ?_)⟩
    ·rw [<- hfl2]
     refine List.Perm.trans ?_ hp
     simp only [List.append_assoc]
     exact (((mM.append_right _).trans (by simp)).append_left _)
    ·rcases List.mem_append.1 hd with hd | hd
     ·exact hD d hd
     ·simp at hd; subst hd; exact ⟨lM,sM⟩
    ·have:=befC_merge (Ds:=Ds) (R:=Fs' ++ [t]) (by simpa using hbf) mM
     simpa using this
    ·show (_,_,_,_,((Ds.flatten.length+2 * k:Nat):Int),IntKind.wrap .i64 (((Ds.flatten.length+2 * k:Nat):Int)+IntKind.wrap .i64 (2 * (k:Int))),())=_
     rw [e2k,ea _ _ (by omega) (by omega),lD2]
    ·show ((n:Int) - ((Ds.flatten.length+2 * k:Nat):Int)).toNat < ((n:Int) - ((Ds.flatten.length:Nat):Int)).toNat
     omega
   ·have hge2:¬ ((Ds.flatten.length+2 * k:Nat):Int)<=(n:Int):=of_decide_eq_false hge
    clear hC9
    dsimp only
    rw [eAk]
    have hFs:Fs.length<=1:=by
     rcases Nat.lt_or_ge Fs.length 2 with h' | h'
     ·omega
     ·have:2 * k<=Fs.length * k:=Nat.mul_le_mul_right _ h'
      omega
    match Fs,hFs with
    | [],_ =>
     simp only [List.flatten_nil,List.nil_append,List.length_nil] at hr hp hl hbf
     refine vIf_f (decide_eq_false (by omega)) (jnC_mk (done v Ds t hf hp ⟨fun d hd=>(hD d hd).1,fun d hd=>(hD d hd).2,by omega,hts,hbf⟩ hr))
    | [f],_ =>
     have q1:=hF f (List.mem_cons_self ..)
     simp only [List.flatten_cons,List.flatten_nil,List.append_nil] at hr hp hl
     have hbf2:(Ds ++ f :: t :: []).Pairwise befC:=by simpa using hbf
     refine vIf_mk (fun hm=>?_) (fun hm=>?_)
     ·have hm2:((Ds.flatten.length+k:Nat):Int) < (n:Int):=of_decide_eq_true hm
      have hr2:RS enc v B A n c (Ds.flatten ++ f ++ t ++ []):=by simpa using hr
      refine (symMerge_calls h0 B A n c (by omega) _ Ds.flatten f t [] v (Nat.le_refl _) hr2 q1.2 hts (befC_two hbf2) (fun h=>by rw [h] at q1; have:=q1.1; simp only [List.length_nil] at this; omega) (fun h=>by rw [h] at hl; simp only [List.length_nil] at hl; omega) ((Ds.flatten.length:Nat):Int) ((Ds.flatten.length+k:Nat):Int) (n:Int) rfl (by rw [q1.1]) (by omega)).mono ?_
      rintro r v2 ⟨rfl,f',M,mM,sM,hr'⟩
      have lM:M.length=k+t.length:=by rw [mM.length_eq,List.length_append,q1.1]
      refine ⟨rfl,jnC_mk (done v2 Ds M (hf.trans1 f') ((mM.append_left _).trans hp) ⟨fun d hd=>(hD d hd).1,fun d hd=>(hD d hd).2,by omega,sM,?_⟩ (by simpa using hr'))⟩
      exact befC_merge hbf2 mM
     ·have hm2:¬ ((Ds.flatten.length+k:Nat):Int) < (n:Int):=of_decide_eq_false hm
      have ht0:t=[]:=List.length_eq_zero_iff.1 (by omega)
      rw [ht0,List.append_nil] at hr hp
      refine jnC_mk (done v Ds f hf hp ⟨fun d hd=>(hD d hd).1,fun d hd=>(hD d hd).2,by omega,q1.2,?_⟩ hr)
      exact befC_merge hbf2 (by rw [ht0,List.append_nil])
  ·have hge2:¬ (k:Int) < (n:Int):=of_decide_eq_false hge
   have hl:=hr.2
   simp only [List.length_append] at hl
   have hFl:=flat_len hB.len
   have hFs:Fs.length<=1:=by
    rcases Nat.lt_or_ge Fs.length 2 with h' | h'
    ·omega
    ·have:2 * k<=Fs.length * k:=Nat.mul_le_mul_right _ h'
     omega
   match Fs,hFs with
   | [],_ =>
    simp only [List.flatten_nil,List.nil_append] at hr hp
    exact ⟨rfl,hf,t,hp,hB.ts,by simpa using hr⟩
   | [f],_ =>
    have q1:=hB.len f (List.mem_cons_self ..)
    have q2:=hB.srt f (List.mem_cons_self ..)
    simp only [List.flatten_cons,List.flatten_nil,List.append_nil] at hr hp hl
    have ht0:t=[]:=List.length_eq_zero_iff.1 (by omega)
    rw [ht0,List.append_nil] at hr hp
    exact ⟨rfl,hf,f,hp,q2,by simpa using hr⟩
 refine jnC_mk (loop_rule (fun s u=>Fr (fun k=>blkOf A=some k) w u/\∃ (X1 X2:List (β×Nat)) (Fs:List (List (β×Nat))),X1 ++ X2=X/\Fs.flatten.Perm X1/\(∀ f ∈ Fs,f.length=20/\Sorted cmp f)/\Fs.Pairwise befC/\s=((A,n,c),(n:Int),(),20,((Fs.flatten.length:Nat):Int),((Fs.flatten.length+20:Nat):Int),())/\RS enc u B A n c (Fs.flatten ++ X2))
  (fun s _=>((n:Int) - s.2.2.2.2.1).toNat) ?_ _ _ ⟨Fr.refl _ _,[],X,[],rfl,List.Perm.refl _,by simp,List.Pairwise.nil,rfl,by simpa using h⟩)
 rintro s u C ⟨hf,X1,X2,Fs,hX,hp,hF,hbf,rfl,hr⟩ hC _
 have hl:=hr.2
 simp only [List.length_append] at hl
 rw [<- hX] at hb
 obtain ⟨b1,b2,b3⟩:=List.pairwise_append.1 hb
 refine vIf_mk (fun hlt=>?_) (fun hge=>?_)
 ·have hlt2:((Fs.flatten.length+20:Nat):Int)<=(n:Int):=of_decide_eq_true hlt
  have hX2:=List.take_append_drop 20 X2
  have lY:(X2.take 20).length=20:=take_len (by omega)
  have b4:=b2
  rw [<- hX2] at b4
  obtain ⟨b5,b6,b7⟩:=List.pairwise_append.1 b4
  have hr2:RS enc u B A n c (Fs.flatten ++ X2.take 20 ++ X2.drop 20):=by
   rw [List.append_assoc,hX2]; exact hr
  refine (insSort_calls h0 B A n c Fs.flatten (X2.take 20) (X2.drop 20) u hr2 b5 (by omega) rfl (by rw [lY])).mono ?_
  rintro r u2 ⟨rfl,f2,M,mM,sM,hr3⟩
  have lM:M.length=20:=by rw [mM.length_eq,lY]
  have lF:(Fs ++ [M]).flatten.length=Fs.flatten.length+20:=by rw [List.flatten_append,List.flatten_cons,List.flatten_nil,List.append_nil,List.length_append,lM]
  refine ⟨rfl,jnC_mk (hC _ _ ⟨hf.trans1 f2,X1 ++ X2.take 20,X2.drop 20,Fs ++ [M],by rw [List.append_assoc,hX2,hX],?_,fun f hf=>?_,?_,?_,by simpa using hr3⟩ ?_)⟩
  ·rw [List.flatten_append,List.flatten_cons,List.flatten_nil,List.append_nil]
   exact hp.append mM
  ·rcases List.mem_append.1 hf with hf | hf
   ·exact hF f hf
   ·simp at hf; subst hf; exact ⟨lM,sM⟩
  ·refine List.pairwise_append.2 ⟨hbf,List.pairwise_singleton _ _,fun f hf m hm x hx y hy=>?_⟩
   simp at hm; subst hm
   exact b3 x (hp.mem_iff.1 (List.mem_flatten.2 ⟨f,hf,hx⟩)) y (List.mem_of_mem_take (mM.mem_iff.1 hy))
  ·show (_,_,_,_,((Fs.flatten.length+20:Nat):Int),IntKind.wrap .i64 (((Fs.flatten.length+20:Nat):Int)+20),())=_
   rw [lF,i64_id (by omega) (by omega)]; congr 6
  ·show ((n:Int) - ((Fs.flatten.length+20:Nat):Int)).toNat < ((n:Int) - ((Fs.flatten.length:Nat):Int)).toNat
   omega
 ·have hge2:¬ ((Fs.flatten.length+20:Nat):Int)<=(n:Int):=of_decide_eq_false hge
  refine (insSort_calls h0 B A n c Fs.flatten X2 [] u (by simpa using hr) b2 (by omega) rfl (by show (n:Int)=_; omega)).mono ?_
  rintro r u2 ⟨rfl,f2,M,mM,sM,hr3⟩
  refine ⟨rfl,merges u2 Fs M (hf.trans1 f2) ?_ ⟨fun f hf=>(hF f hf).1,fun f hf=>(hF f hf).2,by rw [mM.length_eq]; omega,sM,?_⟩ (by simpa using hr3)⟩
  ·rw [<- hX]; exact hp.append mM
  ·refine List.pairwise_append.2 ⟨hbf,List.pairwise_singleton _ _,fun f hf m hm x hx y hy=>?_⟩
   simp at hm; subst hm
   exact b3 x (hp.mem_iff.1 (List.mem_flatten.2 ⟨f,hf,hx⟩)) y (mM.mem_iff.1 hy)
theorem sortStable_calls (h0:Srt β enc cmp) (B:Nat) (A:Option Addr) (n c:Nat) (X:List β) (w:World) (h:Row w B 62 2 A n c (flt enc X)) (hl:X.length=n) (hn:n < 68719476736) :
  Calls Tryz.prog 121 #[.slice A n c,cf] w fun e w'=>e=.returned (.tuple #[])/\Fr (fun k=>blkOf A=some k) w w'/\Row w' B 62 2 A n c (flt enc (stab cmp X)):=by
 refine (F121s.of A n c w (Q:=fun v w'=>v=.tuple #[]/\Fr (fun k=>blkOf A=some k) w w'/\Row w' B 62 2 A n c (flt enc (stab cmp X))) ?_).mono (fun e w' ⟨v,he,hv,h⟩=>⟨by rw [he,hv],h⟩)
 have hflt:∀ l:List (β×Nat),flt (encT enc) l=flt enc (l.map (·.1)):=fun l=>by
  unfold flt
  rw [List.map_map]
  rfl
 have hR:RS enc w B A n c (tagL X):=⟨by rw [hflt,tagL_fst]; exact h,by simp [tagL,hl]⟩
 have hb:(tagL X).Pairwise bef:=by
  unfold tagL bef
  rw [List.pairwise_iff_getElem]
  intro i j hi hj hij
  simp
  omega
 refine (stable_calls h0 B A n c (tagL X) w hR hb hn).mono ?_
 rintro r w2 ⟨rfl,f,M,mM,sM,hr⟩
 refine ⟨rfl,rfl,f,?_⟩
 have h1:=hr.1
 rw [List.nil_append,List.append_nil,hflt,stab_of h0.ord sM mM] at h1
 exact h1
end
end Go.Proofs.YthcdionpeoobbaaGreatDoor.StbNm
namespace Go.Proofs.YthcdionpeoobbaaGreatDoor
open Go.GV Go.RowKit Go.Lib Go.Stb
abbrev Nm:=ByteArray×Int
def encN (x:Nm):List Value:=[.string x.1,.int .i64 x.2]
theorem encN_o:EncO Nm encN 2:=⟨fun _=>rfl,fun x v hv=>by simp [encN] at hv; rcases hv with rfl | rfl <;> rfl⟩
def cmpM (a b:Nm):Int:=cmpN a.1 b.1
theorem cmpM_ord:OrdC cmpM:=⟨fun a b=>cmpN_anti _ _,fun a b c h1 h2=>by
 have:=cmp_trans a.1.data.toList b.1.data.toList c.1.data.toList h1 h2
 exact this⟩
def findN (s:ByteArray):List Nm->Option Int
 | []=>none
 | x :: r=>if x.1=s then some x.2 else findN s r
theorem findN_app (s:ByteArray):∀ a b:List Nm,findN s (a ++ b)=(findN s a).or (findN s b)
 | [],b=>by simp [findN]
 | x :: r,b=>by
  rw [List.cons_append,findN,findN,findN_app s r b]
  split <;> simp
theorem findN_none {s:ByteArray}:∀ {l:List Nm},(∀ x ∈ l,x.1 ≠ s)->findN s l=none
 | [],_=>rfl
 | x :: r,h=>by rw [findN,if_neg (h x (List.mem_cons_self ..)),findN_none (fun y hy=>h y (List.mem_cons_of_mem _ hy))]
theorem findN_mem {s:ByteArray} {i:Int}:∀ {l:List Nm},findN s l=some i->(s,i) ∈ l
 | [],h=>by simp [findN] at h
 | x :: r,h=>by
  rw [findN] at h
  split at h
  ·rename_i hx
   injection h with h
   rw [<- hx,<- h]; exact List.mem_cons_self ..
  ·exact List.mem_cons_of_mem _ (findN_mem h)
def AscN (l:List Nm):Prop:=l.Pairwise (fun a b=>cmpN a.1 b.1 < 0)
theorem cmp_ne {a b:ByteArray} (h:cmpN a b < 0):a ≠ b:=fun e=>by rw [e,cmpN_self] at h; omega
theorem cmp_gt {a b:ByteArray} (h:cmpN a b < 0):¬ cmpN b a < 0:=by have:=cmpN_anti a b; omega
theorem ascN_ext:∀ {a b:List Nm},AscN a->AscN b->(∀ s,findN s a=findN s b)->a=b
 | [],[],_,_,_=>rfl
 | [],y :: b,_,_,h=>by have:=h y.1; simp [findN] at this
 | x :: a,[],_,_,h=>by have:=h x.1; simp [findN] at this
 | x :: a,y :: b,ha,hb,h=>by
  have ca:=List.pairwise_cons.1 ha
  have cb:=List.pairwise_cons.1 hb
  have key:∀ {x y:Nm} {a b:List Nm},(∀ z ∈ b,cmpN y.1 z.1 < 0)->(findN x.1 (x :: a)=findN x.1 (y :: b))->x.1=y.1\/cmpN y.1 x.1 < 0:=by
   intro x y a b hy hf
   rw [findN,if_pos rfl] at hf
   rcases List.mem_cons.1 (findN_mem hf.symm) with h1 | h1
   ·left; rw [<- h1]
   ·right; exact hy _ h1
  have h1:=key cb.1 (h x.1)
  have h2:=key ca.1 (h y.1).symm
  have hxy:x.1=y.1:=by
   rcases h1 with h1 | h1
   ·exact h1
   ·rcases h2 with h2 | h2
    ·exact h2.symm
    ·exact absurd h2 (cmp_gt h1)
  have h3:=h x.1
  rw [findN,findN,if_pos rfl,if_pos hxy.symm] at h3
  injection h3 with h3
  have hx:x=y:=Prod.ext hxy h3
  subst hx
  rw [ascN_ext ca.2 cb.2 (fun s=>by
   have h4:=h s
   rw [findN,findN] at h4
   by_cases hs:x.1=s
   ·rw [findN_none (fun z hz=>fun e=>cmp_ne (ca.1 z hz) (by rw [hs,e])),findN_none (fun z hz=>fun e=>cmp_ne (cb.1 z hz) (by rw [hs,e]))]
   ·rw [if_neg hs,if_neg hs] at h4; exact h4)]
def putN (x:Nm):List Nm->List Nm
 | []=>[x]
 | y :: r=>if cmpN x.1 y.1 < 0 then x :: y :: r else if x.1=y.1 then x :: r else y :: putN x r
theorem putN_find (s:ByteArray) (x:Nm):∀ l,findN s (putN x l)=if x.1=s then some x.2 else findN s l
 | []=>by simp [putN,findN]
 | y :: r=>by
  have ih:=putN_find s x r
  rw [putN]
  split
  ·rw [findN]
  ·split
   ·rename_i h1 h2
    rw [findN]
    by_cases h3:x.1=s
    ·rw [if_pos h3,if_pos h3]
    ·rw [if_neg h3,if_neg h3,findN,if_neg (by rw [<- h2]; exact h3)]
   ·rename_i h1 h2
    rw [findN,ih,findN]
    by_cases h3:x.1=s
    ·rw [if_pos h3,if_neg (by rw [<- h3]; exact fun e=>h2 e.symm),if_pos h3]
    ·rw [if_neg h3,if_neg h3]
theorem putN_mem {x z:Nm}:∀ {l},z ∈ putN x l->z=x\/z ∈ l
 | [],h=>by simp [putN] at h; exact .inl h
 | y :: r,h=>by
  rw [putN] at h
  split at h
  ·exact List.mem_cons.1 h
  ·split at h
   ·rcases List.mem_cons.1 h with h | h
    ·exact .inl h
    ·exact .inr (List.mem_cons_of_mem _ h)
   ·rcases List.mem_cons.1 h with h | h
    ·exact .inr (by rw [h]; exact List.mem_cons_self ..)
    ·rcases putN_mem h with h | h
     ·exact .inl h
     ·exact .inr (List.mem_cons_of_mem _ h)
theorem putN_asc (x:Nm):∀ {l},AscN l->AscN (putN x l)
 | [],_=>List.pairwise_singleton _ _
 | y :: r,h=>by
  have c:=List.pairwise_cons.1 h
  rw [putN]
  split
  ·rename_i h1
   refine List.pairwise_cons.2 ⟨fun z hz=>?_,h⟩
   rcases List.mem_cons.1 hz with rfl | hz
   ·exact h1
   ·exact cmpN_trans h1 (c.1 z hz)
  ·split
   ·rename_i h1 h2
    refine List.pairwise_cons.2 ⟨fun z hz=>?_,c.2⟩
    rw [h2]; exact c.1 z hz
   ·rename_i h1 h2
    refine List.pairwise_cons.2 ⟨fun z hz=>?_,putN_asc x c.2⟩
    rcases putN_mem hz with rfl | hz
    ·have:=cmpN_anti z.1 y.1
     have h3:cmpN z.1 y.1 ≠ 0:=fun e=>h2 ((cmpN_zero _ _).1 e)
     omega
    ·exact c.1 z hz
theorem putN_len (x:Nm):∀ l,(putN x l).length<=l.length+1
 | []=>by simp [putN]
 | y :: r=>by
  have:=putN_len x r
  rw [putN]
  split
  ·simp
  ·split <;> simp <;> omega
theorem putN_lt {x:Nm}:∀ {l:List Nm},(∀ z ∈ l,cmpN x.1 z.1 < 0)->putN x l=x :: l
 | [],_=>rfl
 | y :: r,h=>by rw [putN,if_pos (h y (List.mem_cons_self ..))]
theorem putN_app {x:Nm}:∀ {U:List Nm} (V:List Nm),(∀ z ∈ U,cmpN z.1 x.1 < 0)->putN x (U ++ V)=U ++ putN x V
 | [],V,_=>rfl
 | y :: r,V,h=>by
  have h1:=h y (List.mem_cons_self ..)
  rw [List.cons_append,putN,if_neg (cmp_gt h1),if_neg (fun e=>cmp_ne h1 e.symm),putN_app V (fun z hz=>h z (List.mem_cons_of_mem _ hz))]
  rfl
def putS (x:Nm) (s:List Nm×Bool) (y:Nm):List Nm×Bool :=
 if y.1=x.1 then (if s.2=false/\cmpN x.1 y.1 < 0 then (s.1 ++ [x],true) else s) else
 ((if s.2=false/\cmpN x.1 y.1 < 0 then (s.1 ++ [x],true) else s).1 ++ [y],(if s.2=false/\cmpN x.1 y.1 < 0 then (s.1 ++ [x],true) else s).2)
def putE (x:Nm) (s:List Nm×Bool):List Nm:=if s.2=true then s.1 else s.1 ++ [x]
theorem putS_done (x:Nm):∀ (l o:List Nm),(∀ z ∈ l,cmpN x.1 z.1 < 0)->l.foldl (putS x) (o,true)=(o ++ l,true)
 | [],o,_=>by simp
 | y :: r,o,h=>by
  have h1:=h y (List.mem_cons_self ..)
  rw [List.foldl_cons,putS,if_neg (fun e=>cmp_ne h1 e.symm),if_neg (by simp),putS_done x r _ (fun z hz=>h z (List.mem_cons_of_mem _ hz))]
  simp
theorem putS_fold (x:Nm):∀ (l o:List Nm),AscN l->putE x (l.foldl (putS x) (o,false))=o ++ putN x l
 | [],o,_=>rfl
 | y :: r,o,h=>by
  have c:=List.pairwise_cons.1 h
  rw [List.foldl_cons,putS,putN]
  by_cases h1:cmpN x.1 y.1 < 0
  ·rw [if_neg (fun e=>cmp_ne h1 e.symm),if_pos ⟨rfl,h1⟩,if_pos h1,putS_done x r _ (fun z hz=>cmpN_trans h1 (c.1 z hz))]
   simp [putE]
  ·by_cases h2:x.1=y.1
   ·rw [if_pos h2.symm,if_neg (fun h=>h1 h.2),if_neg h1,if_pos h2,putS_fold x r o c.2,putN_lt (fun z hz=>by rw [h2]; exact c.1 z hz)]
   ·rw [if_neg (fun e=>h2 e.symm),if_neg (fun h=>h1 h.2),if_neg h1,if_neg h2,putS_fold x r _ c.2]
    simp
def woN (s:ByteArray) (l:List Nm):List Nm:=l.filter (fun y=>decide (y.1 ≠ s))
theorem woN_step {s:ByteArray} {l:List Nm} {i:Nat} {x:Nm} (h:l[i]?=some x):woN s (l.take (i+1))=if x.1 ≠ s then woN s (l.take i) ++ [x] else woN s (l.take i):=by
 unfold woN
 rw [List.take_add_one,h,Option.toList_some,List.filter_append]
 split
 ·rename_i h1; rw [List.filter_cons_of_pos (by simpa using h1)]; rfl
 ·rename_i h1; rw [List.filter_cons_of_neg (by simpa using h1)]; simp
theorem woN_asc (s:ByteArray) {l:List Nm} (h:AscN l):AscN (woN s l):=h.sublist (List.filter_sublist ..)
theorem woN_len (s:ByteArray) (l:List Nm):(woN s l).length<=l.length:=List.length_filter_le _ _
theorem woN_id {s:ByteArray} {l:List Nm} (h:∀ x ∈ l,x.1 ≠ s):woN s l=l:=List.filter_eq_self.2 (fun x hx=>by simpa using h x hx)
def PlN (s:ByteArray) (i:Nat) (l:List Nm):Prop:=i<=l.length/\(∀ x ∈ l.take i,cmpN x.1 s < 0)/\∀ x ∈ l.drop i,¬ cmpN x.1 s < 0
def isN (s:ByteArray) (i:Nat) (l:List Nm):Bool:=match l[i]? with | some x=>decide (x.1=s) | none=>false
theorem isN_at {s:ByteArray} {i:Nat} {l:List Nm} (h:isN s i l=true):∃ x,l[i]?=some x/\x.1=s:=by
 unfold isN at h
 split at h
 ·rename_i x hx; exact ⟨x,hx,of_decide_eq_true h⟩
 ·cases h
theorem drop_at {α:Type} {l:List α} {i:Nat} {x:α} (h:l[i]?=some x):l.drop i=x :: l.drop (i+1):=by
 obtain ⟨h1,rfl⟩:=List.getElem?_eq_some_iff.1 h
 exact List.drop_eq_getElem_cons h1
theorem pl_gt {s:ByteArray} {i:Nat} {l:List Nm} (hp:PlN s i l) (ha:AscN l) (hi:isN s i l=false):∀ x ∈ l.drop i,cmpN s x.1 < 0:=by
 intro x hx
 have h1:=hp.2.2 x hx
 cases hd:l.drop i with
 | nil=>rw [hd] at hx; cases hx
 | cons y r =>
  have hy:l[i]?=some y:=by
   have:=congrArg (·[0]?) hd
   simpa using this
  have hne:y.1 ≠ s:=by
   unfold isN at hi
   rw [hy] at hi
   exact of_decide_eq_false hi
  have hyl:=hp.2.2 y (by rw [hd]; exact List.mem_cons_self ..)
  have h0:cmpN y.1 s ≠ 0:=fun e=>hne ((cmpN_zero _ _).1 e)
  have hsy:cmpN s y.1 < 0:=by have:=cmpN_anti y.1 s; omega
  rw [hd] at hx
  rcases List.mem_cons.1 hx with rfl | hx
  ·exact hsy
  ·have hsub:AscN (y :: r):=by rw [<- hd]; exact ha.sublist (List.drop_sublist _ _)
   exact cmpN_trans hsy ((List.pairwise_cons.1 hsub).1 x hx)
theorem put_in {s:ByteArray} {v:Int} {i:Nat} {l:List Nm} {x:Nm} (hp:PlN s i l) (hx:l[i]?=some x) (hs:x.1=s):putN (s,v) l=l.set i (s,v):=by
 have hi:=(List.getElem?_eq_some_iff.1 hx).1
 conv=>lhs; rw [<- List.take_append_drop i l]
 rw [putN_app _ hp.2.1,drop_at hx,putN,if_neg (by show ¬ cmpN s x.1 < 0; rw [hs,cmpN_self]; omega),if_pos hs.symm,List.set_eq_take_append_cons_drop,if_pos hi]
theorem put_out {s:ByteArray} {v:Int} {i:Nat} {l:List Nm} (hp:PlN s i l) (ha:AscN l) (hi:isN s i l=false):putN (s,v) l=l.take i ++ (s,v) :: l.drop i:=by
 conv=>lhs; rw [<- List.take_append_drop i l]
 rw [putN_app _ hp.2.1,putN_lt (pl_gt hp ha hi)]
theorem wo_in {s:ByteArray} {i:Nat} {l:List Nm} {x:Nm} (hp:PlN s i l) (ha:AscN l) (hx:l[i]?=some x) (hs:x.1=s):woN s l=l.take i ++ l.drop (i+1):=by
 have hd:=drop_at hx
 conv=>lhs; rw [<- List.take_append_drop i l,hd]
 unfold woN
 rw [List.filter_append,List.filter_cons_of_neg (by simpa using hs)]
 have hsub:AscN (x :: l.drop (i+1)):=by rw [<- hd]; exact ha.sublist (List.drop_sublist _ _)
 congr 1
 ·exact woN_id (fun z hz=>cmp_ne (hp.2.1 z hz))
 ·exact woN_id (fun z hz e=>cmp_ne ((List.pairwise_cons.1 hsub).1 z hz) (by rw [hs,e]))
theorem wo_out {s:ByteArray} {i:Nat} {l:List Nm} (hp:PlN s i l) (ha:AscN l) (hi:isN s i l=false):woN s l=l/\findN s l=none:=by
 have h:∀ z ∈ l,z.1 ≠ s:=by
  intro z hz
  rw [<- List.take_append_drop i l] at hz
  rcases List.mem_append.1 hz with hz | hz
  ·exact cmp_ne (hp.2.1 z hz)
  ·exact fun e=>cmp_ne (pl_gt hp ha hi z hz) e.symm
 exact ⟨woN_id h,findN_none h⟩
theorem find_in {s:ByteArray} {i:Nat} {l:List Nm} {x:Nm} (hp:PlN s i l) (hx:l[i]?=some x) (hs:x.1=s):findN s l=some x.2:=by
 rw [<- List.take_append_drop i l,drop_at hx,findN_app,findN_none (fun z hz=>cmp_ne (hp.2.1 z hz)),findN,if_pos hs]
 rfl
def lastN (l:List Nm):List Nm:=l.foldr putN []
theorem lastN_asc:∀ l,AscN (lastN l)
 | []=>List.Pairwise.nil
 | x :: r=>putN_asc x (lastN_asc r)
theorem lastN_find (s:ByteArray):∀ l,findN s (lastN l)=findN s l
 | []=>rfl
 | x :: r=>by
  show findN s (putN x (lastN r))=_
  rw [putN_find,lastN_find s r,findN]
theorem lastN_len:∀ l,(lastN l).length<=l.length
 | []=>Nat.le_refl _
 | x :: r=>by
  have:=lastN_len r
  have h2:=putN_len x (lastN r)
  show (putN x (lastN r)).length<=_
  rw [List.length_cons]; omega
def cptN (r:List Nm):Nat->List Nm
 | 0=>[]
 | n+1=>cptN r n ++ (if n ≠ 0/\(r[n]?).map (·.1)=(r[n - 1]?).map (·.1) then [] else r[n]?.toList)
theorem cptN_sub (r:List Nm):∀ n d,d ∈ cptN r n->d ∈ r.take n
 | 0,d,h=>by simp [cptN] at h
 | n+1,d,h=>by
  rw [cptN] at h
  rw [List.take_add_one]
  rcases List.mem_append.1 h with h | h
  ·exact List.mem_append_left _ (cptN_sub r n d h)
  ·split at h
   ·cases h
   ·exact List.mem_append_right _ h
theorem cptN_find (s:ByteArray) (r:List Nm):∀ n,findN s (cptN r n)=findN s (r.take n)
 | 0=>by simp [cptN]
 | n+1=>by
  rw [cptN,List.take_add_one,findN_app,findN_app,cptN_find s r n]
  split
  ·rename_i h
   obtain ⟨h0,h⟩:=h
   cases hn:r[n]? with
   | none=>rfl
   | some x =>
    rw [hn] at h
    cases hp:r[n - 1]? with
    | none=>rw [hp] at h; cases h
    | some y =>
     rw [hp] at h
     simp at h
     rw [Option.toList_some]
     by_cases hs:x.1=s
     ·cases hf:findN s (r.take n) with
      | some v=>rfl
      | none =>
       exfalso
       have:r.take n=r.take (n - 1) ++ [y]:=by
        conv=>lhs; rw [show n=(n - 1)+1 by omega,List.take_add_one,hp]
        rfl
       rw [this,findN_app,findN,if_pos (by rw [<- h]; exact hs)] at hf
       cases h5:findN s (r.take (n - 1)) <;> rw [h5] at hf <;> cases hf
     ·have:findN s [x]=none:=by rw [findN,if_neg hs]; rfl
      rw [this]; rfl
  ·rfl
theorem cptN_asc {r:List Nm} (h:r.Pairwise (fun a b=>cmpM a b<=0)):∀ n,n<=r.length->AscN (cptN r n)
 | 0,_=>List.Pairwise.nil
 | n+1,hn=>by
  have ih:=cptN_asc h n (by omega)
  rw [cptN]
  by_cases hc:n ≠ 0/\(r[n]?).map (·.1)=(r[n - 1]?).map (·.1)
  ·rw [if_pos hc,List.append_nil]; exact ih
  ·rw [if_neg hc,List.getElem?_eq_getElem (by omega)]
   refine List.pairwise_append.2 ⟨ih,by simp,fun a ha b hb=>?_⟩
   simp at hb
   subst hb
   have ha':=cptN_sub r n a ha
   obtain ⟨i,hi,hai⟩:=List.mem_iff_getElem.1 ha'
   rw [List.length_take] at hi
   rw [List.getElem_take] at hai
   have hn0:n ≠ 0:=by omega
   have hprev:(r[n - 1]'(by omega)).1 ≠ (r[n]'(by omega)).1:=by
    intro he
    apply hc
    refine ⟨hn0,?_⟩
    rw [List.getElem?_eq_getElem (by omega),List.getElem?_eq_getElem (by omega),Option.map_some,Option.map_some,he]
   have hp:=List.pairwise_iff_getElem.1 h
   have h2:=hp (n - 1) n (by omega) (by omega) (by omega)
   have h2':cmpN (r[n - 1]'(by omega)).1 (r[n]'(by omega)).1 < 0:=by
    have h3:cmpN (r[n - 1]'(by omega)).1 (r[n]'(by omega)).1<=0:=h2
    have h4:cmpN (r[n - 1]'(by omega)).1 (r[n]'(by omega)).1 ≠ 0:=fun e=>hprev ((cmpN_zero _ _).1 e)
    omega
   subst hai
   by_cases hin:i=n - 1
   ·subst hin; exact h2'
   ·have h3:cmpM (r[i]'(by omega)) (r[n - 1]'(by omega))<=0:=hp i (n - 1) (by omega) (by omega) (by omega)
    exact cmpM_ord.le_lt (b:=r[n - 1]'(by omega)) h3 h2'
theorem ins_find (s:ByteArray) (x:Nm):∀ {a:List Nm},a.Pairwise (fun a b=>cmpM a b<=0)->findN s (ins cmpM x a)=(findN s a).or (if x.1=s then some x.2 else none)
 | [],_=>by simp [ins,findN]
 | y :: r,h=>by
  have c:=List.pairwise_cons.1 h
  rw [ins]
  split
  ·rename_i h1
   rw [findN]
   by_cases hs:x.1=s
   ·rw [if_pos hs,if_pos hs,findN_none (l:=y :: r)]
    ·rfl
    ·intro z hz
     have hxz:cmpM x z < 0:=by
      rcases List.mem_cons.1 hz with rfl | hz
      ·exact h1
      ·exact cmpM_ord.lt_le h1 (c.1 z hz)
     rw [<- hs]
     exact fun e=>cmp_ne (a:=x.1) (b:=z.1) hxz e.symm
   ·rw [if_neg hs,if_neg hs]; simp
  ·rw [findN,ins_find s x c.2,findN]
   split <;> simp
theorem stab_weak (l:List Nm):(stab cmpM l).Pairwise (fun a b=>cmpM a b<=0):=by
 obtain ⟨m,h1,h2,h3⟩:=stab_spec cmpM_ord l
 rw [<- h3,List.pairwise_map]
 exact h1.imp (fun h=>by rcases h with h | h <;> omega)
theorem stab_find (s:ByteArray) (l:List Nm):findN s (stab cmpM l)=findN s l :=
 snoc_ind (P:=fun l=>findN s (stab cmpM l)=findN s l) rfl (fun l x ih=>by rw [stab_snoc,ins_find s x (stab_weak l),ih,findN_app]; rfl) l
theorem last_eq (l:List Nm):cptN (stab cmpM l) l.length=lastN l:=by
 refine ascN_ext (cptN_asc (stab_weak l) _ (by rw [stab_len]; exact Nat.le_refl _)) (lastN_asc l) (fun s=>?_)
 rw [cptN_find,List.take_of_length_le (by rw [stab_len]; exact Nat.le_refl _),stab_find,lastN_find]
structure Ch where
 k:Int
 nm:ByteArray
 to:ByteArray
 id:Int
def encC (c:Ch):List Value:=[.int .i64 c.k,.string c.nm,.string c.to,.int .i64 c.id]
theorem encC_o:EncO Ch encC 4:=⟨fun _=>rfl,fun x v hv=>by simp [encC] at hv; rcases hv with rfl | rfl | rfl | rfl <;> rfl⟩
def stepN (l:List Nm) (c:Ch):List Nm :=
 if c.k=1 then putN (c.nm,c.id) l
 else if c.k=2 then (match findN c.nm l with | some id=>putN (c.to,id) (woN c.nm l) | none=>l)
 else if c.k=3 then woN c.nm l else l
theorem stepN_asc (c:Ch) {l:List Nm} (h:AscN l):AscN (stepN l c):=by
 unfold stepN
 split
 ·exact putN_asc _ h
 ·split
  ·split
   ·exact putN_asc _ (woN_asc _ h)
   ·exact h
  ·split
   ·exact woN_asc _ h
   ·exact h
theorem stepN_len (c:Ch) (l:List Nm):(stepN l c).length<=l.length+1:=by
 unfold stepN
 split
 ·exact putN_len _ _
 ·split
  ·split
   ·have:=putN_len (c.to,‹Int›) (woN c.nm l)
    have:=woN_len c.nm l
    omega
   ·omega
  ·split
   ·have:=woN_len c.nm l; omega
   ·omega
def behN (L:List Nm) (P:List Ch):List Nm:=P.foldl stepN (lastN L)
theorem behN_snoc (L:List Nm) (P:List Ch) (c:Ch):behN L (P ++ [c])=stepN (behN L P) c:=by unfold behN; rw [List.foldl_append]; rfl
theorem behN_step {L:List Nm} {P:List Ch} {i:Nat} {c:Ch} (h:P[i]?=some c):behN L (P.take (i+1))=stepN (behN L (P.take i)) c:=by
 rw [List.take_add_one,h,Option.toList_some,behN_snoc]
theorem behN_asc (L:List Nm) (P:List Ch):AscN (behN L P):=snoc_ind (P:=fun P=>AscN (behN L P)) (lastN_asc L) (fun l x ih=>by rw [behN_snoc]; exact stepN_asc _ ih) P
theorem behN_len (L:List Nm) (P:List Ch):(behN L P).length<=L.length+P.length:=snoc_ind (P:=fun P=>(behN L P).length<=L.length+P.length) (lastN_len L) (fun l x ih=>by
 have:=stepN_len x (behN L l)
 rw [behN_snoc,List.length_append,List.length_singleton]; omega) P
def NRow (w:World) (B:Nat) (A:Option Addr) (n c:Nat) (l:List Nm):Prop:=Row w B 62 2 A n c (flt encN l)/\l.length=n
def NSl (w:World) (A:Option Addr) (n:Nat) (l:List Nm):Prop:=Sl w 2 A n (flt encN l)/\l.length=n
theorem NRow.sl {w:World} {B:Nat} {A:Option Addr} {n c:Nat} {l:List Nm} (h:NRow w B A n c l):NSl w A n l:=⟨h.1.sl,h.2⟩
theorem NRow.fr0 {w w':World} {B:Nat} {A:Option Addr} {n c:Nat} {l:List Nm} (h:NRow w B A n c l) (f:Fr (fun _=>False) w w'):NRow w' B A n c l:=⟨f.row h.1 (fun _ _ h=>h),h.2⟩
theorem NSl.fr0 {w w':World} {A:Option Addr} {n:Nat} {l:List Nm} (h:NSl w A n l) (f:Fr (fun _=>False) w w'):NSl w' A n l:=⟨f.sl h.1 (fun _ _ _ h=>h),h.2⟩
theorem n_rd {w:World} {A:Option Addr} {n:Nat} {l:List Nm} (h:NSl w A n l) {i:Nat} {x:Nm} (hi:l[i]?=some x) {ii:Int} (hii:ii=(i:Int)) {K:List Value->Prop} (hK:K (encN x)) :
  dr A fun b o=>gd (decide (0<=ii)) (gd (decide (ii < ((n:Nat):Int))) (ldA 2 w b (o+ii.toNat * 2) K)) :=
 el_rd h.1 (fun x _=>rfl) hi hii h.2 (fun b o hA hc=>⟨encN x,rfl,hc,hK⟩)
theorem n_rdS {w:World} {A:Option Addr} {n:Nat} {l:List Nm} (h:NSl w A n l) {i:Nat} {x:Nm} (hi:l[i]?=some x) {ii:Int} (hii:ii=(i:Int)) {K:ByteArray->Prop} (hK:K x.1) :
  dr A fun b o=>gd (decide (0<=ii)) (gd (decide (ii < ((n:Nat):Int))) (ldS w b (o+ii.toNat * 2) K)) :=
 el_rd h.1 (fun x _=>rfl) hi hii h.2 (fun b o hA hc=>⟨x.1,hc 0 _ rfl,hK⟩)
theorem n_rdI {w:World} {A:Option Addr} {n:Nat} {l:List Nm} (h:NSl w A n l) {i:Nat} {x:Nm} (hi:l[i]?=some x) {ii:Int} (hii:ii=(i:Int)) {K:Int->Prop} (hK:K x.2) :
  dr A fun b o=>gd (decide (0<=ii)) (gd (decide (ii < ((n:Nat):Int))) (ldI .i64 w b ((o+ii.toNat * 2)+1) K)) :=
 el_rd h.1 (fun x _=>rfl) hi hii h.2 (fun b o hA hc=>⟨x.2,hc 1 _ rfl,hK⟩)
theorem byName_calls (x:Nm) (s:ByteArray) (w:World) :
  Calls Tryz.prog 39 #[ofL (encN x),.string s] w fun e w'=>e=.returned (.int .i64 (cmpN x.1 s))/\Fr (fun _=>False) w w':=by
 refine (F39.of _ s w (Q:=fun v w'=>v=.int .i64 (cmpN x.1 s)/\Fr (fun _=>False) w w') ?_).mono (fun e w' ⟨v,he,hv,h⟩=>⟨by rw [he,hv],h⟩)
 refine nw_mk ?_
 have f1:Fr (fun _=>False) w (w.alloc (.cells (encN x).toArray 62)):=Fr.alloc _ _ _
 have r1:=RecAt.new w (encN x) 62
 generalize w.alloc (.cells (encN x).toArray 62)=w1 at f1 r1 ⊢
 refine ⟨x.1,r1.cell rfl,(strcmp_calls x.1 s w1).mono ?_⟩
 rintro r w2 ⟨rfl,rfl⟩
 exact ⟨_,rfl,rfl,f1⟩
theorem two_new (x y:Nm) (w:World) {K:Nat->Nat->World->Prop} (hK:∀ b1 b2 w',Fr (fun _=>False) w w'->RecAt w' b1 62 (encN x)->RecAt w' b2 62 (encN y)->K b1 b2 w'):nw w (encN x) 62 fun b1 w1=>nw w1 (encN y) 62 fun b2 w2=>K b1 b2 w2:=by
 refine nw_mk (nw_mk ?_)
 have f1:Fr (fun _=>False) w (w.alloc (.cells (encN x).toArray 62)):=Fr.alloc _ _ _
 have r1:=RecAt.new w (encN x) 62
 generalize w.alloc (.cells (encN x).toArray 62)=w1 at f1 r1 ⊢
 have f2:Fr (fun _=>False) w1 (w1.alloc (.cells (encN y).toArray 62)):=Fr.alloc _ _ _
 exact hK _ _ _ (f1.trans1 f2) (r1.fr f2 (fun h=>h)) (RecAt.new w1 (encN y) 62)
theorem lcmp_calls (x y:Nm) (w:World) :
  Calls Tryz.prog 122 #[ofL (encN x),ofL (encN y)] w fun e w'=>e=.returned (.int .i64 (cmpM x y))/\Fr (fun _=>False) w w':=by
 refine (F122.of _ _ w (Q:=fun v w'=>v=.int .i64 (cmpM x y)/\Fr (fun _=>False) w w') ?_).mono (fun e w' ⟨v,he,hv,h⟩=>⟨by rw [he,hv],h⟩)
 refine two_new x y w (fun b1 b2 w1 f r1 r2=>⟨x.1,r1.cell rfl,y.1,r2.cell rfl,(strcmp_calls x.1 y.1 w1).mono ?_⟩)
 rintro r w2 ⟨rfl,rfl⟩
 exact ⟨_,rfl,rfl,f⟩
theorem leq_calls (x y:Nm) (w:World) :
  Calls Tryz.prog 124 #[ofL (encN x),ofL (encN y)] w fun e w'=>e=.returned (.bool (decide (x.1=y.1)))/\Fr (fun _=>False) w w':=by
 refine (F124.of _ _ w (Q:=fun v w'=>v=.bool (decide (x.1=y.1))/\Fr (fun _=>False) w w') ?_).mono (fun e w' ⟨v,he,hv,h⟩=>⟨by rw [he,hv],h⟩)
 refine two_new x y w (fun b1 b2 w1 f r1 r2=>⟨x.1,r1.cell rfl,y.1,r2.cell rfl,?_,f⟩)
 rw [neq]
theorem lsrt:StbNm.Srt Nm encN cmpM:=⟨fun _=>rfl,encN_o.one,cmpM_ord,lcmp_calls⟩
theorem mem_take_lt {α:Type} {l:List α} {i:Nat} {x:α} (h:x ∈ l.take i):∃ j,j < i/\l[j]?=some x:=by
 obtain ⟨j,hj⟩:=List.mem_iff_getElem?.1 h
 rw [List.getElem?_take] at hj
 split at hj
 ·exact ⟨j,by assumption,hj⟩
 ·cases hj
theorem mem_drop_ge {α:Type} {l:List α} {i:Nat} {x:α} (h:x ∈ l.drop i):∃ j,i<=j/\l[j]?=some x:=by
 obtain ⟨j,hj⟩:=List.mem_iff_getElem?.1 h
 rw [List.getElem?_drop] at hj
 exact ⟨i+j,by omega,hj⟩
theorem asc_lt {l:List Nm} (h:AscN l) {i j:Nat} {x y:Nm} (hi:l[i]?=some x) (hj:l[j]?=some y) (hij:i < j):cmpN x.1 y.1 < 0:=by
 obtain ⟨h1,rfl⟩:=List.getElem?_eq_some_iff.1 hi
 obtain ⟨h2,rfl⟩:=List.getElem?_eq_some_iff.1 hj
 exact (List.pairwise_iff_getElem.1 h) i j h1 h2 hij
theorem bsN_calls (A:Option Addr) (n c:Nat) (l:List Nm) (nm:ByteArray) (w:World) (h:NSl w A n l) (ha:AscN l) (hn:n<=17179869184) :
  Calls Tryz.prog 38 #[.slice A n c,.string nm,.func (.func 39) #[] #[]] w fun e w'=>Fr (fun _=>False) w w'/\∃ i:Nat,e=.returned (.tuple #[.int .i64 i,.bool (isN nm i l)])/\PlN nm i l:=by
 refine (F38s.of A n c nm w (Q:=fun v w'=>Fr (fun _=>False) w w'/\∃ i:Nat,v=.tuple #[.int .i64 i,.bool (isN nm i l)]/\PlN nm i l) ?_).mono (fun e w' ⟨v,he,hf,i,hv,h⟩=>⟨hf,i,by rw [he,hv],h⟩)
 have hl:=h.2
 refine jnC_mk (loop_rule (fun s u=>Fr (fun _=>False) w u/\∃ i j:Nat,i<=j/\j<=n/\s=((A,n,c),nm,(),(n:Int),(i:Int),(j:Int),())/\(∀ x ∈ l.take i,cmpN x.1 nm < 0)/\∀ x ∈ l.drop j,¬ cmpN x.1 nm < 0)
  (fun s _=>(s.2.2.2.2.2.1 - s.2.2.2.2.1).toNat) ?_ _ _ ⟨Fr.refl _ _,0,n,by omega,by omega,rfl,by simp,by rw [List.drop_of_length_le (by omega)]; intro x hx; cases hx⟩)
 rintro s u C ⟨hf,i,j,hij,hjn,rfl,hlo,hhi⟩ hC _
 refine vIf_mk (fun hlt=>?_) (fun hge=>?_)
 ·have hlt2:(i:Int) < (j:Int):=of_decide_eq_true hlt
  have em:IntKind.wrap .i64 (Int.fdiv (IntKind.wrap .u64 (IntKind.wrap .i64 ((i:Int)+(j:Int)))) (2 ^ 1))=(((i+j) / 2:Nat):Int):=by
   rw [i64_id (n:=(i:Int)+(j:Int)) (by omega) (by omega),IntKind.wrap_u64,Int.fdiv_eq_ediv_of_nonneg _ (by decide),i64_id (by omega) (by omega)]; omega
  have gi:l[(i+j) / 2]?=some (l[(i+j) / 2]'(by omega)):=List.getElem?_eq_getElem (by omega)
  generalize l[(i+j) / 2]'(by omega)=x at gi
  dsimp only
  rw [em]
  refine n_rd (h.fr0 hf) gi rfl ((byName_calls x nm u).mono ?_)
  rintro r u2 ⟨rfl,f2⟩
  refine ⟨_,rfl,vIf_mk (fun h1=>jnC_mk (hC _ _ ⟨hf.trans1 f2,(i+j) / 2+1,j,by omega,hjn,by rw [ei _ (by omega)],fun y hy=>?_,hhi⟩ ?_)) (fun h1=>jnC_mk (hC _ _ ⟨hf.trans1 f2,i,(i+j) / 2,by omega,by omega,rfl,hlo,fun y hy=>?_⟩ ?_))⟩
  ·have h1:=of_decide_eq_true h1
   obtain ⟨q,hq,hy⟩:=mem_take_lt hy
   by_cases hqm:q=(i+j) / 2
   ·rw [hqm] at hy; rw [gi] at hy; injection hy with hy; subst hy; exact h1
   ·exact cmpN_trans (asc_lt ha hy gi (by omega)) h1
  ·show ((j:Int) - IntKind.wrap .i64 ((((i+j) / 2:Nat):Int)+1)).toNat < ((j:Int) - (i:Int)).toNat
   rw [ei _ (by omega)]; omega
  ·have h1:=of_decide_eq_false h1
   obtain ⟨q,hq,hy⟩:=mem_drop_ge hy
   by_cases hqm:q=(i+j) / 2
   ·rw [hqm] at hy; rw [gi] at hy; injection hy with hy; subst hy; exact h1
   ·intro h2
    exact h1 (cmpN_trans (asc_lt ha gi hy (by omega)) h2)
  ·show ((((i+j) / 2:Nat):Int) - (i:Int)).toNat < ((j:Int) - (i:Int)).toNat
   omega
 ·have hge2:¬ (i:Int) < (j:Int):=of_decide_eq_false hge
  have hij2:i=j:=by omega
  subst hij2
  have hpl:PlN nm i l:=⟨by omega,hlo,hhi⟩
  refine vIf_mk (fun h1=>?_) (fun h1=>?_)
  ·have h1:(i:Int) < (n:Int):=of_decide_eq_true h1
   have gi:l[i]?=some (l[i]'(by omega)):=List.getElem?_eq_getElem (by omega)
   generalize l[i]'(by omega)=x at gi
   refine n_rd (h.fr0 hf) gi rfl ((byName_calls x nm u).mono ?_)
   rintro r u2 ⟨rfl,f2⟩
   refine ⟨_,rfl,hf.trans1 f2,i,?_,hpl⟩
   have:isN nm i l=(cmpN x.1 nm == 0):=by
    unfold isN
    rw [gi,Bool.eq_iff_iff,decide_eq_true_iff,beq_iff_eq]
    exact (cmpN_zero _ _).symm
   rw [this]
  ·have h1:¬ (i:Int) < (n:Int):=of_decide_eq_false h1
   refine ⟨hf,i,?_,hpl⟩
   have:isN nm i l=false:=by
    unfold isN
    rw [List.getElem?_eq_none (by omega)]
   rw [this]
theorem row_clearN {w:World} {B:Nat} {b n c k:Nat} {P:List Nm} {K:World->Prop} (hr:NRow w B (some ⟨b,0,none⟩) n c P) (hk:k < n)
  (hK:∀ w',NRow w' B (some ⟨b,0,none⟩) k c (P.take k)->Fr (fun j=>j=b) w w'->K w'):dr (slA (some (⟨b,0,none⟩:Addr)) c k 2) fun b o=>st w b o (zeros (n - k) [.string (⟨#[]⟩:ByteArray),.int .i64 0]) K:=by
 have hle:=hr.1.le
 have hPl:=hr.2
 have hzl:(zeros (n - k) [Value.string (⟨#[]⟩:ByteArray),.int .i64 0]).length=(n - k) * 2:=by rw [zeros_length]; rfl
 have hpt:=row_putG (o':=k * 2) (us:=zeros (n - k) [Value.string (⟨#[]⟩:ByteArray),.int .i64 0]) (K:=K) hr.1 (by omega) (by rw [hzl]; omega) (zeros_one (by simp; exact ⟨rfl,rfl⟩)) (fun w6 hr6 f6=>hK w6 ⟨?_,by rw [List.length_take]; omega⟩ (f6.mono (fun j _ hj=>by simpa [blkOf] using hj.symm)))
 ·rw [slS (by omega),<- Nat.zero_add (k * 2)]
  exact hpt
 ·have h7:=row_cutG hr6 (k:=k) (by omega)
  have e:(splice (flt encN P) (k * 2) (zeros (n - k) [Value.string (⟨#[]⟩:ByteArray),.int .i64 0])).take (k * 2)=flt encN (P.take k):=by
   rw [<- encN_o.ft P (by omega)]
   unfold splice
   rw [List.append_assoc,List.take_append_of_le_length (by rw [List.length_take,encN_o.fl]; omega),List.take_take,Nat.min_self]
  rw [e] at h7
  exact h7
set_option maxHeartbeats 1000000 in
theorem compactN_calls (B:Nat) (A:Option Addr) (c:Nat) (r:List Nm) (n:Nat) (w:World) (h:NRow w B A n c r) (hn:n<=1099511627775) :
  Calls Tryz.prog 123 #[.slice A n c,.func (.func 124) #[] #[]] w fun e' w'=>e'=.returned (.slice A (cptN r n).length c)/\Fr (fun k=>blkOf A=some k) w w'/\NRow w' B A (cptN r n).length c (cptN r n):=by
 refine (F123s.of A n c w (Q:=fun v w'=>v=.slice A (cptN r n).length c/\Fr (fun k=>blkOf A=some k) w w'/\NRow w' B A (cptN r n).length c (cptN r n)) ?_).mono (fun e w' ⟨v,he,hv,h⟩=>⟨by rw [he,hv],h⟩)
 have hrl:=h.2
 have whole:∀ i,i<=n->cptN r i=r.take i->i=n->∀ u,Fr (fun k=>blkOf A=some k) w u->NRow u B A n c r->(Value.slice A n c=.slice A (cptN r n).length c/\Fr (fun k=>blkOf A=some k) w u/\NRow u B A (cptN r n).length c (cptN r n)):=by
  intro i hi hc he u hf hr
  subst he
  rw [hc,List.take_of_length_le (by omega),hrl]
  exact ⟨rfl,hf,hr⟩
 have one:1<=n->cptN r 1=r.take 1:=fun _=>by simp [cptN,List.take_one,List.head?_eq_getElem?]
 refine vIf_mk (fun h2=>?_) (fun h2=>jnC_mk ?_)
 ·have h2:(n:Int) < 2:=of_decide_eq_true h2
  refine whole n (Nat.le_refl _) ?_ rfl w (Fr.refl _ _) h
  match n,h2,one with
  | 0,_,_=>rfl
  | 1,_,one=>exact one (Nat.le_refl _)
  | n+2,h2,_=>omega
 have h2:¬ (n:Int) < 2:=of_decide_eq_false h2
 have hle:=h.1.le
 obtain ⟨b,hA⟩:∃ b,A=some ⟨b,0,none⟩:=by
  rcases h.1.at_ with ⟨_,h0,_⟩ | ⟨b,_,hA,_⟩
  ·omega
  ·exact ⟨b,hA⟩
 subst hA
 refine loop_rule (fun s u=>Fr (fun k=>blkOf (some (⟨b,0,none⟩:Addr))=some k) w u/\NRow u B (some ⟨b,0,none⟩) n c r/\∃ i:Nat,1<=i/\i<=n/\s=((some ⟨b,0,none⟩,n,c),(),(i:Int),())/\cptN r i=r.take i)
  (fun s _=>(n - s.2.2.1).toNat) ?_ _ _ ⟨Fr.refl _ _,h,1,by omega,by omega,rfl,one (by omega)⟩
 rintro s u C4 ⟨hf,hr,i,hi1,hi,rfl,hc⟩ hC4 _
 refine vIf_mk (fun hlt=>?_) (fun hge=>?_)
 ·have hlt2:(i:Int) < (n:Int):=of_decide_eq_true hlt
  have hrd:=hr.fr0 (Fr.drew (fun _=>False) u)
  have ei1:IntKind.wrap .i64 ((i:Int) - 1)=((i - 1:Nat):Int):=by rw [i64_id (by omega) (by omega)]; omega
  have gi:r[i]?=some (r[i]'(by omega)):=List.getElem?_eq_getElem (by omega)
  have gp:r[i - 1]?=some (r[i - 1]'(by omega)):=List.getElem?_eq_getElem (by omega)
  generalize r[i]'(by omega)=x at gi
  generalize r[i - 1]'(by omega)=y at gp
  dsimp only
  rw [ei1]
  refine n_rd hrd.sl gi rfl (n_rd hrd.sl gp rfl ((leq_calls x y u.drew).mono ?_))
  rintro e1 u1 ⟨rfl,f1⟩
  have hr1:=hrd.fr0 f1
  have hf1:Fr (fun k=>blkOf (some (⟨b,0,none⟩:Addr))=some k) w u1:=(hf.trans1 (Fr.drew _ _)).trans1 (f1.mono (fun _ _ h=>h.elim))
  refine ⟨_,rfl,vIf_mk (fun he=>?_) (fun hne=>?_)⟩
  ·have he:x.1=y.1:=of_decide_eq_true he
   have hsame:cptN r (i+1)=r.take i:=by
    rw [cptN,if_pos ⟨by omega,by rw [gi,gp,Option.map_some,Option.map_some,he]⟩,List.append_nil,hc]
   refine gd_mk (decide_eq_true (by omega)) (gd_mk (decide_eq_true (by omega)) (jnC_mk ?_))
   rw [Int.toNat_natCast]
   have hsl:slA (some (⟨b,0,none⟩:Addr)) c i 2=some ⟨b,i * 2,none⟩:=slS (by omega)
   rw [hsl]
   refine loop_rule (fun s u=>Fr (fun k=>blkOf (some (⟨b,0,none⟩:Addr))=some k) w u/\∃ (j:Nat) (P:List Nm),1<=j/\i+j<=n/\P.length=n/\NRow u B (some ⟨b,0,none⟩) n c P/\(cptN r (i+j)).length < i+j/\P.take (cptN r (i+j)).length=cptN r (i+j)/\P.drop (cptN r (i+j)).length=r.drop (cptN r (i+j)).length /\
     s=((some ⟨b,0,none⟩,n,c),(),(((cptN r (i+j)).length:Nat):Int),(some ⟨b,i * 2,none⟩,n - i,c - i),(j:Int),()))
    (fun s _=>(n - s.2.2.2.2.1).toNat) ?_ _ _ ⟨hf1,1,r,by omega,by omega,hrl,hr1,?_,?_,?_,?_⟩
   rotate_left
   ·rw [hsame,List.length_take]; omega
   ·rw [hsame,List.length_take,Nat.min_eq_left (by omega)]
   ·rfl
   ·rw [hsame,List.length_take,Nat.min_eq_left (by omega)]; rfl
   clear hC4 hf hr hrd hr1 hf1 f1 gi gp he hlt hlt2 ei1
   rintro s u C9 ⟨hf,j,P,hj1,hjn,hPl,hr,hk,htk,hdp,rfl⟩ hC9 _
   generalize hkk:(cptN r (i+j)).length=k at hk htk hdp
   have hrd:=hr.fr0 (Fr.drew (fun _=>False) u)
   have hget:∀ q,k<=q->P[q]?=r[q]?:=by
    intro q hq
    have h1:(P.drop k)[q - k]?=(r.drop k)[q - k]?:=by rw [hdp]
    rw [List.getElem?_drop,List.getElem?_drop,show k+(q - k)=q by omega] at h1
    exact h1
   have tail:∀ v,NRow v B (some ⟨b,0,none⟩) n c P->NSl v (some (⟨b,i * 2,none⟩:Addr)) (n - i) (P.drop i):=by
    intro v hv
    have:=hv.1.tailS (k:=i) (by omega)
    rw [hsl,encN_o.fd P (by omega)] at this
    exact ⟨this,by rw [List.length_drop]; omega⟩
   refine vIf_mk (fun hlt=>?_) (fun hge=>?_)
   ·have hlt3:(j:Int) < ((n - i:Nat):Int):=of_decide_eq_true hlt
    have ej:IntKind.wrap .i64 ((j:Int) - 1)=((j - 1:Nat):Int):=by rw [i64_id (by omega) (by omega)]; omega
    have gi:r[i+j]?=some (r[i+j]'(by omega)):=List.getElem?_eq_getElem (by omega)
    have gp:r[i+j - 1]?=some (r[i+j - 1]'(by omega)):=List.getElem?_eq_getElem (by omega)
    generalize r[i+j]'(by omega)=x at gi
    generalize r[i+j - 1]'(by omega)=y at gp
    have ti:(P.drop i)[j]?=some x:=by rw [List.getElem?_drop,hget _ (by omega),gi]
    have tp:(P.drop i)[j - 1]?=some y:=by rw [List.getElem?_drop,show i+(j - 1)=i+j - 1 by omega,hget _ (by omega),gp]
    dsimp only
    rw [ej]
    refine n_rd (tail _ hrd) ti rfl (n_rd (tail _ hrd) tp rfl ((leq_calls x y u.drew).mono ?_))
    rintro e1 u1 ⟨rfl,f1⟩
    have hr1:=hrd.fr0 f1
    have hf1:Fr (fun k=>blkOf (some (⟨b,0,none⟩:Addr))=some k) w u1:=(hf.trans1 (Fr.drew _ _)).trans1 (f1.mono (fun _ _ h=>h.elim))
    have enext:IntKind.wrap .i64 ((j:Int)+1)=((j+1:Nat):Int):=by rw [i64_id (by omega) (by omega)]; rfl
    have hmeas:((n:Int) - IntKind.wrap .i64 ((j:Int)+1)).toNat < ((n:Int) - (j:Int)).toNat:=by rw [enext]; omega
    refine ⟨_,rfl,vIf_mk (fun hne=>?_) (fun he=>?_)⟩
    ·have hne2:¬ x.1=y.1:=by simpa using hne
     have hnx:cptN r (i+(j+1))=cptN r (i+j) ++ [x]:=by
      rw [<- Nat.add_assoc,cptN,if_neg,gi,Option.toList_some]
      rintro ⟨_,h'⟩
      rw [gi,gp] at h'
      exact hne2 (Option.some.inj h')
     refine n_rd (tail _ hr1) ti rfl ?_
     refine el_put (enc:=encN) hr1.1 (fun _ _=>rfl) hr1.2 (i:=k) (by omega) rfl (y:=x) rfl (encN_o.one x) (fun u2 hr2 f2=>jnC_mk (hC9 _ _ ⟨hf1.trans1 f2,j+1,P.set k x,by omega,by omega,by simpa using hPl,⟨hr2,by simpa using hPl⟩,?_,?_,?_,?_⟩ hmeas))
     ·rw [hnx,List.length_append,hkk]; simp; omega
     ·rw [hnx,List.length_append,hkk]
      show (P.set k _).take (k+1)=_
      rw [List.take_add_one,List.getElem?_set_self (by omega),Option.toList_some,List.take_set_of_le (Nat.le_refl k),htk]
     ·rw [hnx,List.length_append,hkk]
      show (P.set k _).drop (k+1)=r.drop (k+1)
      rw [List.drop_set_of_lt (by omega)]
      have h3:=congrArg (List.drop 1) hdp
      rw [List.drop_drop,List.drop_drop] at h3
      exact h3
     ·rw [hnx,List.length_append,hkk,enext]
      show (_,_,IntKind.wrap .i64 ((k:Int)+1),_,_,())=_
      rw [i64_id (by omega) (by omega)]; rfl
    ·have he2:x.1=y.1:=by simpa using he
     have hnx:cptN r (i+(j+1))=cptN r (i+j):=by
      rw [<- Nat.add_assoc,cptN,if_pos ⟨by omega,by rw [gi,gp,Option.map_some,Option.map_some,he2]⟩,List.append_nil]
     exact jnC_mk (hC9 _ _ ⟨hf1,j+1,P,by omega,by omega,hPl,hr1,by rw [hnx,hkk]; omega,by rw [hnx,hkk]; exact htk,by rw [hnx,hkk]; exact hdp,by rw [hnx,hkk,enext]⟩ hmeas)
   ·have hge3:¬ (j:Int) < ((n - i:Nat):Int):=of_decide_eq_false hge
    have hij:i+j=n:=by omega
    rw [hij] at hkk htk
    dsimp only
    simp only [Int.toNat_natCast]
    refine gd_mk (decide_eq_true (by omega)) (gd_mk (decide_eq_true (by omega)) (vIf_f (by simp; omega) ?_))
    refine row_clearN hr (by omega) (fun u2 hr2 f2=>jnC_mk (fun _=>?_))
    refine gd_mk (decide_eq_true (by show (0:Int)<=(k:Int); omega)) (gd_mk (decide_eq_true (by show (k:Int)<=(c:Int); omega)) ⟨?_,hf.trans1 (f2.mono (fun q _ hq=>by subst hq; rfl)),?_⟩)
    ·show Value.slice (slA (some ⟨b,0,none⟩) c 0 2) ((k:Int).toNat) c=_
     rw [Int.toNat_natCast,hkk,sl0]
    ·rw [hkk]
     rw [htk] at hr2
     exact hr2
  ·have hne2:¬ x.1=y.1:=of_decide_eq_false hne
   refine jnC_mk (hC4 _ _ ⟨hf1,hr1,i+1,by omega,by omega,?_,?_⟩ ?_)
   ·show (_,_,IntKind.wrap .i64 ((i:Int)+1),())=_
    rw [i64_id (by omega) (by omega)]; rfl
   ·rw [cptN,if_neg,hc,List.take_add_one]
    rintro ⟨_,h'⟩
    rw [gi,gp] at h'
    exact hne2 (Option.some.inj h')
   ·show ((n:Int) - IntKind.wrap .i64 ((i:Int)+1)).toNat < ((n:Int) - (i:Int)).toNat
    rw [i64_id (by omega) (by omega)]; omega
 ·have hge2:¬ (i:Int) < (n:Int):=of_decide_eq_false hge
  exact whole i hi hc (by omega) u hf hr
theorem fr_own {S:Nat->Prop} {w u v:World} {A:Option Addr} {b:Nat} (f:Fr (fun _=>False) w u) (hb:∀ k,blkOf A=some k->b<=k) (hw:w.heap.size<=b) (g:Fr (fun k=>blkOf A=some k) u v):Fr S w v :=
 f.trans g (fun _ _ h=>h.elim) (fun k hk h=>by have:=hb k h; omega)
theorem lasts_calls (A:Option Addr) (n c:Nat) (L:List Nm) (p:Value) (w:World) (h:NSl w A n L) (hn:n<=1073741824) :
  Calls Tryz.prog 77 #[ofL [.slice A n c,p]] w fun e w'=>Fr (fun _=>False) w w'/\∃ A' c',e=.returned (.slice A' (lastN L).length c')/\NRow w' w.heap.size A' (lastN L).length c' (lastN L):=by
 refine (F77.of _ w (Q:=fun v w'=>Fr (fun _=>False) w w'/\∃ A' c',v=.slice A' (lastN L).length c'/\NRow w' w.heap.size A' (lastN L).length c' (lastN L)) ?_).mono (fun e w' ⟨v,he,hf,A',c',hv,h⟩=>⟨hf,A',c',by rw [he,hv],h⟩)
 refine nw_mk ?_
 have f1:Fr (fun _=>False) w (w.alloc (.cells [Value.slice A n c,p].toArray 36)):=Fr.alloc _ _ _
 have r1:=RecAt.new w [Value.slice A n c,p] 36
 generalize w.alloc (.cells [Value.slice A n c,p].toArray 36)=w1 at f1 r1 ⊢
 have hsz:=f1.size
 refine ⟨A,n,c,r1.cell rfl,(ClnNm.clone_calls A n c _ w1 (h.fr0 f1).1 (encN_o.fo L) hn).mono ?_⟩
 rintro r w2 ⟨f2,A2,c2,rfl,h2⟩
 refine ⟨_,_,_,rfl,(StbNm.sortStable_calls lsrt w1.heap.size A2 n c2 L w2 h2 h.2 (by omega)).mono ?_⟩
 rintro r w3 ⟨rfl,f3,h3⟩
 refine ⟨rfl,(compactN_calls w1.heap.size A2 c2 (stab cmpM L) n w3 ⟨h3,by rw [stab_len]; exact h.2⟩ (by omega)).mono ?_⟩
 have hc:cptN (stab cmpM L) n=lastN L:=by rw [<- h.2]; exact last_eq L
 rw [hc]
 rintro r w4 ⟨rfl,f4,h4⟩
 have hA2:∀ k,blkOf A2=some k->w1.heap.size<=k:=fun k hk=>(h2.blt hk).1
 refine ⟨_,_,_,rfl,fr_own (f1.trans1 f2) hA2 (by omega) (f3.trans1 f4),A2,c2,rfl,⟨?_,h4.2⟩⟩
 exact row_low hsz h4.1
theorem set_calls (B:Nat) (A:Option Addr) (n c:Nat) (l:List Nm) (s:ByteArray) (v:Int) (w:World) (h:NRow w B A n c l) (ha:AscN l) (hB:B<=w.heap.size) (hn:n<=1073741824) :
  Calls Tryz.prog 125 #[.slice A n c,.string s,.int .i64 v] w fun e w'=>Fr (fun k=>blkOf A=some k) w w'/\∃ A' c',e=.returned (.slice A' (putN (s,v) l).length c')/\NRow w' B A' (putN (s,v) l).length c' (putN (s,v) l):=by
 refine (F125.of A n c s v w (Q:=fun v' w'=>Fr (fun k=>blkOf A=some k) w w'/\∃ A' c',v'=.slice A' (putN (s,v) l).length c'/\NRow w' B A' (putN (s,v) l).length c' (putN (s,v) l)) ?_).mono (fun e w' ⟨v,he,hf,A',c',hv,h⟩=>⟨hf,A',c',by rw [he,hv],h⟩)
 refine (bsN_calls A n c l s w h.sl ha (by omega)).mono ?_
 rintro r w2 ⟨f2,i,rfl,hp⟩
 have h2:=h.fr0 f2
 have hin:=hp.1
 have hl:=h.2
 refine ⟨_,_,rfl,vIf_mk (fun hi=>?_) (fun hi=>?_)⟩
 ·obtain ⟨x,hx,hs⟩:=isN_at hi
  have hil:=(List.getElem?_eq_some_iff.1 hx).1
  have hpt:=row_putG (o':=i * 2+1) (us:=[Value.int .i64 v]) (K:=fun w'=>Fr (fun k=>blkOf A=some k) w w'/\∃ A' c',Value.slice A n c=.slice A' (putN (s,v) l).length c'/\NRow w' B A' (putN (s,v) l).length c' (putN (s,v) l)) h2.1 (by omega) (by simp; omega) (by simp; rfl) (fun w6 hr6 f6=>?_)
  ·rw [dr_iff] at hpt
   obtain ⟨b,o,hA,hpt⟩:=hpt
   rw [hA]
   refine dr_mk (gd_mk (decide_eq_true (by omega)) (gd_mk (decide_eq_true (by omega)) ?_))
   rw [Int.toNat_natCast,<- hA]
   exact hpt
  ·rw [put_in hp hx hs,List.length_set,hl]
   refine ⟨(f2.mono (fun _ _ h=>h.elim)).trans1 f6,A,c,rfl,?_,by rw [List.length_set,hl]⟩
   have e:splice (flt encN l) (i * 2+1) [Value.int .i64 v]=flt encN (l.set i (s,v)):=by
    rw [<- flt_set (enc:=encN) (sz:=2) (fun _ _=>rfl) (by omega) rfl]
    apply List.ext_getElem?
    intro j
    have hfl:=encN_o.fl l
    rw [splice_get (by simp; omega),splice_get (by show i * 2+2<=_; omega)]
    have g0:(flt encN l)[i * 2]?=some (.string s):=by
     have:=flt_get (enc:=encN) (sz:=2) (fun _ _=>rfl) hx 0 (by omega)
     rw [Nat.add_zero] at this
     rw [this,<- hs]; rfl
    by_cases h1:j < i * 2
    ·rw [if_pos (by omega),if_pos h1]
    ·by_cases h2:j=i * 2
     ·subst h2
      rw [if_pos (by omega),if_neg (by omega),if_pos (by show i * 2 < i * 2+2; omega),g0,Nat.sub_self]; rfl
     ·rw [if_neg (by omega),if_neg h1]
      by_cases h3:j=i * 2+1
      ·subst h3
       rw [if_pos (by simp),if_pos (by show i * 2+1 < i * 2+2; omega),Nat.sub_self,show i * 2+1 - i * 2=1 by omega]; rfl
      ·rw [if_neg (by simp; omega),if_neg (by show ¬ j < i * 2+2; omega)]
   rw [<- e]
   exact hr6
 ·refine gd_mk rfl (nw_mk ?_)
  have f3:Fr (fun _=>False) w2 (w2.alloc (.cells (encN (s,v)).toArray 62)):=Fr.alloc _ _ _
  have r3:=RecAt.new w2 (encN (s,v)) 62
  show Calls _ _ _ (w2.alloc (.cells (encN (s,v)).toArray 62)) _
  have hA2:blkOf A ≠ some w2.heap.size:=fun e=>by have:=(h2.1.blt e).2; omega
  generalize hb3:w2.heap.size=b3 at r3 hA2 ⊢
  generalize w2.alloc (.cells (encN (s,v)).toArray 62)=w3 at f3 r3 ⊢
  have h3:=h2.fr0 f3
  refine (InsNm.insert_calls encN_o B A n c i l (s,v) b3 w3 h3.1 hl (by omega) r3 hA2 (by have:=f2.size; have:=f3.size; omega) hn).mono ?_
  rintro r w4 ⟨A4,c4,rfl,f4,h4,_⟩
  have hi:isN s i l=false:=hi
  rw [<- put_out hp ha hi] at h4
  have hlen:(putN (s,v) l).length=n+1:=by rw [put_out hp ha hi]; simp; omega
  rw [hlen]
  exact ⟨_,_,_,rfl,((f2.trans1 f3).mono (fun _ _ h=>h.elim)).trans1 f4,A4,c4,rfl,h4,hlen⟩
theorem cut_calls (B:Nat) (A:Option Addr) (n c:Nat) (l:List Nm) (s:ByteArray) (w:World) (h:NRow w B A n c l) (ha:AscN l) (hn:n<=1073741824) :
  Calls Tryz.prog 126 #[.slice A n c,.string s] w fun e w'=>Fr (fun k=>blkOf A=some k) w w'/\e=.returned (.tuple #[.slice A (woN s l).length c,.int .i64 ((findN s l).getD 0),.bool (findN s l).isSome])/\NRow w' B A (woN s l).length c (woN s l)/\(findN s l=none->Fr (fun _=>False) w w'):=by
 refine (F126.of A n c s w (Q:=fun v' w'=>Fr (fun k=>blkOf A=some k) w w'/\v'=.tuple #[.slice A (woN s l).length c,.int .i64 ((findN s l).getD 0),.bool (findN s l).isSome]/\NRow w' B A (woN s l).length c (woN s l)/\(findN s l=none->Fr (fun _=>False) w w')) ?_).mono (fun e w' ⟨v,he,hf,hv,h⟩=>⟨hf,by rw [he,hv],h⟩)
 refine (bsN_calls A n c l s w h.sl ha (by omega)).mono ?_
 rintro r w2 ⟨f2,i,rfl,hp⟩
 have h2:=h.fr0 f2
 have hin:=hp.1
 have hl:=h.2
 refine ⟨_,_,rfl,vIf_mk (fun hi=>?_) (fun hi=>?_)⟩
 ·have hi:isN s i l=false:=by simpa using hi
  obtain ⟨e1,e2⟩:=wo_out hp ha hi
  rw [e1,e2,hl]
  exact ⟨f2.mono (fun _ _ h=>h.elim),rfl,h2,fun _=>f2⟩
 ·have hi:isN s i l=true:=by simpa using hi
  obtain ⟨x,hx,hs⟩:=isN_at hi
  have hil:=(List.getElem?_eq_some_iff.1 hx).1
  refine n_rdI h2.sl hx rfl ((DelNm.delete_calls encN_o B A n c i l w2 h2.1 hl (by omega) hn (ei i (by omega))).mono ?_)
  rintro r w3 ⟨rfl,f3,h3⟩
  have e1:=wo_in hp ha hx hs
  have e2:=find_in hp hx hs
  rw [<- e1] at h3
  have hlen:(woN s l).length=n - 1:=by rw [e1]; simp; omega
  rw [hlen,e2]
  exact ⟨_,_,_,rfl,(f2.mono (fun _ _ h=>h.elim)).trans1 f3,rfl,⟨h3,hlen⟩,fun h=>by cases h⟩
theorem step_calls (B:Nat) (A:Option Addr) (n c:Nat) (l:List Nm) (x:Ch) (w:World) (h:NRow w B A n c l) (ha:AscN l) (hB:B<=w.heap.size) (hn:n<=1073741823) :
  Calls Tryz.prog 78 #[.slice A n c,ofL (encC x)] w fun e w'=>Fr (fun k=>blkOf A=some k) w w'/\∃ A' c',e=.returned (.slice A' (stepN l x).length c')/\NRow w' B A' (stepN l x).length c' (stepN l x):=by
 refine (F78.of A n c _ w (Q:=fun v' w'=>Fr (fun k=>blkOf A=some k) w w'/\∃ A' c',v'=.slice A' (stepN l x).length c'/\NRow w' B A' (stepN l x).length c' (stepN l x)) ?_).mono (fun e w' ⟨v,he,hf,A',c',hv,h⟩=>⟨hf,A',c',by rw [he,hv],h⟩)
 refine nw_mk ?_
 have f1:Fr (fun _=>False) w (w.alloc (.cells (encC x).toArray 146)):=Fr.alloc _ _ _
 have r1:=RecAt.new w (encC x) 146
 have hb1:∀ k,blkOf A=some k->k ≠ w.heap.size:=fun k hk e=>by have:=(h.1.blt hk).2; omega
 generalize w.heap.size=b1 at r1 hb1 ⊢
 generalize w.alloc (.cells (encC x).toArray 146)=w1 at f1 r1 ⊢
 have f1':Fr (fun k=>blkOf A=some k) w w1:=f1.mono (fun _ _ h=>h.elim)
 have h1:=h.fr0 f1
 have hB1:B<=w1.heap.size:=by have:=f1.size; omega
 have hl:=h.2
 refine ⟨x.k,r1.cell rfl,vIf_mk (fun hk=>?_) (fun hk=>vIf_mk (fun hk3=>?_) (fun hk3=>vIf_mk (fun hk2=>?_) (fun hk2=>?_)))⟩
 ·have hk:x.k=1:=by simpa using hk
  have e:stepN l x=putN (x.nm,x.id) l:=if_pos hk
  rw [e]
  refine ⟨x.nm,r1.cell rfl,x.id,r1.cell rfl,(set_calls B A n c l x.nm x.id w1 h1 ha hB1 (by omega)).mono ?_⟩
  rintro r w2 ⟨f2,A2,c2,rfl,h2⟩
  exact ⟨_,_,_,rfl,f1'.trans1 f2,A2,c2,rfl,h2⟩
 ·have hk:¬ x.k=1:=by simpa using hk
  have hk3:x.k=3:=by simpa using hk3
  have e:stepN l x=woN x.nm l:=by unfold stepN; rw [if_neg hk,if_neg (by omega),if_pos hk3]
  rw [e]
  refine ⟨x.nm,r1.cell rfl,(cut_calls B A n c l x.nm w1 h1 ha (by omega)).mono ?_⟩
  rintro r w2 ⟨f2,rfl,h2,_⟩
  exact ⟨_,_,_,_,_,rfl,f1'.trans1 f2,A,c,rfl,h2⟩
 ·have hk:¬ x.k=1:=by simpa using hk
  have hk2:x.k=2:=by simpa using hk2
  refine ⟨x.nm,r1.cell rfl,(cut_calls B A n c l x.nm w1 h1 ha (by omega)).mono ?_⟩
  rintro r w2 ⟨f2,rfl,h2,hno⟩
  refine ⟨_,_,_,_,_,rfl,vIf_mk (fun hi=>?_) (fun hi=>?_)⟩
  ·cases hf:findN x.nm l with
   | none=>rw [hf] at hi; cases hi
   | some id =>
    have e:stepN l x=putN (x.to,id) (woN x.nm l):=by unfold stepN; rw [if_neg hk,if_pos hk2,hf]
    rw [e]
    have hwl:=woN_len x.nm l
    refine ⟨x.to,(r1.fr f2 (fun e=>hb1 _ e rfl)).cell rfl,(set_calls B A _ c _ x.to id w2 h2 (woN_asc _ ha) (by have:=f2.size; omega) (by omega)).mono ?_⟩
    rintro r w3 ⟨f3,A3,c3,rfl,h3⟩
    exact ⟨_,_,_,rfl,(f1'.trans1 f2).trans1 f3,A3,c3,rfl,h3⟩
  ·cases hf:findN x.nm l with
   | some id=>rw [hf] at hi; cases hi
   | none =>
    have e:stepN l x=l:=by unfold stepN; rw [if_neg hk,if_pos hk2,hf]
    rw [e,hl]
    exact ⟨f1'.trans1 f2,A,c,rfl,h1.fr0 (hno hf)⟩
 ·have hk:¬ x.k=1:=by simpa using hk
  have hk3:¬ x.k=3:=by simpa using hk3
  have hk2:¬ x.k=2:=by simpa using hk2
  have e:stepN l x=l:=by unfold stepN; rw [if_neg hk,if_neg hk2,if_neg hk3]
  rw [e,hl]
  exact ⟨f1',A,c,rfl,h1⟩
structure Fo where
 L:List Nm
 P:List Ch
def CSl (w:World) (A:Option Addr) (n:Nat) (l:List Ch):Prop:=Sl w 4 A n (flt encC l)/\l.length=n
theorem CSl.fr0 {w w':World} {A:Option Addr} {n:Nat} {l:List Ch} (h:CSl w A n l) (f:Fr (fun _=>False) w w'):CSl w' A n l:=⟨f.sl h.1 (fun _ _ _ h=>h),h.2⟩
theorem c_rd {w:World} {A:Option Addr} {n:Nat} {l:List Ch} (h:CSl w A n l) {i:Nat} {x:Ch} (hi:l[i]?=some x) {ii:Int} (hii:ii=(i:Int)) {K:List Value->Prop} (hK:K (encC x)) :
  dr A fun b o=>gd (decide (0<=ii)) (gd (decide (ii < ((n:Nat):Int))) (ldA 4 w b (o+ii.toNat * 4) K)) :=
 el_rd h.1 (fun x _=>rfl) hi hii h.2 (fun b o hA hc=>⟨encC x,rfl,hc,hK⟩)
def FoAt (w:World) (cs:List Value) (F:Fo):Prop:=∃ A n c A' n' c',cs=[.slice A n c,.slice A' n' c']/\NSl w A n F.L/\CSl w A' n' F.P/\n'<=c'
theorem FoAt.fr0 {w w':World} {cs:List Value} {F:Fo} (h:FoAt w cs F) (f:Fr (fun _=>False) w w'):FoAt w' cs F:=by
 obtain ⟨A,n,c,A',n',c',e,h1,h2,h3⟩:=h
 exact ⟨A,n,c,A',n',c',e,h1.fr0 f,h2.fr0 f,h3⟩
theorem FoAt.len {w:World} {cs:List Value} {F:Fo} (h:FoAt w cs F):cs.length=2:=by
 obtain ⟨A,n,c,A',n',c',e,h1,h2,h3⟩:=h
 rw [e]; rfl
theorem ch_var {w:World} {x:Ch} {K:Nat->World->Prop} (hK:∀ b w',Fr (fun _=>False) w w'->RecAt w' b 146 (encC x)->K b w') :
  nw w Z146 146 fun b w1=>gd ((encC x).length == 4) (st w1 b 0 (encC x) fun w2=>K b w2):=by
 refine nw_mk (gd_mk rfl ?_)
 have f1:Fr (fun _=>False) w (w.alloc (.cells Z146.toArray 146)):=Fr.alloc _ _ _
 have r1:=RecAt.new w Z146 146
 generalize hb:w.heap.size=b at r1 ⊢
 generalize w.alloc (.cells Z146.toArray 146)=w1 at f1 r1 ⊢
 refine r1.st_mk (o:=0) (by show 0+4<=4; omega) (encC_o.one x) (fun r2 f2=>hK _ _ (f1.trans f2 (fun _ _ h=>h) (fun k hk h=>by omega)) ?_)
 have e:splice Z146 0 (encC x)=encC x:=splice_full rfl
 rw [e] at r2
 exact r2
def cnt (n:Int) (P:List Ch):Nat:=if n < 0 then 0 else min n.toNat P.length
theorem cnt_le (n:Int) (P:List Ch):cnt n P<=P.length:=by unfold cnt; split <;> omega
theorem cnt_eq (n:Int) (P:List Ch) (m:Nat) (hm:P.length=m):(if 0 < (if ((m:Nat):Int) < n then ((m:Nat):Int) else n) then (if ((m:Nat):Int) < n then ((m:Nat):Int) else n) else 0)=((cnt n P:Nat):Int):=by
 subst hm
 unfold cnt
 (repeat' split) <;> omega
def behF (F:Fo) (n:Int):List Nm:=behN F.L (F.P.take (cnt n F.P))
theorem behF_asc (F:Fo) (n:Int):AscN (behF F n):=behN_asc _ _
theorem behF_len (F:Fo) (n:Int):(behF F n).length<=F.L.length+F.P.length:=by
 have:=behN_len F.L (F.P.take (cnt n F.P))
 have h2:(F.P.take (cnt n F.P)).length<=F.P.length:=by rw [List.length_take]; omega
 unfold behF; omega
theorem sl_cut0 {w:World} {sz:Nat} {A:Option Addr} {n k c:Nat} {vs:List Value} (h:Sl w sz A n vs) (hk:k<=n):Sl w sz (slA A c 0 sz) k (vs.take (k * sz)):=by
 have h2:=h.headS hk
 refine ⟨h2.1,fun h0=>?_⟩
 obtain ⟨b,o,hA,hc⟩:=h2.2 h0
 refine ⟨b,o,?_,hc⟩
 rw [hA]
 unfold slA
 split
 ·rfl
 ·rw [Option.map_some,add_none,Nat.zero_mul]; rfl
def FoB (F:Fo):Prop:=F.L.length+F.P.length<=349525
set_option maxHeartbeats 1000000 in
theorem beh_calls (cs:List Value) (F:Fo) (n:Int) (w:World) (h:FoAt w cs F) (hb:FoB F) :
  Calls Tryz.prog 43 #[ofL cs,.int .i64 n] w fun e w'=>Fr (fun _=>False) w w'/\∃ A' c',e=.returned (.slice A' (behF F n).length c')/\NRow w' w.heap.size A' (behF F n).length c' (behF F n):=by
 refine (F43.of cs n w (Q:=fun v' w'=>Fr (fun _=>False) w w'/\∃ A' c',v'=.slice A' (behF F n).length c'/\NRow w' w.heap.size A' (behF F n).length c' (behF F n)) ?_).mono (fun e w' ⟨v,he,hf,A',c',hv,h⟩=>⟨hf,A',c',by rw [he,hv],h⟩)
 obtain ⟨A,m,c,A',m',c',rfl,hL,hP,hPc⟩:=h
 have hb:F.L.length+F.P.length<=349525:=hb
 have hLl:=hL.2
 have hPl:=hP.2
 refine nw_mk ?_
 have f1:Fr (fun _=>False) w (w.alloc (.cells [Value.slice A m c,.slice A' m' c'].toArray 36)):=Fr.alloc _ _ _
 have r1:=RecAt.new w [Value.slice A m c,.slice A' m' c'] 36
 generalize w.alloc (.cells [Value.slice A m c,.slice A' m' c'].toArray 36)=w1 at f1 r1 ⊢
 refine ⟨[Value.slice A m c,.slice A' m' c'],rfl,r1.cells (fun j v hj=>by simpa using hj),(lasts_calls A m c F.L _ w1 (hL.fr0 f1) (by omega)).mono ?_⟩
 rintro r w2 ⟨f2,A2,c2,rfl,h2⟩
 have r2:=r1.fr f2 (fun h=>h)
 refine ⟨_,_,_,rfl,A',m',c',r2.cell rfl,A',m',c',r2.cell rfl,?_⟩
 have hk:=cnt_le n F.P
 dsimp only
 simp only [cnt_eq n F.P m' hPl]
 generalize hkk:cnt n F.P=k at hk ⊢
 refine gd_mk (decide_eq_true (by omega)) (gd_mk (decide_eq_true (by omega)) (jnC_mk ?_))
 simp only [Int.toNat_natCast]
 have hPk:CSl w1 (slA A' c' 0 4) k (F.P.take k):=by
  have:=sl_cut0 (c:=c') (hP.fr0 f1).1 (k:=k) (by omega)
  rw [encC_o.ft F.P hk] at this
  exact ⟨this,by rw [List.length_take]; omega⟩
 refine loop_rule (fun s u=>Fr (fun _=>False) w1 u/\∃ (i:Nat) (A2:Option Addr) (c2:Nat),i<=k/\s=((A2,(behN F.L (F.P.take i)).length,c2),(slA A' c' 0 4,k,c'),(k:Int),(i:Int),())/\NRow u w1.heap.size A2 (behN F.L (F.P.take i)).length c2 (behN F.L (F.P.take i)))
  (fun s _=>(k - s.2.2.2.1).toNat) ?_ _ _ ⟨f2,0,A2,c2,by omega,rfl,h2⟩
 rintro s u C ⟨hf,i,A3,c3,hi,rfl,h3⟩ hC _
 refine vIf_mk (fun hlt=>?_) (fun hge=>?_)
 ·have hlt2:(i:Int) < (k:Int):=of_decide_eq_true hlt
  have gi:F.P[i]?=some (F.P[i]'(by omega)):=List.getElem?_eq_getElem (by omega)
  generalize F.P[i]'(by omega)=x at gi
  have hst:=behN_step (L:=F.L) gi
  have hbl:=behN_len F.L (F.P.take i)
  have htl:(F.P.take i).length<=F.P.length:=by rw [List.length_take]; omega
  refine c_rd (hPk.fr0 hf) (x:=x) (by rw [List.getElem?_take,if_pos (by omega)]; exact gi) rfl (ch_var (fun b u2 g2 r2=>⟨encC x,rfl,r2.cells (fun j v hj=>by simpa using hj),?_⟩))
  refine (step_calls w1.heap.size A3 _ c3 _ x u2 (h3.fr0 g2) (behN_asc _ _) (by have:=hf.size; have:=g2.size; omega) (by omega)).mono ?_
  rintro r u3 ⟨g3,A4,c4,rfl,h4⟩
  rw [<- hst] at h4 ⊢
  refine ⟨_,_,_,rfl,jnC_mk (hC _ _ ⟨fr_own (hf.trans1 g2) (fun q hq=>(h3.1.blt hq).1) (Nat.le_refl _) g3,i+1,A4,c4,by omega,by rw [ei i (by omega)],h4⟩ ?_)⟩
  show ((k:Int) - IntKind.wrap .i64 ((i:Int)+1)).toNat < ((k:Int) - (i:Int)).toNat
  rw [ei i (by omega)]; omega
 ·have hge2:¬ (i:Int) < (k:Int):=of_decide_eq_false hge
  have hik:i=k:=by omega
  subst hik
  have e:behF F n=behN F.L (F.P.take i):=by unfold behF; rw [hkk]
  rw [e]
  exact ⟨f1.trans1 hf,A3,c3,rfl,row_low f1.size h3.1,h3.2⟩
theorem gtr_cmp (a b:ByteArray):(!((Op.bytesLess a.toList b.toList) || (a.toList == b.toList)))=decide (cmpN b a < 0):=by
 rw [nlt,neq,Bool.eq_iff_iff]
 have h1:=cmpN_anti a b
 have h2:=cmpN_zero a b
 by_cases h:a=b
 ·subst h; simp [cmpN_self]
 ·have:cmpN a b ≠ 0:=fun h'=>h (h2.1 h')
  simp only [h,decide_false,Bool.or_false,Bool.not_eq_true',decide_eq_false_iff_not,decide_eq_true_iff]
  omega
theorem push_n {w:World} {B:Nat} {A:Option Addr} {n c:Nat} {out:List Nm} {x:Nm} {K:Option Addr->Nat->Nat->World->Prop} (hr:NRow w B A n c out) (hB:B<=w.heap.size) (hn:n<=1073741824)
  (hK:∀ A' c' w',NRow w' B A' (n+1) c' (out ++ [x])->Fr (fun k=>blkOf A=some k) w w'->K A' (n+1) c' w'):nw w (encN x ++ []) 62 fun b w'=>app w' 2 24 [Value.string (⟨#[]⟩:ByteArray),Value.int .i64 0] 62 A n c (.slice (some ⟨b,0,none⟩) 1 1) K:=by
 refine nw_mk ?_
 rw [List.append_nil]
 have f1:Fr (fun _=>False) w (w.alloc (.cells (encN x).toArray 62)):=Fr.alloc _ _ _
 have r1:Row (w.alloc (.cells (encN x).toArray 62)) 0 62 2 (some ⟨w.heap.size,0,none⟩) 1 1 (encN x):=Row.new (Nat.zero_le _) rfl
 have hs:(w.alloc (.cells (encN x).toArray 62)).heap.size=w.heap.size+1:=alloc_size _ _
 generalize w.alloc (.cells (encN x).toArray 62)=w1 at f1 r1 hs ⊢
 refine app_row (hr.fr0 f1).1 r1.sl.src (encN_o.one x) rfl (by omega) (by omega) (by omega) (fun A' c' w' hr' f'=>hK A' c' w' ⟨?_,by rw [List.length_append,hr.2]; rfl⟩ ?_)
 ·rw [flt_app,flt_one]; exact hr'
 ·exact f1.trans f' (fun _ _ h=>h.elim) (fun _ _ h=>h)
theorem rfind_calls (A:Option Addr) (n c:Nat) (l:List Nm) (s:ByteArray) (w:World) (h:NSl w A n l) (hn:n<=17179869184) :
  Calls Tryz.prog 41 #[.slice A n c,.string s] w fun e w'=>e=.returned (.tuple #[.int .i64 ((findN s l).getD 0),.bool (findN s l).isSome])/\Fr (fun _=>False) w w':=by
 refine (F41.of A n c s w (Q:=fun v w'=>v=.tuple #[.int .i64 ((findN s l).getD 0),.bool (findN s l).isSome]/\Fr (fun _=>False) w w') ?_).mono (fun e w' ⟨v,he,hv,h⟩=>⟨by rw [he,hv],h⟩)
 have hl:=h.2
 refine jnC_mk (loop_rule (fun t u=>Fr (fun _=>False) w u/\∃ i:Nat,i<=n/\t=((A,n,c),s,(i:Int),())/\∀ z ∈ l.take i,z.1 ≠ s) (fun t _=>(n - t.2.2.1).toNat) ?_ _ _ ⟨Fr.refl _ _,0,by omega,rfl,by simp⟩)
 rintro t u C ⟨hf,i,hi,rfl,hall⟩ hC _
 refine vIf_mk (fun hlt=>?_) (fun hge=>?_)
 ·have hlt2:(i:Int) < (n:Int):=of_decide_eq_true hlt
  have gi:l[i]?=some (l[i]'(by omega)):=List.getElem?_eq_getElem (by omega)
  generalize l[i]'(by omega)=x at gi
  have hl':=h.fr0 hf
  refine n_rdS hl' gi rfl ?_
  dsimp only
  rw [neq]
  refine vIf_mk (fun he=>n_rdI hl' gi rfl ⟨?_,hf⟩) (fun hne=>jnC_mk (hC _ _ ⟨hf,i+1,by omega,by rw [ei i (by omega)],fun z hz=>?_⟩ ?_))
  ·have he:=of_decide_eq_true he
   have e:findN s l=some x.2:=by
    rw [<- List.take_append_drop i l,drop_at gi,findN_app,findN_none hall,findN,if_pos he]; rfl
   rw [e]; rfl
  ·have hne:=of_decide_eq_false hne
   rw [List.take_add_one,gi] at hz
   rcases List.mem_append.1 hz with hz | hz
   ·exact hall z hz
   ·simp at hz; subst hz; exact hne
  ·show ((n:Int) - IntKind.wrap .i64 ((i:Int)+1)).toNat < ((n:Int) - (i:Int)).toNat
   rw [ei i (by omega)]; omega
 ·have hge2:¬ (i:Int) < (n:Int):=of_decide_eq_false hge
  rw [List.take_of_length_le (by omega)] at hall
  rw [findN_none hall]
  exact ⟨rfl,hf⟩
theorem rwo_calls (A:Option Addr) (n c:Nat) (l:List Nm) (s:ByteArray) (w:World) (h:NSl w A n l) (hn:n<=1073741824) :
  Calls Tryz.prog 76 #[.slice A n c,.string s] w fun e w'=>Fr (fun _=>False) w w'/\∃ A' c',e=.returned (.slice A' (woN s l).length c')/\NRow w' w.heap.size A' (woN s l).length c' (woN s l):=by
 refine (F76.of A n c s w (Q:=fun v w'=>Fr (fun _=>False) w w'/\∃ A' c',v=.slice A' (woN s l).length c'/\NRow w' w.heap.size A' (woN s l).length c' (woN s l)) ?_).mono (fun e w' ⟨v,he,hf,A',c',hv,h⟩=>⟨hf,A',c',by rw [he,hv],h⟩)
 have hl:=h.2
 refine jnC_mk (loop_rule (fun t u=>Fr (fun _=>False) w u/\∃ (i:Nat) (A':Option Addr) (c':Nat),i<=n/\t=((A,n,c),s,(A',(woN s (l.take i)).length,c'),(i:Int),())/\NRow u w.heap.size A' (woN s (l.take i)).length c' (woN s (l.take i))) (fun t _=>(n - t.2.2.2.1).toNat) ?_ _ _ ⟨Fr.refl _ _,0,none,0,by omega,rfl,Row.nil _ _ _ _,rfl⟩)
 rintro t u C ⟨hf,i,A',c',hi,rfl,hr⟩ hC _
 refine vIf_mk (fun hlt=>?_) (fun hge=>?_)
 ·have hlt2:(i:Int) < (n:Int):=of_decide_eq_true hlt
  have gi:l[i]?=some (l[i]'(by omega)):=List.getElem?_eq_getElem (by omega)
  generalize l[i]'(by omega)=x at gi
  have hl':=h.fr0 hf
  have hst:=woN_step (s:=s) gi
  have hwl:=woN_len s (l.take i)
  rw [List.length_take] at hwl
  have hmeas:((n:Int) - IntKind.wrap .i64 ((i:Int)+1)).toNat < ((n:Int) - (i:Int)).toNat:=by rw [ei i (by omega)]; omega
  refine n_rdS hl' gi rfl ?_
  dsimp only
  rw [neq]
  refine vIf_mk (fun hne=>?_) (fun he=>?_)
  ·have hne:x.1 ≠ s:=by simpa using hne
   rw [if_pos hne] at hst
   refine n_rd hl' gi rfl (gd_mk rfl (push_n hr (by have:=hf.size; omega) (by omega) (fun A2 c2 w2 hr2 f2=>jnC_mk (hC _ _ ⟨?_,i+1,A2,c2,by omega,?_,?_⟩ hmeas))))
   ·exact fr_own hf (fun q hq=>(hr.1.blt hq).1) (Nat.le_refl _) f2
   ·rw [hst,List.length_append,ei i (by omega)]; rfl
   ·rw [hst,List.length_append]; exact hr2
  ·have he:¬ x.1 ≠ s:=by simpa using he
   rw [if_neg he] at hst
   exact jnC_mk (hC _ _ ⟨hf,i+1,A',c',by omega,by rw [hst,ei i (by omega)],by rw [hst]; exact hr⟩ hmeas)
 ·have hge2:¬ (i:Int) < (n:Int):=of_decide_eq_false hge
  have hin:i=n:=by omega
  subst hin
  rw [List.take_of_length_le (by omega)] at hr ⊢
  exact ⟨hf,A',c',rfl,hr⟩
theorem putS_len (x:Nm):∀ (l:List Nm) (s:List Nm×Bool),(l.foldl (putS x) s).1.length<=s.1.length+2 * l.length
 | [],s=>by simp
 | y :: r,s=>by
  have ih:=putS_len x r (putS x s y)
  have h1:(putS x s y).1.length<=s.1.length+2:=by
   unfold putS
   split
   ·split <;> simp
   ·split <;> simp
  rw [List.foldl_cons,List.length_cons]
  omega
theorem rput_calls (A:Option Addr) (n c:Nat) (l:List Nm) (x:Nm) (w:World) (h:NSl w A n l) (ha:AscN l) (hn:n<=500000000) :
  Calls Tryz.prog 75 #[.slice A n c,ofL (encN x)] w fun e w'=>Fr (fun _=>False) w w'/\∃ A' c',e=.returned (.slice A' (putN x l).length c')/\NRow w' w.heap.size A' (putN x l).length c' (putN x l):=by
 refine (F75.of A n c _ w (Q:=fun v w'=>Fr (fun _=>False) w w'/\∃ A' c',v=.slice A' (putN x l).length c'/\NRow w' w.heap.size A' (putN x l).length c' (putN x l)) ?_).mono (fun e w' ⟨v,he,hf,A',c',hv,h⟩=>⟨hf,A',c',by rw [he,hv],h⟩)
 have hl:=h.2
 refine nw_mk ?_
 have f1:Fr (fun _=>False) w (w.alloc (.cells (encN x).toArray 62)):=Fr.alloc _ _ _
 have r1:=RecAt.new w (encN x) 62
 have hs1:w.heap.size<=(w.alloc (.cells (encN x).toArray 62)).heap.size:=f1.size
 have hlt1:w.heap.size < (w.alloc (.cells (encN x).toArray 62)).heap.size:=by rw [alloc_size]; omega
 generalize hb1:w.heap.size=b1 at r1 hlt1 hs1 ⊢
 generalize w.alloc (.cells (encN x).toArray 62)=w1 at f1 r1 hs1 hlt1 ⊢
 have h1:=h.fr0 f1
 have hfold:∀ i,((l.take i).foldl (putS x) ([],false)).1.length<=2 * i:=fun i=>by
  have:=putS_len x (l.take i) ([],false)
  rw [List.length_take] at this
  simp only [List.length_nil] at this
  omega
 refine jnC_mk (loop_rule (fun t u=>Fr (fun _=>False) w1 u/\∃ (i:Nat) (A':Option Addr) (c':Nat),i<=n/\t=((A,n,c),(b1,0),(A',((l.take i).foldl (putS x) ([],false)).1.length,c'),((l.take i).foldl (putS x) ([],false)).2,(i:Int),())/\NRow u w1.heap.size A' ((l.take i).foldl (putS x) ([],false)).1.length c' ((l.take i).foldl (putS x) ([],false)).1) (fun t _=>(n - t.2.2.2.2.1).toNat) ?_ _ _ ⟨Fr.refl _ _,0,none,0,by omega,rfl,Row.nil _ _ _ _,rfl⟩)
 rintro t u C ⟨hf,i,A',c',hi,rfl,hr⟩ hC _
 have hfi:=hfold i
 have r1u:=r1.fr hf (fun h=>h)
 have hBu:=hf.size
 refine vIf_mk (fun hlt=>?_) (fun hge=>?_)
 ·have hlt2:(i:Int) < (n:Int):=of_decide_eq_true hlt
  have gi:l[i]?=some (l[i]'(by omega)):=List.getElem?_eq_getElem (by omega)
  generalize l[i]'(by omega)=y at gi
  have hst:(l.take (i+1)).foldl (putS x) ([],false)=putS x ((l.take i).foldl (putS x) ([],false)) y:=by
   rw [List.take_add_one,gi,Option.toList_some,List.foldl_append]; rfl
  generalize hS:(l.take i).foldl (putS x) ([],false)=S at hst hr hfi ⊢
  have hmeas:((n:Int) - IntKind.wrap .i64 ((i:Int)+1)).toNat < ((n:Int) - (i:Int)).toNat:=by rw [ei i (by omega)]; omega
  have k9:∀ (v:World) (A2:Option Addr) (c2:Nat) (S1:List Nm×Bool),Fr (fun _=>False) w1 v->(S1=if S.2=false/\cmpN x.1 y.1 < 0 then (S.1 ++ [x],true) else S)->S1.1.length<=2 * i+1->NRow v w1.heap.size A2 S1.1.length c2 S1.1 ->
    F75.k9 (fun v w'=>Fr (fun _=>False) w w'/\∃ A' c',v=.slice A' (putN x l).length c'/\NRow w' b1 A' (putN x l).length c' (putN x l)) C ((A,n,c),(b1,0),(A2,S1.1.length,c2),S1.2,(i:Int),()) v:=by
   intro v A2 c2 S1 fv hS1 hlen hrv _
   have hrv:=hrv.fr0 (Fr.drew _ _)
   have fv:Fr (fun _=>False) w1 v.drew:=fv.trans1 (Fr.drew _ _)
   have hlv:=h1.fr0 fv
   refine n_rdS hlv gi rfl ⟨x.1,(r1.fr fv (fun h=>h)).cell rfl,?_⟩
   dsimp only
   rw [neq]
   refine vIf_mk (fun hne=>?_) (fun he=>?_)
   ·have hne:¬ y.1=x.1:=by simpa using hne
    have hput:putS x S y=(S1.1 ++ [y],S1.2):=by unfold putS; rw [if_neg hne,hS1]
    rw [hput] at hst
    refine n_rd hlv gi rfl (gd_mk rfl (push_n hrv (by have:=fv.size; omega) (by omega) (fun A3 c3 w3 hr3 f3=>jnC_mk (hC _ _ ⟨?_,i+1,A3,c3,by omega,?_,?_⟩ hmeas))))
    ·exact fr_own fv (fun q hq=>(hrv.1.blt hq).1) (Nat.le_refl _) f3
    ·rw [hst,ei i (by omega),List.length_append]; rfl
    ·rw [hst,List.length_append]; exact hr3
   ·have he:y.1=x.1:=by simpa using he
    have hput:putS x S y=S1:=by unfold putS; rw [if_pos he,hS1]
    rw [hput] at hst
    exact jnC_mk (hC _ _ ⟨fv,i+1,A2,c2,by omega,by rw [hst,ei i (by omega)],by rw [hst]; exact hrv⟩ hmeas)
  refine vIf_mk (fun hin=>?_) (fun hin=>?_)
  ·have hin:S.2=false:=by simpa using hin
   have hrd:=hr.fr0 (Fr.drew (fun _=>False) u)
   have fd:Fr (fun _=>False) w1 u.drew:=hf.trans1 (Fr.drew _ _)
   refine n_rdS (h1.fr0 fd) gi rfl ⟨x.1,(r1.fr fd (fun h=>h)).cell rfl,jnC_mk (fun _=>?_)⟩
   dsimp only
   rw [gtr_cmp]
   refine vIf_mk (fun hlt'=>?_) (fun hnlt=>?_)
   ·have hlt':cmpN x.1 y.1 < 0:=of_decide_eq_true hlt'
    refine ⟨encN x,rfl,(r1.fr fd (fun h=>h)).cells (fun j v hj=>by simpa using hj),gd_mk rfl (push_n hrd (by have:=fd.size; omega) (by show S.1.length<=1073741824; omega) (fun A3 c3 w3 hr3 f3=>jnC_mk ?_))⟩
    have:=k9 w3 A3 c3 (S.1 ++ [x],true) (fr_own fd (fun q hq=>(hrd.1.blt hq).1) (Nat.le_refl _) f3) (by rw [if_pos ⟨hin,hlt'⟩]) (by rw [List.length_append]; simp; omega) (by rw [List.length_append]; exact hr3)
    rw [List.length_append] at this
    exact this
   ·have hnlt:¬ cmpN x.1 y.1 < 0:=of_decide_eq_false hnlt
    exact jnC_mk (k9 _ A' c' S fd (by rw [if_neg (fun h=>hnlt h.2)]) (by omega) hrd)
  ·have hin:S.2=true:=by simpa using hin
   refine jnC_mk (fun _=>vIf_f rfl (jnC_mk (k9 _ A' c' S (hf.trans1 (Fr.drew _ _)) (by rw [if_neg (fun h=>by rw [hin] at h; cases h.1)]) (by omega) (hr.fr0 (Fr.drew _ _)))))
 ·have hge2:¬ (i:Int) < (n:Int):=of_decide_eq_false hge
  have hin:i=n:=by omega
  subst hin
  have hput:=putS_fold x l [] ha
  rw [List.take_of_length_le (by omega)] at hr hfi ⊢
  generalize l.foldl (putS x) ([],false)=S at hput hr hfi ⊢
  rw [List.nil_append] at hput
  refine vIf_mk (fun hin=>?_) (fun hin=>?_)
  ·have hin:S.2=false:=by simpa using hin
   have e:putN x l=S.1 ++ [x]:=by rw [<- hput]; unfold putE; rw [if_neg (by rw [hin]; decide)]
   refine ⟨encN x,rfl,r1u.cells (fun j v hj=>by simpa using hj),gd_mk rfl (push_n hr (by omega) (by show S.1.length<=1073741824; omega) (fun A3 c3 w3 hr3 f3=>⟨?_,A3,c3,?_,?_⟩))⟩
   ·exact f1.trans1 (fr_own hf (fun q hq=>(hr.1.blt hq).1) (Nat.le_refl _) f3)
   ·rw [e,List.length_append]; rfl
   ·rw [e,List.length_append]; exact ⟨row_low hs1 hr3.1,hr3.2⟩
  ·have hin:S.2=true:=by simpa using hin
   have e:putN x l=S.1:=by rw [<- hput]; unfold putE; rw [if_pos hin]
   rw [e]
   exact ⟨f1.trans1 hf,A',c',rfl,row_low hs1 hr.1,hr.2⟩
end Go.Proofs.YthcdionpeoobbaaGreatDoor
namespace Go.Proofs.YthcdionpeoobbaaGreatDoor
open Go.GV Go.RowKit Go.Lib
theorem nil_iff (s:ByteArray):(s.toList == (⟨#[]⟩:ByteArray).toList)=decide (s.size=0):=by
 rw [ByteArray.toList_eq,ByteArray.toList_eq]
 have h:s.size=s.data.toList.length:=by rw [Array.length_toList]; rfl
 rw [h]
 cases hl:s.data.toList with
 | nil=>rfl
 | cons a r=>simp
def DiskP (s:ByteArray):Prop:=(∀ i,i < s.size->33<=byteAt s i/\byteAt s i<=126/\byteAt s i ≠ 47)/\1<=s.size/\s.size<=32
theorem disk_calls (s:ByteArray) (w:World) (hs:s.size<=1099511627775) :
  Calls Tryz.prog 15 #[.string s] w fun e w'=>(∃ t,e=.returned (.bool t)/\(t=true ↔ DiskP s))/\w'=w:=by
 refine (F15.of s w (Q:=fun v w'=>(∃ t,v=.bool t/\(t=true ↔ DiskP s))/\w'=w) ?_).mono (fun e w' ⟨v,he,⟨t,hv,h⟩,h'⟩=>⟨⟨t,by rw [he,hv],h⟩,h'⟩)
 have no:∀ u:World,u=w->¬ DiskP s->(∃ t,Value.bool false=.bool t/\(t=true ↔ DiskP s))/\u=w:=fun u hu h=>⟨⟨false,rfl,⟨(fun h=>by cases h),fun h'=>absurd h' h⟩⟩,hu⟩
 refine vIf_mk (fun h0=>no w rfl ?_) (fun h0=>vIf_mk (fun h32=>no w rfl ?_) (fun h32=>jnC_mk (fun _=>jnC_mk ?_)))
 ·rw [nil_iff] at h0
  have:=of_decide_eq_true h0
  intro h
  have:=h.2.1
  omega
 ·have h32:=of_decide_eq_true h32
  intro h
  have:=h.2.2
  omega
 ·rw [nil_iff] at h0
  have h0:=of_decide_eq_false h0
  have h32:=of_decide_eq_false h32
  refine loop_rule (fun p v=>v=w/\∃ i:Nat,i<=s.size/\p=(s,(s.size:Int),(i:Int),())/\∀ j,j < i->33<=byteAt s j/\byteAt s j<=126/\byteAt s j ≠ 47) (fun p _=>(s.size - p.2.2.1).toNat) ?_ _ _ ⟨rfl,0,by omega,rfl,fun j hj=>by omega⟩
  rintro p v C ⟨rfl,i,hi,rfl,hall⟩ hC _
  refine vIf_mk (fun hlt=>?_) (fun hge=>?_)
  ·have hlt2:(i:Int) < (s.size:Int):=of_decide_eq_true hlt
   refine gd_mk (decide_eq_true (by show (0:Int)<=(i:Int); omega)) (gd_mk hlt (vIf_mk (fun h1=>no v rfl ?_) (fun h1=>vIf_mk (fun h2=>no v rfl ?_) (fun h2=>vIf_mk (fun h3=>no v rfl ?_) (fun h3=>?_)))))
   ·have h1:byteAt s i < 33:=of_decide_eq_true h1
    intro h; have:=h.1 i (by omega); omega
   ·have h2:byteAt s i > 126:=of_decide_eq_true h2
    intro h; have:=h.1 i (by omega); omega
   ·have h3:byteAt s i=47:=by simpa using h3
    intro h; have:=h.1 i (by omega); omega
   ·have h1:¬ byteAt s i < 33:=of_decide_eq_false h1
    have h2:¬ byteAt s i > 126:=of_decide_eq_false h2
    have h3:byteAt s i ≠ 47:=by simpa using h3
    refine jnC_mk (hC _ _ ⟨rfl,i+1,by omega,by rw [ei i (by omega)],fun j hj=>?_⟩ ?_)
    ·by_cases hji:j=i
     ·subst hji; exact ⟨by omega,by omega,h3⟩
     ·exact hall j (by omega)
    ·show ((s.size:Int) - IntKind.wrap .i64 ((i:Int)+1)).toNat < ((s.size:Int) - (i:Int)).toNat
     rw [ei i (by omega)]; omega
  ·have hge2:¬ (i:Int) < (s.size:Int):=of_decide_eq_false hge
   exact ⟨⟨true,rfl,⟨fun _=>⟨fun j hj=>hall j (by omega),by omega,by omega⟩,fun _=>rfl⟩⟩,rfl⟩
theorem rdisk_calls (s:ByteArray) (w:World) (hs:s.size<=1099511627775) :
  Calls Tryz.prog 20 #[.string s] w fun e w'=>(∃ t,e=.returned (.bool t)/\(t=true ↔ DiskP s))/\w'=w:=by
 refine (F20.of s w (Q:=fun v w'=>(∃ t,v=.bool t/\(t=true ↔ DiskP s))/\w'=w) ?_).mono (fun e w' ⟨v,he,⟨t,hv,h⟩,h'⟩=>⟨⟨t,by rw [he,hv],h⟩,h'⟩)
 have no:∀ u:World,u=w->¬ DiskP s->(∃ t,Value.bool false=.bool t/\(t=true ↔ DiskP s))/\u=w:=fun u hu h=>⟨⟨false,rfl,⟨(fun h=>by cases h),fun h'=>absurd h' h⟩⟩,hu⟩
 refine jnC_mk (loop_rule (fun p v=>v=w/\∃ i:Nat,i<=s.size/\p=(s,(i:Int),())/\∀ j,j < i->33<=byteAt s j/\byteAt s j<=126/\byteAt s j ≠ 47) (fun p _=>(s.size - p.2.1).toNat) ?_ _ _ ⟨rfl,0,by omega,rfl,fun j hj=>by omega⟩)
 rintro p v C ⟨rfl,i,hi,rfl,hall⟩ hC _
 refine vIf_mk (fun hlt=>?_) (fun hge=>?_)
 ·have hlt2:(i:Int) < (s.size:Int):=of_decide_eq_true hlt
  have d0:decide (0<=(i:Int))=true:=decide_eq_true (by omega)
  refine gd_mk d0 (gd_mk hlt (vIf_mk (fun h1=>no v rfl ?_) (fun h1=>gd_mk d0 (gd_mk hlt (vIf_mk (fun h2=>no v rfl ?_) (fun h2=>gd_mk d0 (gd_mk hlt (vIf_mk (fun h3=>no v rfl ?_) (fun h3=>?_)))))))))
  ·have h1:byteAt s i<=32:=of_decide_eq_true h1
   intro h; have:=h.1 i (by omega); omega
  ·have h2:byteAt s i >= 127:=of_decide_eq_true h2
   intro h; have:=h.1 i (by omega); omega
  ·have h3:byteAt s i=47:=by simpa using h3
   intro h; have:=h.1 i (by omega); omega
  ·have h1:¬ byteAt s i<=32:=of_decide_eq_false h1
   have h2:¬ byteAt s i >= 127:=of_decide_eq_false h2
   have h3:byteAt s i ≠ 47:=by simpa using h3
   refine jnC_mk (hC _ _ ⟨rfl,i+1,by omega,by rw [ei i (by omega)],fun j hj=>?_⟩ ?_)
   ·by_cases hji:j=i
    ·subst hji; exact ⟨by omega,by omega,h3⟩
    ·exact hall j (by omega)
   ·show ((s.size:Int) - IntKind.wrap .i64 ((i:Int)+1)).toNat < ((s.size:Int) - (i:Int)).toNat
    rw [ei i (by omega)]; omega
 ·have hge2:¬ (i:Int) < (s.size:Int):=of_decide_eq_false hge
  refine vIf_mk (fun h1=>⟨⟨_,rfl,?_⟩,rfl⟩) (fun h1=>no v rfl ?_)
  ·have h1:(s.size:Int) >= 1:=of_decide_eq_true h1
   show decide ((s.size:Int)<=32)=true ↔ _
   rw [decide_eq_true_iff]
   exact ⟨fun h=>⟨fun j hj=>hall j (by omega),by omega,by omega⟩,fun h=>by have:=h.2.2; omega⟩
  ·have h1:¬ (s.size:Int) >= 1:=of_decide_eq_false h1
   intro h
   have:=h.2.1
   omega
end Go.Proofs.YthcdionpeoobbaaGreatDoor
namespace Go.Proofs.YthcdionpeoobbaaGreatDoor
open Go.GV Go.RowKit Go.Lib Go.Stb
set_option maxHeartbeats 1000000 in
theorem rbeh_calls (cs:List Value) (F:Fo) (n:Int) (w:World) (h:FoAt w cs F) (hb:FoB F) :
  Calls Tryz.prog 42 #[ofL cs,.int .i64 n] w fun e w'=>Fr (fun _=>False) w w'/\∃ A' c',e=.returned (.slice A' (behF F n).length c')/\NRow w' w.heap.size A' (behF F n).length c' (behF F n):=by
 refine (F42.of cs n w (Q:=fun v' w'=>Fr (fun _=>False) w w'/\∃ A' c',v'=.slice A' (behF F n).length c'/\NRow w' w.heap.size A' (behF F n).length c' (behF F n)) ?_).mono (fun e w' ⟨v,he,hf,A',c',hv,h⟩=>⟨hf,A',c',by rw [he,hv],h⟩)
 obtain ⟨A,m,c,A',m',c',rfl,hL,hP,hPc⟩:=h
 have hb:F.L.length+F.P.length<=349525:=hb
 have hLl:=hL.2
 have hPl:=hP.2
 refine nw_mk ?_
 have f1:Fr (fun _=>False) w (w.alloc (.cells [Value.slice A m c,.slice A' m' c'].toArray 36)):=Fr.alloc _ _ _
 have r1:=RecAt.new w [Value.slice A m c,.slice A' m' c'] 36
 have hs1:w.heap.size<=(w.alloc (.cells [Value.slice A m c,.slice A' m' c'].toArray 36)).heap.size:=f1.size
 generalize hb1:w.heap.size=b1 at r1 hs1 ⊢
 generalize w.alloc (.cells [Value.slice A m c,.slice A' m' c'].toArray 36)=w1 at f1 r1 hs1 ⊢
 refine ⟨A,m,c,r1.cell rfl,jnC_mk ?_⟩
 have hL1:=hL.fr0 f1
 have hP1:=hP.fr0 f1
 refine loop_rule (fun s u=>Fr (fun _=>False) w1 u/\∃ (i:Nat) (A2:Option Addr) (c2:Nat),i<=m/\s=(n,(b1,0),(A2,(lastN (F.L.drop i)).length,c2),((i:Int) - 1),())/\NRow u w1.heap.size A2 (lastN (F.L.drop i)).length c2 (lastN (F.L.drop i)))
  (fun s _=>(s.2.2.2.1+1).toNat) ?_ _ _ ⟨Fr.refl _ _,m,none,0,by omega,by rw [List.drop_of_length_le (by omega),i64_id (by omega) (by omega)]; rfl,by rw [List.drop_of_length_le (by omega)]; exact ⟨Row.nil _ _ _ _,rfl⟩⟩
 rintro s u C3 ⟨hf,i,A2,c2,hi,rfl,h2⟩ hC3 _
 have r1u:=r1.fr hf (fun h=>h)
 refine vIf_mk (fun hge=>?_) (fun hlt=>?_)
 ·have hge2:((i:Int) - 1) >= 0:=of_decide_eq_true hge
  obtain ⟨j,rfl⟩:∃ j,i=j+1:=⟨i - 1,by omega⟩
  have ej:(((j+1:Nat):Int) - 1)=(j:Int):=by omega
  have gi:F.L[j]?=some (F.L[j]'(by omega)):=List.getElem?_eq_getElem (by omega)
  generalize F.L[j]'(by omega)=x at gi
  have hd:lastN (F.L.drop j)=putN x (lastN (F.L.drop (j+1))):=by rw [drop_at gi]; rfl
  have hll:=lastN_len (F.L.drop (j+1))
  rw [List.length_drop] at hll
  refine ⟨A,m,c,r1u.cell rfl,n_rd (hL1.fr0 hf) gi ej ((rput_calls A2 _ c2 _ x u h2.sl (lastN_asc _) (by omega)).mono ?_)⟩
  rintro r u2 ⟨f2,A3,c3,rfl,h3⟩
  rw [<- hd] at h3 ⊢
  refine ⟨_,_,_,rfl,jnC_mk (hC3 _ _ ⟨hf.trans1 f2,j,A3,c3,by omega,?_,row_low hf.size h3.1,h3.2⟩ ?_)⟩
  ·show (_,_,_,IntKind.wrap .i64 ((((j+1:Nat):Int) - 1) - 1),())=_
   rw [ej,i64_id (by omega) (by omega)]
  ·show (IntKind.wrap .i64 ((((j+1:Nat):Int) - 1) - 1)+1).toNat < ((((j+1:Nat):Int) - 1)+1).toNat
   rw [ej,i64_id (by omega) (by omega)]; omega
 ·have hlt2:¬ ((i:Int) - 1) >= 0:=of_decide_eq_false hlt
  have hi0:i=0:=by omega
  subst hi0
  rw [List.drop_zero] at h2 ⊢
  clear hC3
  refine jnC_mk ?_
  refine loop_rule (fun s u=>Fr (fun _=>False) w1 u/\∃ (i:Nat) (A2:Option Addr) (c2:Nat),i<=cnt n F.P/\s=(n,(b1,0),(A2,(behN F.L (F.P.take i)).length,c2),(i:Int),())/\NRow u w1.heap.size A2 (behN F.L (F.P.take i)).length c2 (behN F.L (F.P.take i)))
   (fun s _=>(F.P.length - s.2.2.2.1).toNat) ?_ _ _ ⟨hf,0,A2,c2,by omega,rfl,h2⟩
  clear hf h2 r1u
  rintro s u C ⟨hf,i,A3,c3,hi,rfl,h3⟩ hC _
  have hcl:=cnt_le n F.P
  have r1u:=r1.fr hf (fun h=>h)
  have done:i=cnt n F.P->(Fr (fun _=>False) w u/\∃ A' c',Value.slice A3 (behN F.L (F.P.take i)).length c3=.slice A' (behF F n).length c'/\NRow u b1 A' (behF F n).length c' (behF F n)):=by
   intro e
   have e2:behF F n=behN F.L (F.P.take i):=by unfold behF; rw [e]
   rw [e2]
   exact ⟨f1.trans1 hf,A3,c3,rfl,row_low hs1 h3.1,h3.2⟩
  refine ⟨A',m',c',r1u.cell rfl,vIf_mk (fun hlt=>vIf_mk (fun hn=>jnC_mk (fun _=>?_)) (fun hn=>?_)) (fun hge=>?_)⟩
  rotate_left
  ·have hlt2:(i:Int) < (m':Int):=of_decide_eq_true hlt
   have hn2:¬ (i:Int) < n:=of_decide_eq_false hn
   refine done ?_
   unfold cnt at hi ⊢
   split at hi
   ·rw [if_pos (by assumption)]; omega
   ·rw [if_neg (by assumption)]; omega
  ·have hge2:¬ (i:Int) < (m':Int):=of_decide_eq_false hge
   exact done (by omega)
  have hlt2:(i:Int) < (m':Int):=of_decide_eq_true hlt
  have hn2:(i:Int) < n:=of_decide_eq_true hn
  have gi:F.P[i]?=some (F.P[i]'(by omega)):=List.getElem?_eq_getElem (by omega)
  generalize F.P[i]'(by omega)=x at gi
  have hst:=behN_step (L:=F.L) gi
  have hasc:=behN_asc F.L (F.P.take i)
  have hbl:=behN_len F.L (F.P.take i)
  have htl:(F.P.take i).length<=F.P.length:=by rw [List.length_take]; omega
  have hicnt:i+1<=cnt n F.P:=by unfold cnt; rw [if_neg (by omega)]; omega
  generalize behN F.L (F.P.take i)=l at hst hasc hbl h3 done ⊢
  have next:∀ (v:World) (A4:Option Addr) (c4:Nat),Fr (fun _=>False) w1 v->NRow v w1.heap.size A4 (stepN l x).length c4 (stepN l x)->C (n,(b1,0),(A4,(stepN l x).length,c4),IntKind.wrap .i64 ((i:Int)+1),()) v:=by
   intro v A4 c4 fv hv
   refine hC _ _ ⟨fv,i+1,A4,c4,hicnt,by rw [hst,ei i (by omega)],by rw [hst]; exact hv⟩ ?_
   show ((F.P.length:Int) - IntKind.wrap .i64 ((i:Int)+1)).toNat < ((F.P.length:Int) - (i:Int)).toNat
   rw [ei i (by omega)]; omega
  refine ⟨A',m',c',r1u.cell rfl,c_rd (hP1.fr0 hf) gi rfl (ch_var (fun b u2 g2 r2=>⟨x.nm,r2.cell rfl,(rfind_calls A3 _ c3 l x.nm u2 (h3.sl.fr0 g2) (by omega)).mono ?_⟩))⟩
  rintro r u3 ⟨rfl,g3⟩
  have g23:=g2.trans1 g3
  have fv:=hf.trans1 g23
  have r3:=r2.fr g3 (fun h=>h)
  have h3v:=h3.fr0 g23
  refine ⟨_,_,rfl,x.k,r3.cell rfl,vIf_mk (fun hk=>?_) (fun hk=>?_)⟩
  ·have hk:x.k=1:=by simpa using hk
   have e:stepN l x=putN (x.nm,x.id) l:=if_pos hk
   refine ⟨x.nm,r3.cell rfl,x.id,r3.cell rfl,(rput_calls A3 _ c3 l (x.nm,x.id) u3 h3v.sl hasc (by omega)).mono ?_⟩
   rintro r u4 ⟨g4,A4,c4,rfl,h4⟩
   rw [<- e] at h4 ⊢
   have r4:=r3.fr g4 (fun h=>h)
   refine ⟨_,_,_,rfl,jnC_mk (fun _=>⟨x.k,r4.cell rfl,vIf_f (by rw [hk]; rfl) (jnC_mk (fun _=>vIf_f rfl (jnC_mk (fun _=>⟨x.k,r4.cell rfl,vIf_f (by rw [hk]; rfl) (jnC_mk (next _ A4 c4 (fv.trans1 g4) ⟨row_low fv.size h4.1,h4.2⟩))⟩))))⟩)⟩
  ·have hk:¬ x.k=1:=by simpa using hk
   refine jnC_mk (fun _=>⟨x.k,r3.cell rfl,vIf_mk (fun hk2=>jnC_mk (fun _=>?_)) (fun hk2=>jnC_mk (fun _=>?_))⟩)
   ·have hk2:x.k=2:=by simpa using hk2
    refine vIf_mk (fun hin=>?_) (fun hin=>?_)
    ·cases hfd:findN x.nm l with
     | none=>rw [hfd] at hin; cases hin
     | some id =>
      have e:stepN l x=putN (x.to,id) (woN x.nm l):=by unfold stepN; rw [if_neg hk,if_pos hk2,hfd]
      have hwl:=woN_len x.nm l
      have rd:=r3.fr (Fr.drew (fun _=>False) u3) (fun h=>h)
      refine ⟨x.nm,rd.cell rfl,x.to,rd.cell rfl,(rwo_calls A3 _ c3 l x.nm u3.drew (h3v.fr0 (Fr.drew _ _)).sl (by omega)).mono ?_⟩
      rintro r u4 ⟨g4,A4,c4,rfl,h4⟩
      have fv4:=(fv.trans1 (Fr.drew _ _)).trans1 g4
      refine ⟨_,_,_,rfl,kp_mk g4 rd.lt (fun h=>h) ((rput_calls A4 _ c4 _ (x.to,id) u4 h4.sl (woN_asc _ hasc) (by omega)).mono ?_)⟩
      rintro r u5 ⟨g5,A5,c5,rfl,h5⟩
      rw [<- e] at h5 ⊢
      have r5:=(rd.fr g4 (fun h=>h)).fr g5 (fun h=>h)
      exact ⟨_,_,_,rfl,jnC_mk (fun _=>⟨x.k,r5.cell rfl,vIf_f (by rw [hk2]; rfl) (jnC_mk (next _ A5 c5 (fv4.trans1 g5) ⟨row_low fv4.size h5.1,h5.2⟩))⟩)⟩
    ·cases hfd:findN x.nm l with
     | some id=>rw [hfd] at hin; cases hin
     | none =>
      have e:stepN l x=l:=by unfold stepN; rw [if_neg hk,if_pos hk2,hfd]
      rw [e] at next
      exact jnC_mk (fun _=>⟨x.k,r3.cell rfl,vIf_f (by rw [hk2]; rfl) (jnC_mk (next _ A3 c3 fv h3v))⟩)
   ·have hk2:¬ x.k=2:=by simpa using hk2
    refine vIf_f rfl (jnC_mk (fun _=>⟨x.k,r3.cell rfl,vIf_mk (fun hk3=>?_) (fun hk3=>?_)⟩))
    ·have hk3:x.k=3:=by simpa using hk3
     have e:stepN l x=woN x.nm l:=by unfold stepN; rw [if_neg hk,if_neg hk2,if_pos hk3]
     refine ⟨x.nm,r3.cell rfl,(rwo_calls A3 _ c3 l x.nm u3 h3v.sl (by omega)).mono ?_⟩
     rintro r u4 ⟨g4,A4,c4,rfl,h4⟩
     rw [<- e] at h4 ⊢
     exact ⟨_,_,_,rfl,jnC_mk (next _ A4 c4 (fv.trans1 g4) ⟨row_low fv.size h4.1,h4.2⟩)⟩
    ·have hk3:¬ x.k=3:=by simpa using hk3
     have e:stepN l x=l:=by unfold stepN; rw [if_neg hk,if_neg hk2,if_neg hk3]
     rw [e] at next
     exact jnC_mk (next _ A3 c3 fv h3v)
def nowF (F:Fo):List Nm:=behF F (F.P.length:Nat)
theorem nowF_asc (F:Fo):AscN (nowF F):=behF_asc _ _
theorem nowF_len (F:Fo):(nowF F).length<=F.L.length+F.P.length:=behF_len _ _
theorem fo_new {w:World} {cs:List Value} {K:Nat->World->Prop} (hK:∀ b w',Fr (fun _=>False) w w'->w.heap.size<=b->RecAt w' b 36 cs->K b w'):nw w cs 36 K :=
 nw_mk (hK _ _ (Fr.alloc _ _ _) (Nat.le_refl _) (RecAt.new w cs 36))
theorem rec_rd {w:World} {b:Nat} {e:TypeId} {cs:List Value} (h:RecAt w b e cs):cellsAt w b 0 cs:=h.cells (fun j v hj=>by simpa using hj)
theorem fo_st {w:World} {b:Nat} {e:TypeId} {cs y:List Value} (h:RecAt w b e cs) (hy:y.length=cs.length) (ho:∀ v ∈ y,v.oneCell'=true) {K:World->Prop} (hK:∀ w',Fr (fun k=>k=b) w w'->RecAt w' b e y->K w'):st w b 0 y K :=
 h.st_mk (o:=0) (by omega) ho (fun r2 f2=>hK _ f2 (by rw [splice_full hy] at r2; exact r2))
theorem now_calls (cs:List Value) (F:Fo) (w:World) (h:FoAt w cs F) (hb:FoB F) :
  Calls Tryz.prog 37 #[ofL cs] w fun e w'=>Fr (fun _=>False) w w'/\∃ A' c',e=.returned (.slice A' (nowF F).length c')/\NRow w' w.heap.size A' (nowF F).length c' (nowF F):=by
 refine (F37.of cs w (Q:=fun v w'=>Fr (fun _=>False) w w'/\∃ A' c',v=.slice A' (nowF F).length c'/\NRow w' w.heap.size A' (nowF F).length c' (nowF F)) ?_).mono (fun e w' ⟨v,he,hf,A',c',hv,h⟩=>⟨hf,A',c',by rw [he,hv],h⟩)
 refine fo_new (fun b w1 f1 _ r1=>⟨cs,h.len,rec_rd r1,?_⟩)
 have h1:=h.fr0 f1
 obtain ⟨A,m,c,A',m',c',rfl,hL,hP,hPc⟩:=h
 refine ⟨A',m',c',r1.cell rfl,(beh_calls _ F _ w1 h1 hb).mono ?_⟩
 rintro r w2 ⟨f2,A2,c2,rfl,h2⟩
 have e:behF F ((m':Nat):Int)=nowF F:=by unfold nowF; rw [hP.2]
 rw [e] at h2 ⊢
 exact ⟨_,_,_,rfl,f1.trans1 f2,A2,c2,rfl,row_low f1.size h2.1,h2.2⟩
theorem rnow_calls (cs:List Value) (F:Fo) (w:World) (h:FoAt w cs F) (hb:FoB F) :
  Calls Tryz.prog 21 #[ofL cs] w fun e w'=>Fr (fun _=>False) w w'/\∃ A' c',e=.returned (.slice A' (nowF F).length c')/\NRow w' w.heap.size A' (nowF F).length c' (nowF F):=by
 refine (F21.of cs w (Q:=fun v w'=>Fr (fun _=>False) w w'/\∃ A' c',v=.slice A' (nowF F).length c'/\NRow w' w.heap.size A' (nowF F).length c' (nowF F)) ?_).mono (fun e w' ⟨v,he,hf,A',c',hv,h⟩=>⟨hf,A',c',by rw [he,hv],h⟩)
 refine fo_new (fun b w1 f1 _ r1=>⟨cs,h.len,rec_rd r1,?_⟩)
 have h1:=h.fr0 f1
 obtain ⟨A,m,c,A',m',c',rfl,hL,hP,hPc⟩:=h
 refine ⟨A',m',c',r1.cell rfl,(rbeh_calls _ F _ w1 h1 hb).mono ?_⟩
 rintro r w2 ⟨f2,A2,c2,rfl,h2⟩
 have e:behF F ((m':Nat):Int)=nowF F:=by unfold nowF; rw [hP.2]
 rw [e] at h2 ⊢
 exact ⟨_,_,_,rfl,f1.trans1 f2,A2,c2,rfl,row_low f1.size h2.1,h2.2⟩
theorem find_calls (cs:List Value) (F:Fo) (s:ByteArray) (w:World) (h:FoAt w cs F) (hb:FoB F) :
  Calls Tryz.prog 14 #[ofL cs,.string s] w fun e w'=>e=.returned (.tuple #[.int .i64 ((findN s (nowF F)).getD 0),.bool (findN s (nowF F)).isSome])/\Fr (fun _=>False) w w':=by
 refine (F14.of cs s w (Q:=fun v w'=>v=.tuple #[.int .i64 ((findN s (nowF F)).getD 0),.bool (findN s (nowF F)).isSome]/\Fr (fun _=>False) w w') ?_).mono (fun e w' ⟨v,he,hv,h⟩=>⟨by rw [he,hv],h⟩)
 have hnl:=nowF_len F
 have hb':F.L.length+F.P.length<=349525:=hb
 refine fo_new (fun b w1 f1 _ r1=>⟨cs,h.len,rec_rd r1,(now_calls cs F w1 (h.fr0 f1) hb).mono ?_⟩)
 rintro r w2 ⟨f2,A2,c2,rfl,h2⟩
 refine ⟨_,_,_,rfl,(bsN_calls A2 _ c2 _ s w2 h2.sl (nowF_asc F) (by omega)).mono ?_⟩
 rintro r w3 ⟨f3,i,rfl,hp⟩
 have f:=(f1.trans1 f2).trans1 f3
 refine ⟨_,_,rfl,vIf_mk (fun hi=>?_) (fun hi=>?_)⟩
 ·have hi:isN s i (nowF F)=false:=by simpa using hi
  rw [(wo_out hp (nowF_asc F) hi).2]
  exact ⟨rfl,f⟩
 ·have hi:isN s i (nowF F)=true:=by simpa using hi
  obtain ⟨x,hx,hs⟩:=isN_at hi
  refine n_rdI (h2.sl.fr0 f3) hx rfl ?_
  rw [find_in hp hx hs]
  exact ⟨rfl,f⟩
theorem rfindF_calls (cs:List Value) (F:Fo) (s:ByteArray) (w:World) (h:FoAt w cs F) (hb:FoB F) :
  Calls Tryz.prog 19 #[ofL cs,.string s] w fun e w'=>e=.returned (.tuple #[.int .i64 ((findN s (nowF F)).getD 0),.bool (findN s (nowF F)).isSome])/\Fr (fun _=>False) w w':=by
 refine (F19.of cs s w (Q:=fun v w'=>v=.tuple #[.int .i64 ((findN s (nowF F)).getD 0),.bool (findN s (nowF F)).isSome]/\Fr (fun _=>False) w w') ?_).mono (fun e w' ⟨v,he,hv,h⟩=>⟨by rw [he,hv],h⟩)
 have hnl:=nowF_len F
 have hb':F.L.length+F.P.length<=349525:=hb
 refine fo_new (fun b w1 f1 _ r1=>⟨cs,h.len,rec_rd r1,(rnow_calls cs F w1 (h.fr0 f1) hb).mono ?_⟩)
 rintro r w2 ⟨f2,A2,c2,rfl,h2⟩
 refine ⟨_,_,_,rfl,(rfind_calls A2 _ c2 _ s w2 h2.sl (by omega)).mono ?_⟩
 rintro r w3 ⟨rfl,f3⟩
 exact ⟨_,_,rfl,rfl,(f1.trans1 f2).trans1 f3⟩
theorem oneP {A A':Option Addr} {n c n' c':Nat}:∀ v ∈ [Value.slice A n c] ++ ([Value.slice A' n' c'] ++ []),v.oneCell'=true:=by
 intro v hv
 simp at hv
 rcases hv with rfl | rfl <;> rfl
theorem fo_of {w:World} {B:Nat} {A:Option Addr} {c:Nat} {l:List Nm} (h:NRow w B A l.length c l):FoAt w [.slice A l.length c,.slice none 0 0] ⟨l,[]⟩ :=
 ⟨A,_,c,none,0,0,rfl,h.sl,⟨Sl.nil _ _ _,rfl⟩,Nat.le_refl _⟩
theorem sync_calls (cs:List Value) (F:Fo) (w:World) (h:FoAt w cs F) (hb:FoB F) :
  Calls Tryz.prog 17 #[ofL cs] w fun e w'=>Fr (fun _=>False) w w'/\∃ cs',e=.returned (ofL cs')/\FoAt w' cs' ⟨nowF F,[]⟩:=by
 refine (F17.of cs w (Q:=fun v w'=>Fr (fun _=>False) w w'/\∃ cs',v=ofL cs'/\FoAt w' cs' ⟨nowF F,[]⟩) ?_).mono (fun e w' ⟨v,he,hf,cs',hv,h⟩=>⟨hf,cs',by rw [he,hv],h⟩)
 refine fo_new (fun b w1 f1 _ r1=>fo_new (fun b3 w2 f2 hb3 r3=>⟨cs,h.len,rec_rd (r1.fr f2 (fun h=>h)),(now_calls cs F w2 (h.fr0 (f1.trans1 f2)) hb).mono ?_⟩))
 rintro r w3 ⟨f3,A3,c3,rfl,h3⟩
 have hs1:=f1.size
 have hs2:=f2.size
 have hlt:=r3.lt
 refine ⟨_,_,_,rfl,gd_mk rfl (fo_st (r3.fr f3 (fun h=>h)) (by rfl) oneP (fun w4 f4 r4=>⟨_,rfl,rec_rd r4,?_,_,rfl,?_⟩))⟩
 ·exact ((f1.trans1 f2).trans1 f3).trans f4 (fun _ _ h=>h) (fun k hk h=>by omega)
 ·exact fo_of (B:=w2.heap.size) ⟨f4.row h3.1 (fun k hk h=>by have:=(h3.1.blt hk).1; omega),h3.2⟩
end Go.Proofs.YthcdionpeoobbaaGreatDoor
namespace Go.Proofs
open Go.Shelf
def Tryz.sortI_ren:Go.Shelf.Ren:=⟨fun | 189=>44 | 125=>80 | 257=>79 | 128=>136 | 129=>137 | 294=>127 | 295=>128 | 296=>129 | 297=>130 | 298=>131 | 299=>132 | 216=>133 | 300=>134 | 301=>135 | 328=>165 | 329=>166 | 330=>167 | 331=>168 | 332=>169 | 215=>170 | 343=>188 | n=>n,fun | 28=>73 | 3=>3 | 46=>142 | 0=>0 | 51=>170 | 53=>41 | 4=>4 | 183=>217 | 182=>216 | 131=>55 | 5=>5 | 9=>9 | 218=>249 | 222=>252 | 228=>274 | 229=>275 | n=>n,fun | n=>n⟩
theorem Tryz.sortI:Go.Proofs.Lays.n189 Tryz.prog Tryz.sortI_ren:={
 mixed:=by kernel_rfl
 f125:=Tryz.func80.trans (congrArg some (by kernel_rfl))
 f128:=Tryz.func136.trans (congrArg some (by kernel_rfl))
 f129:=Tryz.func137.trans (congrArg some (by kernel_rfl))
 f189:=Tryz.func44.trans (congrArg some (by kernel_rfl))
 f215:=Tryz.func170.trans (congrArg some (by kernel_rfl))
 f216:=Tryz.func133.trans (congrArg some (by kernel_rfl))
 f257:=Tryz.func79.trans (congrArg some (by kernel_rfl))
 f294:=Tryz.func127.trans (congrArg some (by kernel_rfl))
 f295:=Tryz.func128.trans (congrArg some (by kernel_rfl))
 f296:=Tryz.func129.trans (congrArg some (by kernel_rfl))
 f297:=Tryz.func130.trans (congrArg some (by kernel_rfl))
 f298:=Tryz.func131.trans (congrArg some (by kernel_rfl))
 f299:=Tryz.func132.trans (congrArg some (by kernel_rfl))
 f300:=Tryz.func134.trans (congrArg some (by kernel_rfl))
 f301:=Tryz.func135.trans (congrArg some (by kernel_rfl))
 f328:=Tryz.func165.trans (congrArg some (by kernel_rfl))
 f329:=Tryz.func166.trans (congrArg some (by kernel_rfl))
 f330:=Tryz.func167.trans (congrArg some (by kernel_rfl))
 f331:=Tryz.func168.trans (congrArg some (by kernel_rfl))
 f332:=Tryz.func169.trans (congrArg some (by kernel_rfl))
 f343:=Tryz.func188.trans (congrArg some (by kernel_rfl))
 t0:=Tryz.underlying0
 a0:=Tryz.isAgg0
 z0:=Tryz.sizeOf0
 v0:=Tryz.zeroValue0
 t3:=Tryz.underlying3
 a3:=Tryz.isAgg3
 z3:=Tryz.sizeOf3
 v3:=Tryz.zeroValue3
 t4:=Tryz.underlying4
 a4:=Tryz.isAgg4
 z4:=Tryz.sizeOf4
 v4:=Tryz.zeroValue4
 t5:=Tryz.underlying5
 a5:=Tryz.isAgg5
 z5:=Tryz.sizeOf5
 v5:=Tryz.zeroValue5
 t9:=Tryz.underlying9
 a9:=Tryz.isAgg9
 z9:=Tryz.sizeOf9
 v9:=Tryz.zeroValue9
 t28:=Tryz.underlying73
 a28:=Tryz.isAgg73
 z28:=Tryz.sizeOf73
 v28:=Tryz.zeroValue73
 t46:=Tryz.underlying142
 a46:=Tryz.isAgg142
 z46:=Tryz.sizeOf142
 v46:=Tryz.zeroValue142
 t51:=Tryz.underlying170
 a51:=Tryz.isAgg170
 z51:=Tryz.sizeOf170
 v51:=Tryz.zeroValue170
 t53:=Tryz.underlying41
 a53:=Tryz.isAgg41
 z53:=Tryz.sizeOf41
 v53:=Tryz.zeroValue41
 t131:=Tryz.underlying55
 a131:=Tryz.isAgg55
 z131:=Tryz.sizeOf55
 v131:=Tryz.zeroValue55
 t182:=Tryz.underlying216
 a182:=Tryz.isAgg216
 z182:=Tryz.sizeOf216
 v182:=Tryz.zeroValue216
 t183:=Tryz.underlying217
 a183:=Tryz.isAgg217
 z183:=Tryz.sizeOf217
 v183:=Tryz.zeroValue217
 t218:=Tryz.underlying249
 a218:=Tryz.isAgg249
 z218:=Tryz.sizeOf249
 v218:=Tryz.zeroValue249
 t222:=Tryz.underlying252
 a222:=Tryz.isAgg252
 z222:=Tryz.sizeOf252
 v222:=Tryz.zeroValue252
 t228:=Tryz.underlying274
 a228:=Tryz.isAgg274
 z228:=Tryz.sizeOf274
 v228:=Tryz.zeroValue274
 t229:=Tryz.underlying275
 a229:=Tryz.isAgg275
 z229:=Tryz.sizeOf275
 v229:=Tryz.zeroValue275 }
end Go.Proofs
namespace Go.Proofs.YthcdionpeoobbaaGreatDoor
open Go.GV Go.RowKit Go.Lib
def addS (n:Int) (s:List Int×Bool) (x:Int):List Int×Bool :=
 if !s.2 && decide (n<=x) then ((if n < x then s.1 ++ [n] else s.1) ++ [x],true) else (s.1 ++ [x],s.2)
def addI (l:List Int) (n:Int):List Int :=
 if (l.foldl (addS n) ([],false)).2 then (l.foldl (addS n) ([],false)).1 else (l.foldl (addS n) ([],false)).1 ++ [n]
def addR (n:Int):List Int->List Int
 | []=>[n]
 | x :: xs=>if n<=x then (if n < x then n :: x :: xs else x :: xs) else x :: addR n xs
theorem addS_done (n:Int):∀ (l o:List Int),l.foldl (addS n) (o,true)=(o ++ l,true)
 | [],o=>by simp
 | x :: xs,o=>by
  show xs.foldl (addS n) (addS n (o,true) x)=_
  have:addS n (o,true) x=(o ++ [x],true):=by simp [addS]
  rw [this,addS_done n xs (o ++ [x])]
  simp
theorem addS_fold (n:Int):∀ (l o:List Int),(if (l.foldl (addS n) (o,false)).2 then (l.foldl (addS n) (o,false)).1 else (l.foldl (addS n) (o,false)).1 ++ [n])=o ++ addR n l
 | [],o=>by simp [addR]
 | x :: xs,o=>by
  show (if (xs.foldl (addS n) (addS n (o,false) x)).2 then (xs.foldl (addS n) (addS n (o,false) x)).1 else (xs.foldl (addS n) (addS n (o,false) x)).1 ++ [n])=_
  unfold addR
  by_cases h:n<=x
  ·have e:addS n (o,false) x=((if n < x then o ++ [n] else o) ++ [x],true):=by simp [addS,h]
   rw [e,addS_done]
   rw [if_pos rfl,if_pos h]
   by_cases h2:n < x
   ·rw [if_pos h2,if_pos h2]; simp
   ·rw [if_neg h2,if_neg h2]; simp
  ·have e:addS n (o,false) x=(o ++ [x],false):=by simp [addS,h]
   rw [e,addS_fold n xs (o ++ [x]),if_neg h]
   simp
theorem addI_eq (l:List Int) (n:Int):addI l n=addR n l:=addS_fold n l []
theorem addR_mem (n:Int):∀ (l:List Int) (y:Int),y ∈ addR n l ↔ y=n\/y ∈ l
 | [],y=>by simp [addR]
 | x :: xs,y=>by
  unfold addR
  by_cases h:n<=x
  ·rw [if_pos h]
   by_cases h2:n < x
   ·rw [if_pos h2]; simp
   ·rw [if_neg h2]
    have:n=x:=by omega
    subst this
    simp
  ·rw [if_neg h]
   simp only [List.mem_cons,addR_mem n xs y]
   constructor
   ·rintro (h1 | h1 | h1)
    ·exact .inr (.inl h1)
    ·exact .inl h1
    ·exact .inr (.inr h1)
   ·rintro (h1 | h1 | h1)
    ·exact .inr (.inl h1)
    ·exact .inl h1
    ·exact .inr (.inr h1)
def AscI (l:List Int):Prop:=l.Pairwise (· < ·)
theorem addR_asc (n:Int):∀ {l:List Int},AscI l->AscI (addR n l)
 | [],_=>List.pairwise_singleton _ _
 | x :: xs,h=>by
  unfold addR
  have hc:=List.pairwise_cons.1 h
  by_cases h1:n<=x
  ·rw [if_pos h1]
   by_cases h2:n < x
   ·rw [if_pos h2]
    refine List.pairwise_cons.2 ⟨fun y hy=>?_,h⟩
    rcases List.mem_cons.1 hy with rfl | hy
    ·exact h2
    ·have:=hc.1 y hy; omega
   ·rw [if_neg h2]; exact h
  ·rw [if_neg h1]
   refine List.pairwise_cons.2 ⟨fun y hy=>?_,addR_asc n hc.2⟩
   rcases (addR_mem n xs y).1 hy with rfl | hy
   ·omega
   ·exact hc.1 y hy
theorem AscI.unique:∀ {a b:List Int},AscI a->AscI b->(∀ x,x ∈ a ↔ x ∈ b)->a=b
 | [],[],_,_,_=>rfl
 | [],y :: ys,_,_,h=>absurd ((h y).2 (List.mem_cons_self ..)) (by simp)
 | x :: xs,[],_,_,h=>absurd ((h x).1 (List.mem_cons_self ..)) (by simp)
 | x :: xs,y :: ys,ha,hb,h=>by
  have ha':=List.pairwise_cons.1 ha
  have hb':=List.pairwise_cons.1 hb
  have hxy:x=y:=by
   rcases List.mem_cons.1 ((h x).1 (List.mem_cons_self ..)) with e | e
   ·exact e
   ·rcases List.mem_cons.1 ((h y).2 (List.mem_cons_self ..)) with e' | e'
    ·exact e'.symm
    ·have:=hb'.1 x e; have:=ha'.1 y e'; omega
  subst hxy
  congr 1
  refine AscI.unique ha'.2 hb'.2 (fun z=>?_)
  constructor
  ·intro hz
   rcases List.mem_cons.1 ((h z).1 (List.mem_cons_of_mem _ hz)) with e | e
   ·subst e; have:=ha'.1 z hz; omega
   ·exact e
  ·intro hz
   rcases List.mem_cons.1 ((h z).2 (List.mem_cons_of_mem _ hz)) with e | e
   ·subst e; have:=hb'.1 z hz; omega
   ·exact e
def norm (l:List Int):List Int:=l.foldl addI []
theorem norm_both:∀ (l:List Int) (acc:List Int),AscI acc->AscI (l.foldl addI acc)/\∀ y,y ∈ l.foldl addI acc ↔ y ∈ acc\/y ∈ l
 | [],acc,h=>⟨h,by simp⟩
 | x :: xs,acc,h=>by
  obtain ⟨h1,h2⟩:=norm_both xs (addI acc x) (by rw [addI_eq]; exact addR_asc x h)
  refine ⟨h1,fun y=>?_⟩
  show y ∈ xs.foldl addI (addI acc x) ↔ _
  rw [h2,addI_eq,addR_mem,List.mem_cons]
  constructor
  ·rintro ((h3 | h3) | h3)
   ·exact .inr (.inl h3)
   ·exact .inl h3
   ·exact .inr (.inr h3)
  ·rintro (h3 | h3 | h3)
   ·exact .inl (.inr h3)
   ·exact .inl (.inl h3)
   ·exact .inr h3
theorem norm_asc (l:List Int):AscI (norm l):=(norm_both l [] List.Pairwise.nil).1
theorem norm_mem (l:List Int) (y:Int):y ∈ norm l ↔ y ∈ l:=by rw [norm,(norm_both l [] List.Pairwise.nil).2]; simp
theorem norm_eq {l r:List Int} (h:AscI r) (hm:∀ y,y ∈ r ↔ y ∈ l):r=norm l:=h.unique (norm_asc l) (fun y=>by rw [hm,norm_mem])
theorem addR_len (n:Int):∀ l:List Int,(addR n l).length<=l.length+1
 | []=>by simp [addR]
 | x :: xs=>by
  unfold addR
  split
  ·split <;> simp
  ·have:=addR_len n xs; simp; omega
theorem norm_len (l:List Int):(norm l).length<=l.length:=by
 have h:∀ (l acc:List Int),(l.foldl addI acc).length<=acc.length+l.length:=by
  intro l
  induction l with
  | nil=>intro acc; simp
  | cons x xs ih =>
   intro acc
   have h1:=ih (addI acc x)
   have h2:=addR_len x acc
   rw [<- addI_eq] at h2
   show (xs.foldl addI (addI acc x)).length<=_
   simp; omega
 have:=h l []
 simp only [List.length_nil,Nat.zero_add] at this
 exact this
theorem sort_nil (c:Nat) (w:World):Calls Tryz.prog 44 #[.slice none 0 c] w fun e w'=>e=.returned (.tuple #[])/\w'=w :=
 Any.slices_Sort_int_none Tryz.sortI none c w
open Go.Sort in
theorem sort_int (B:Nat) (e:TypeId) (b c:Nat) (l:List Int) (n:Nat) (w:World) (h:Row w B e 1 (some ⟨b,0,none⟩) n c (ivs l)) (hn:n < 4611686018427387904) :
  Calls Tryz.prog 44 #[.slice (some ⟨b,0,none⟩) n c] w fun e' w'=>e'=.returned (.tuple #[])/\Fr (fun k=>k=b) w w'/\∃ r,Row w' B e 1 (some ⟨b,0,none⟩) n c (ivs r)/\r.Perm l/\r.Pairwise (·<=·):=by
 have hrl:=sl_n h.sl
 have hlen:=h.len
 rcases h.at_ with ⟨h',_⟩ | ⟨b',cs,hA,hB,hh,hs,ht⟩
 ·cases h'
 injection hA with hA
 injection hA with hA
 subst hA
 have hH:Holds (Value.int .i64) w b 0 l.toArray:=by
  intro j hj
  have hj2:j < l.length:=by simpa using hj
  have e1:l.toArray[j]! = l[j]'hj2:=by
   rw [getElem!_pos l.toArray j hj]; simp
  rw [e1]
  constructor
  ·exact cellsAt_take hh ht j _ (ivs_at (at_lt hj2))
  ·simp [World.frozen?,hh]
 have hcon:=Any.slices_Sort_int Tryz.sortI b 0 c l w hH (heap_lt hh) (by omega)
 rw [hrl] at hcon
 refine Calls.mono hcon ?_
 rintro e' w' ⟨rfl,q,os,rfl⟩
 generalize hd:l.mergeSort (fun x y=>decide (x<=y))=d
 have hperm:d.Perm l:=by rw [<- hd]; exact List.mergeSort_perm _ _
 have hsrt:d.Pairwise (·<=·):=by
  have h1:=List.pairwise_mergeSort (le:=fun x y:Int=>decide (x<=y)) (fun a b c h1 h2=>by simp at *; omega) (fun a b=>by simp; omega) l
  rw [hd] at h1
  exact h1.imp (fun h=>of_decide_eq_true h)
 have hdl:d.length=n:=by rw [hperm.length_eq,hrl]
 have hle:=h.le
 have heap:∀ k,k < w.heap.size->(grow (putRow (Value.int .i64) (Go.Sort.ahead w q) b 0 d.toArray) os).heap[k]?=if k=b then some (.cells (putCells (Value.int .i64) 0 d.toArray cs) e) else w.heap[k]?:=by
  intro k hk
  show ((putRow (Value.int .i64) (Go.Sort.ahead w q) b 0 d.toArray).heap ++ os)[k]?=_
  have hsz:k < (putRow (Value.int .i64) (Go.Sort.ahead w q) b 0 d.toArray).heap.size:=by
   show k < ((Go.Sort.ahead w q).heap.modify b _).size
   rw [Array.size_modify]; exact hk
  rw [Array.getElem?_append_left hsz]
  show ((Go.Sort.ahead w q).heap.modify b (onCells (putCells (Value.int .i64) 0 d.toArray)))[k]?=_
  rw [Array.getElem?_modify]
  by_cases hkb:k=b
  ·subst hkb
   rw [if_pos rfl,if_pos rfl]
   show Option.map _ w.heap[k]?=_
   rw [hh]; rfl
  ·rw [if_neg (fun h=>hkb h.symm),if_neg hkb]; rfl
 refine ⟨rfl,⟨rfl,rfl,rfl,?_,fun k hk hn'=>?_⟩,d,⟨?_,hle,.inr ⟨b,putCells (Value.int .i64) 0 d.toArray cs,rfl,hB,?_,?_,?_⟩⟩,hperm,hsrt⟩
 ·show w.heap.size<=((putRow (Value.int .i64) (Go.Sort.ahead w q) b 0 d.toArray).heap ++ os).size
  have:(putRow (Value.int .i64) (Go.Sort.ahead w q) b 0 d.toArray).heap.size=w.heap.size:=by
   show ((Go.Sort.ahead w q).heap.modify b _).size=_
   rw [Array.size_modify]; rfl
  rw [Array.size_append]; omega
 ·rw [heap k hk,if_neg hn']
 ·rw [ivs_len,hdl]; omega
 ·rw [heap b (heap_lt hh),if_pos rfl]
 ·simp [putCells,hs]
 ·apply List.ext_getElem?
  intro j
  have hcsz:n<=cs.size:=by rw [hs]; omega
  by_cases hj:j < n
  ·rw [List.getElem?_take,if_pos (by omega),Array.getElem?_toList]
   unfold putCells
   rw [Array.getElem?_mapIdx,Array.getElem?_eq_getElem (show j < cs.size by omega),Option.map_some,if_pos ⟨Nat.zero_le _,by simp; omega⟩]
   rw [Nat.sub_zero,getElem!_pos d.toArray j (by simp; omega),ivs_at (at_lt (by omega))]
   simp
  ·rw [List.getElem?_take,if_neg (by omega),List.getElem?_eq_none (by rw [ivs_len,hdl]; omega)]
theorem row_put {w:World} {B:Nat} {e:TypeId} {sz:Nat} {A:Option Addr} {n c:Nat} {vs us:List Value} {o':Nat} {K:World->Prop} (hr:Row w B e sz A n c vs) (hn:n ≠ 0) (hfit:o'+us.length<=n * sz) (h1:∀ v ∈ us,v.oneCell'=true)
  (hK:∀ w',Row w' B e sz A n c (splice vs o' us)->Fr (fun k=>blkOf A=some k) w w'->K w'):dr A fun b o=>st w b (o+o') us K:=by
 rcases hr.at_ with ⟨_,h0,_⟩ | ⟨b,cs,rfl,hB,hh,hs,ht⟩
 ·exact absurd h0 hn
 ·have hle:=hr.le
  have hl:=hr.len
  have hmul:n * sz<=c * sz:=Nat.mul_le_mul_right _ hle
  show st w b (0+o') us K
  rw [Nat.zero_add]
  have hfit2:o'+us.length<=cs.toList.length:=by simp; omega
  refine ⟨⟨cs,e,0,0,hh,by simpa using hfit2,.inl (Nat.zero_le _)⟩,h1,hK _ ⟨by rw [splice_length (by omega)]; exact hl,hle,.inr ⟨b,_,rfl,hB,stB_heap hh,?_,?_⟩⟩ (Fr.st (fun _=>rfl))⟩
  ·simp only [List.size_toArray]; rw [splice_length hfit2]; simpa using hs
  ·apply List.ext_getElem?
   intro j
   simp only [List.getElem?_take]
   by_cases hj:j < n * sz
   ·rw [if_pos hj,splice_get hfit2,splice_get (by omega),<- ht]
    simp only [List.getElem?_take]
    by_cases h2:j < o'
    ·rw [if_pos h2,if_pos h2,if_pos hj]
    ·rw [if_neg h2,if_neg h2]
     split
     ·rfl
     ·first | rfl | rw [if_pos hj]
   ·rw [if_neg hj,List.getElem?_eq_none (by rw [splice_length (by omega)]; omega)]
theorem row_cut {w:World} {B:Nat} {e:TypeId} {sz:Nat} {A:Option Addr} {n c k:Nat} {vs:List Value} (hr:Row w B e sz A n c vs) (hk:k<=n):Row w B e sz A k c (vs.take (k * sz)):=by
 have hl:=hr.len
 have hle:=hr.le
 have hmul:k * sz<=n * sz:=Nat.mul_le_mul_right _ hk
 refine ⟨by rw [List.length_take]; omega,by omega,?_⟩
 rcases hr.at_ with ⟨h1,h2,h3⟩ | ⟨b,cs,h1,h2,h3,h4,h5⟩
 ·exact .inl ⟨h1,by omega,h3⟩
 ·refine .inr ⟨b,cs,h1,h2,h3,h4,?_⟩
  rw [<- h5,List.take_take,Nat.min_eq_left hmul]
theorem ivs_set {P:List Int} {k:Nat} {x:Int} (hk:k < P.length):ivs (P.set k x)=splice (ivs P) (k * 1) [.int .i64 x]:=by
 have hfit:k * 1+[Value.int .i64 x].length<=(ivs P).length:=by rw [ivs_len]; simp; omega
 apply List.ext_getElem?
 intro t
 rw [splice_get hfit]
 simp only [Nat.mul_one,List.length_singleton,ivs,List.map_set]
 by_cases h1:t < k
 ·rw [if_pos h1,List.getElem?_set_ne (by omega)]
 ·rw [if_neg h1]
  by_cases h2:t < k+1
  ·have:t=k:=by omega
   subst this
   rw [if_pos h2,List.getElem?_set_self (by simpa using hk)]
   simp
  ·rw [if_neg h2,List.getElem?_set_ne (by omega)]
theorem row_clear {w:World} {B:Nat} {e:TypeId} {b n c k:Nat} {P:List Int} {K:World->Prop} (hr:Row w B e 1 (some ⟨b,0,none⟩) n c (ivs P)) (hk:k < n)
  (hK:∀ w',Row w' B e 1 (some ⟨b,0,none⟩) k c (ivs (P.take k))->Fr (fun j=>j=b) w w'->K w'):dr (slA (some (⟨b,0,none⟩:Addr)) c k 1) fun b o=>st w b o (zeros (n - k) [Value.int .i64 0]) K:=by
 have hle:=hr.le
 have hPl:=sl_n hr.sl
 have hsk:slA (some (⟨b,0,none⟩:Addr)) c k 1=some ⟨b,0+k * 1,none⟩:=by
  unfold slA
  rw [if_neg (by omega),Option.map_some,add_none]
 rw [hsk]
 refine row_put (A:=some ⟨b,0,none⟩) (o':=k * 1) hr (by omega) (by rw [zeros_length]; simp; omega) (fun v hv=>?_) (fun u2 hr2 f2=>hK u2 ?_ (f2.mono (fun j _ hj=>by simpa [blkOf] using hj.symm)))
 ·simp only [zeros,List.mem_flatten,List.mem_replicate] at hv
  obtain ⟨l,⟨_,rfl⟩,hv⟩:=hv
  simp at hv; subst hv; rfl
 ·have hcut:=row_cut hr2 (k:=k) (by omega)
  have e:(splice (ivs P) (k * 1) (zeros (n - k) [Value.int .i64 0])).take (k * 1)=ivs (P.take k):=by
   unfold splice
   rw [List.append_assoc,List.take_append_of_le_length (by rw [List.length_take,ivs_len]; omega),List.take_take,Nat.min_self,Nat.mul_one,ivs_take]
  rw [e] at hcut
  exact hcut
theorem slA_zero (b c:Nat):slA (some (⟨b,0,none⟩:Addr)) c 0 1=some ⟨b,0,none⟩:=by
 unfold slA
 split
 ·rfl
 ·simp [Addr.add]
def cpt (r:List Int):Nat->List Int
 | 0=>[]
 | n+1=>cpt r n ++ (if n ≠ 0/\r[n]?=r[n - 1]? then [] else r[n]?.toList)
theorem cpt_mem (r:List Int):∀ n d,d ∈ cpt r n ↔ d ∈ r.take n
 | 0,d=>by simp [cpt]
 | n+1,d=>by
  have ih:=cpt_mem r n d
  rw [cpt,List.take_add_one,List.mem_append,List.mem_append,ih]
  by_cases h:n ≠ 0/\r[n]?=r[n - 1]?
  ·rw [if_pos h]
   constructor
   ·intro h'; exact h'.elim .inl (fun h=>by cases h)
   ·rintro (h' | h')
    ·exact .inl h'
    ·left
     rw [h.2] at h'
     cases hr:r[n - 1]? with
     | none=>rw [hr] at h'; cases h'
     | some x =>
      rw [hr] at h'
      simp at h'
      subst h'
      exact List.mem_of_getElem? (i:=n - 1) (by rw [List.getElem?_take,if_pos (by omega)]; exact hr)
  ·rw [if_neg h]
theorem cpt_asc {r:List Int} (h:r.Pairwise (·<=·)):∀ n,n<=r.length->AscI (cpt r n)
 | 0,_=>List.Pairwise.nil
 | n+1,hn=>by
  have ih:=cpt_asc h n (by omega)
  rw [cpt]
  by_cases hc:n ≠ 0/\r[n]?=r[n - 1]?
  ·rw [if_pos hc,List.append_nil]; exact ih
  ·rw [if_neg hc,List.getElem?_eq_getElem (by omega)]
   refine List.pairwise_append.2 ⟨ih,by simp,fun a ha b hb=>?_⟩
   simp at hb
   subst hb
   have ha':=(cpt_mem r n a).1 ha
   obtain ⟨i,hi,hai⟩:=List.mem_iff_getElem.1 ha'
   rw [List.length_take] at hi
   rw [List.getElem_take] at hai
   have hn0:n ≠ 0:=by omega
   have hprev:r[n - 1]'(by omega) ≠ r[n]'(by omega):=by
    intro he
    apply hc
    refine ⟨hn0,?_⟩
    rw [List.getElem?_eq_getElem (by omega),List.getElem?_eq_getElem (by omega),he]
   have hp:=List.pairwise_iff_getElem.1 h
   have h2:=hp (n - 1) n (by omega) (by omega) (by omega)
   subst hai
   by_cases hin:i=n - 1
   ·subst hin; omega
   ·have h3:=hp i (n - 1) (by omega) (by omega) (by omega)
    omega
theorem compact_int (B:Nat) (e:TypeId) (A:Option Addr) (c:Nat) (r:List Int) (n:Nat) (w:World) (h:Row w B e 1 A n c (ivs r)) (hn:n<=1099511627776) :
  Calls Tryz.prog 45 #[.slice A n c] w fun e' w'=>e'=.returned (.slice A (cpt r n).length c)/\Fr (fun k=>blkOf A=some k) w w'/\Row w' B e 1 A (cpt r n).length c (ivs (cpt r n)):=by
 refine (F45.of A n c w (Q:=fun v w'=>v=.slice A (cpt r n).length c/\Fr (fun k=>blkOf A=some k) w w'/\Row w' B e 1 A (cpt r n).length c (ivs (cpt r n))) ?_).mono (fun e w' ⟨v,he,hv,h⟩=>⟨by rw [he,hv],h⟩)
 have hrl:=sl_n h.sl
 have whole:∀ i,i<=n->cpt r i=r.take i->i=n->∀ u,Fr (fun k=>blkOf A=some k) w u->Row u B e 1 A n c (ivs r)->(Value.slice A n c=.slice A (cpt r n).length c/\Fr (fun k=>blkOf A=some k) w u/\Row u B e 1 A (cpt r n).length c (ivs (cpt r n))):=by
  intro i hi hc he u hf hr
  subst he
  rw [hc,List.take_of_length_le (by omega),hrl]
  exact ⟨rfl,hf,hr⟩
 refine vIf_mk (fun h2=>?_) (fun h2=>jnC_mk ?_)
 ·have h2:(n:Int) < 2:=of_decide_eq_true h2
  refine whole n (Nat.le_refl _) ?_ rfl w (Fr.refl _ _) h
  match n,h2 with
  | 0,_=>rfl
  | 1,_=>simp [cpt,List.take_one,List.head?_eq_getElem?]
  | n+2,h2=>omega
 have h2:¬ (n:Int) < 2:=of_decide_eq_false h2
 have hle:=h.le
 obtain ⟨b,hA⟩:∃ b,A=some ⟨b,0,none⟩:=by
  rcases h.at_ with ⟨_,h0,_⟩ | ⟨b,_,hA,_⟩
  ·omega
  ·exact ⟨b,hA⟩
 subst hA
 refine loop_rule (fun s u=>Fr (fun k=>blkOf (some (⟨b,0,none⟩:Addr))=some k) w u/\Row u B e 1 (some ⟨b,0,none⟩) n c (ivs r)/\∃ i:Nat,1<=i/\i<=n/\s=((some ⟨b,0,none⟩,n,c),(i:Int),())/\cpt r i=r.take i)
  (fun s _=>(n - s.2.1).toNat) ?_ _ _ ⟨Fr.refl _ _,h,1,by omega,by omega,rfl,by simp [cpt,List.take_one,List.head?_eq_getElem?]⟩
 rintro s u C4 ⟨hf,hr,i,hi1,hi,rfl,hc⟩ hC4 _
 refine vIf_mk (fun hlt=>?_) (fun hge=>?_)
 ·have hlt2:(i:Int) < (n:Int):=of_decide_eq_true hlt
  have hrd:=(Fr.drew (fun _=>False) u).row hr (fun _ _ h=>h)
  have ei1:IntKind.wrap .i64 ((i:Int) - 1)=((i - 1:Nat):Int):=by rw [i64_id (by omega) (by omega)]; omega
  have gi:=at_lt (l:=r) (i:=i) (by omega)
  have gp:=at_lt (l:=r) (i:=i - 1) (by omega)
  dsimp only
  rw [ei1]
  refine sl_rd hrd.sl (by omega) gi (sl_rd hrd.sl (by omega) gp ?_)
  refine vIf_mk (fun he=>?_) (fun hne=>?_)
  ·have he:r[i]'(by omega)=r[i - 1]'(by omega):=by simpa using he
   have hsame:cpt r (i+1)=r.take i:=by
    rw [cpt,if_pos ⟨by omega,by rw [gi,gp,he]⟩,List.append_nil,hc]
   refine gd_mk (decide_eq_true (by omega)) (gd_mk (decide_eq_true (by omega)) (jnC_mk ?_))
   rw [Int.toNat_natCast]
   have hsl:slA (some (⟨b,0,none⟩:Addr)) c i 1=some ⟨b,0+i * 1,none⟩:=by
    unfold slA
    rw [if_neg (by omega),Option.map_some,add_none]
   rw [hsl]
   refine loop_rule (fun s u=>Fr (fun k=>blkOf (some (⟨b,0,none⟩:Addr))=some k) w u/\∃ (j:Nat) (P:List Int),1<=j/\i+j<=n/\P.length=n/\Row u B e 1 (some ⟨b,0,none⟩) n c (ivs P)/\(cpt r (i+j)).length < i+j/\P.take (cpt r (i+j)).length=cpt r (i+j)/\P.drop (cpt r (i+j)).length=r.drop (cpt r (i+j)).length /\
     s=((some ⟨b,0,none⟩,n,c),(((cpt r (i+j)).length:Nat):Int),(some ⟨b,0+i * 1,none⟩,n - i,c - i),(j:Int),()))
    (fun s _=>(n - s.2.2.2.1).toNat) ?_ _ _ ⟨hf.trans (Fr.drew (fun _=>False) u) (fun _ _ h=>h) (fun _ _ h=>h.elim),1,r,by omega,by omega,hrl,hrd,?_,?_,?_,?_⟩
   rotate_left
   ·rw [hsame,List.length_take]; omega
   ·rw [hsame,List.length_take,Nat.min_eq_left (by omega)]
   ·rfl
   ·rw [hsame,List.length_take,Nat.min_eq_left (by omega)]; rfl
   clear hC4 hf hr hrd
   rintro s u C9 ⟨hf,j,P,hj1,hjn,hPl,hr,hk,htk,hdp,rfl⟩ hC9 _
   generalize hkk:(cpt r (i+j)).length=k at hk htk hdp
   have hrd:=(Fr.drew (fun _=>False) u).row hr (fun _ _ h=>h)
   have hget:∀ q,k<=q->P[q]?=r[q]?:=by
    intro q hq
    have h1:(P.drop k)[q - k]?=(r.drop k)[q - k]?:=by rw [hdp]
    rw [List.getElem?_drop,List.getElem?_drop,show k+(q - k)=q by omega] at h1
    exact h1
   have tail:Sl u.drew 1 (some (⟨b,0+i * 1,none⟩:Addr)) (n - i) (ivs (P.drop i)):=by
    refine ⟨by rw [ivs_len,List.length_drop]; omega,fun _=>⟨b,0+i * 1,rfl,fun q v hq=>?_⟩⟩
    obtain ⟨b',o',hA,hcell⟩:=hrd.sl.2 (by omega)
    cases hA
    have:=hcell (i+q) v (by
     unfold ivs at hq ⊢
     rw [List.getElem?_map,List.getElem?_drop] at hq
     rw [List.getElem?_map]; exact hq)
    rw [show 0+i * 1+q=0+(i+q) by omega]; exact this
   refine vIf_mk (fun hlt=>?_) (fun hge=>?_)
   ·have hlt3:(j:Int) < ((n - i:Nat):Int):=of_decide_eq_true hlt
    have ej:IntKind.wrap .i64 ((j:Int) - 1)=((j - 1:Nat):Int):=by rw [i64_id (by omega) (by omega)]; omega
    have gi:=at_lt (l:=r) (i:=i+j) (by omega)
    have gp:=at_lt (l:=r) (i:=i+j - 1) (by omega)
    have ti:(P.drop i)[j]?=some (r[i+j]'(by omega)):=by rw [List.getElem?_drop,hget _ (by omega),gi]
    have tp:(P.drop i)[j - 1]?=some (r[i+j - 1]'(by omega)):=by rw [List.getElem?_drop,show i+(j - 1)=i+j - 1 by omega,hget _ (by omega),gp]
    dsimp only
    rw [ej]
    refine sl_rd tail (by omega) ti (sl_rd tail (by omega) tp ?_)
    have enext:IntKind.wrap .i64 ((j:Int)+1)=((j+1:Nat):Int):=by rw [i64_id (by omega) (by omega)]; rfl
    refine vIf_mk (fun hne=>?_) (fun he=>?_)
    ·have hne2:r[i+j]'(by omega) ≠ r[i+j - 1]'(by omega):=by simpa using hne
     have hnx:cpt r (i+(j+1))=cpt r (i+j) ++ [r[i+j]'(by omega)]:=by
      rw [<- Nat.add_assoc,cpt,if_neg,gi,Option.toList_some]
      rintro ⟨_,h'⟩
      rw [gi,gp] at h'
      exact hne2 (Option.some.inj h')
     refine sl_rd tail (by omega) ti (dr_mk (gd_mk (decide_eq_true (by omega)) (gd_mk (decide_eq_true (by omega)) ?_)))
     simp only [Int.toNat_natCast]
     refine row_put (A:=some ⟨b,0,none⟩) (o':=k * 1) hrd (by omega) (by simp; omega) (fun v hv=>by simp at hv; subst hv; rfl) (fun u2 hr2 f2=>jnC_mk (hC9 _ _ ⟨?_,j+1,P.set k (r[i+j]'(by omega)),by omega,by omega,by simpa using hPl,?_,?_,?_,?_,?_⟩ ?_))
     ·exact (hf.trans (Fr.drew (fun _=>False) u) (fun _ _ h=>h) (fun _ _ h=>h.elim)).trans1 f2
     ·rw [ivs_set (by omega)]; exact hr2
     ·rw [hnx,List.length_append,hkk]; simp; omega
     ·rw [hnx,List.length_append,hkk]
      show (P.set k _).take (k+1)=_
      rw [List.take_add_one,List.getElem?_set_self (by omega),Option.toList_some,List.take_set_of_le (Nat.le_refl k),htk]
     ·rw [hnx,List.length_append,hkk]
      show (P.set k _).drop (k+1)=r.drop (k+1)
      rw [List.drop_set_of_lt (by omega)]
      have h3:=congrArg (List.drop 1) hdp
      rw [List.drop_drop,List.drop_drop] at h3
      exact h3
     ·rw [hnx,List.length_append,hkk,enext]
      show (_,IntKind.wrap .i64 ((k:Int)+1),_,_,())=_
      rw [i64_id (by omega) (by omega)]; rfl
     ·show ((n:Int) - IntKind.wrap .i64 ((j:Int)+1)).toNat < ((n:Int) - (j:Int)).toNat
      rw [enext]; omega
    ·have he2:r[i+j]'(by omega)=r[i+j - 1]'(by omega):=by simpa using he
     have hnx:cpt r (i+(j+1))=cpt r (i+j):=by
      rw [<- Nat.add_assoc,cpt,if_pos ⟨by omega,by rw [gi,gp,he2]⟩,List.append_nil]
     refine jnC_mk (hC9 _ _ ⟨hf.trans (Fr.drew (fun _=>False) u) (fun _ _ h=>h) (fun _ _ h=>h.elim),j+1,P,by omega,by omega,hPl,hrd,by rw [hnx,hkk]; omega,by rw [hnx,hkk]; exact htk,by rw [hnx,hkk]; exact hdp,?_⟩ ?_)
     ·rw [hnx,hkk,enext]
     ·show ((n:Int) - IntKind.wrap .i64 ((j:Int)+1)).toNat < ((n:Int) - (j:Int)).toNat
      rw [enext]; omega
   ·have hge3:¬ (j:Int) < ((n - i:Nat):Int):=of_decide_eq_false hge
    have hij:i+j=n:=by omega
    rw [hij] at hkk htk
    dsimp only
    simp only [Int.toNat_natCast]
    refine gd_mk (decide_eq_true (by omega)) (gd_mk (decide_eq_true (by omega)) (vIf_f (by simp; omega) ?_))
    refine row_clear hr (by omega) (fun u2 hr2 f2=>jnC_mk (fun _=>?_))
    refine gd_mk (decide_eq_true (by show (0:Int)<=(k:Int); omega)) (gd_mk (decide_eq_true (by show (k:Int)<=(c:Int); omega)) ⟨?_,hf.trans1 (f2.mono (fun q _ hq=>by subst hq; rfl)),?_⟩)
    ·show Value.slice (slA (some ⟨b,0,none⟩) c 0 1) ((k:Int).toNat) c=_
     rw [Int.toNat_natCast,hkk,slA_zero]
    ·rw [hkk]
     rw [htk] at hr2
     exact hr2
  ·have hne2:r[i]'(by omega) ≠ r[i - 1]'(by omega):=by simpa using hne
   refine jnC_mk (hC4 _ _ ⟨hf.trans (Fr.drew (fun _=>False) u) (fun _ _ h=>h) (fun _ _ h=>h.elim),hrd,i+1,by omega,by omega,?_,?_⟩ ?_)
   ·show (_,IntKind.wrap .i64 ((i:Int)+1),())=_
    rw [i64_id (by omega) (by omega)]; rfl
   ·rw [cpt,if_neg,hc,List.take_add_one]
    rintro ⟨_,h'⟩
    rw [gi,gp] at h'
    exact hne2 (Option.some.inj h')
   ·show ((n:Int) - IntKind.wrap .i64 ((i:Int)+1)).toNat < ((n:Int) - (i:Int)).toNat
    rw [i64_id (by omega) (by omega)]; omega
 ·have hge2:¬ (i:Int) < (n:Int):=of_decide_eq_false hge
  exact whole i hi hc (by omega) u hf hr
end Go.Proofs.YthcdionpeoobbaaGreatDoor
namespace Go.Proofs.YthcdionpeoobbaaGreatDoor
open Go.GV Go.RowKit Go.Lib Go.Stb
theorem sc_calls (B:Nat) (A:Option Addr) (n c:Nat) (r:List Int) (w:World) (h:Row w B 3 1 A n c (ivs r)) (hn:n<=1099511627776) :
  Calls Tryz.prog 44 #[.slice A n c] w fun e w1=>e=.returned (.tuple #[])/\Calls Tryz.prog 45 #[.slice A n c] w1 fun e2 w2=>Fr (fun k=>blkOf A=some k) w w2/\e2=.returned (.slice A (norm r).length c)/\Row w2 B 3 1 A (norm r).length c (ivs (norm r)):=by
 have hrl:=sl_n h.sl
 have fin:∀ (u:World) (r1:List Int),Fr (fun k=>blkOf A=some k) w u->Row u B 3 1 A n c (ivs r1)->r1.Perm r->r1.Pairwise (·<=·) ->
   Calls Tryz.prog 45 #[.slice A n c] u fun e2 w2=>Fr (fun k=>blkOf A=some k) w w2/\e2=.returned (.slice A (norm r).length c)/\Row w2 B 3 1 A (norm r).length c (ivs (norm r)):=by
  intro u r1 fu hr1 hp hs
  have hl1:=sl_n hr1.sl
  refine (compact_int B _ A c r1 n u hr1 hn).mono ?_
  rintro e w8 ⟨rfl,f8,h8⟩
  have heq:cpt r1 n=norm r:=norm_eq (cpt_asc hs _ (by omega)) (fun y=>by rw [cpt_mem,List.take_of_length_le (by omega)]; exact hp.mem_iff)
  rw [heq] at h8 ⊢
  exact ⟨fu.trans1 f8,rfl,h8⟩
 cases A with
 | none =>
  have hn0:n=0/\c=0:=by
   rcases h.at_ with ⟨_,h',h''⟩ | ⟨_,_,h',_⟩
   ·exact ⟨h',h''⟩
   ·cases h'
  obtain ⟨rfl,rfl⟩:=hn0
  have:r=[]:=List.length_eq_zero_iff.1 hrl
  subst this
  refine (sort_nil 0 w).mono ?_
  rintro e w2 ⟨rfl,rfl⟩
  exact ⟨rfl,fin w2 [] (Fr.refl _ _) h (List.Perm.refl _) List.Pairwise.nil⟩
 | some a =>
  have ha:∃ b,a=⟨b,0,none⟩:=by
   rcases h.at_ with ⟨h',_⟩ | ⟨b,_,h',_⟩
   ·cases h'
   ·exact ⟨b,Option.some.inj h'⟩
  obtain ⟨b,rfl⟩:=ha
  refine (sort_int B _ b c r n w h (by omega)).mono ?_
  rintro e w2 ⟨rfl,f2,r2,hr2,hp,hs⟩
  exact ⟨rfl,fin w2 r2 (f2.mono (fun k _ hk=>by subst hk; rfl)) hr2 hp hs⟩
def idsU (F:Fo):Nat->List Int
 | 0=>[]
 | n+1=>idsU F n ++ (behF F (n:Nat)).map (·.2)
def idsF (F:Fo):List Int:=norm (idsU F (F.P.length+1))
theorem idsU_len {F:Fo} (hb:FoB F):∀ n,(idsU F n).length<=n * 349525
 | 0=>by simp [idsU]
 | n+1=>by
  have ih:=idsU_len hb n
  have h1:=behF_len F (n:Nat)
  have h2:F.L.length+F.P.length<=349525:=hb
  rw [idsU,List.length_append,List.length_map,Nat.add_mul]
  omega
theorem norm_len' (l:List Int):(norm l).length<=l.length:=norm_len l
theorem snd_step {l:List Nm} {j:Nat} {x:Nm} (h:l[j]?=some x):(l.take (j+1)).map (·.2)=(l.take j).map (·.2) ++ [x.2]:=by rw [List.take_add_one,h]; simp
theorem push_int2 {w:World} {B:Nat} {A:Option Addr} {n c:Nat} {out:List Int} {x:Int} {K:Option Addr->Nat->Nat->World->Prop} (hr:Row w B 3 1 A n c (ivs out)) (hB:B<=w.heap.size) (hn:n<=2199023255552)
  (hK:∀ A' c' w',Row w' B 3 1 A' (n+1) c' (ivs (out ++ [x]))->Fr (fun k=>blkOf A=some k) w w'->(∀ k,blkOf A'=some k->blkOf A=some k\/w.heap.size<=k)->K A' (n+1) c' w'):nw w ([Value.int .i64 x] ++ []) 3 fun b w'=>app w' 1 8 [Value.int .i64 0] 3 A n c (.slice (some ⟨b,0,none⟩) 1 1) K:=by
 refine nw_mk ?_
 rw [List.append_nil]
 have f1:Fr (fun _=>False) w (w.alloc (.cells [Value.int .i64 x].toArray 3)):=Fr.alloc _ _ _
 have r1:Row (w.alloc (.cells [Value.int .i64 x].toArray 3)) 0 3 1 (some ⟨w.heap.size,0,none⟩) 1 1 (ivs [x]):=Row.new (Nat.zero_le _) rfl
 have hs:(w.alloc (.cells [Value.int .i64 x].toArray 3)).heap.size=w.heap.size+1:=alloc_size _ _
 generalize w.alloc (.cells [Value.int .i64 x].toArray 3)=w1 at f1 r1 hs ⊢
 refine app_row2 (f1.row hr (fun _ _ h=>h)) r1.sl.src (ivs_one [x]) rfl (by omega) (by omega) (by omega) (fun A' c' w' hr' f' hb'=>hK A' c' w' (by rw [ivs_app]; exact hr') ?_ (fun k hk=>(hb' k hk).imp id (fun h=>by omega)))
 exact f1.trans f' (fun _ _ h=>h.elim) (fun _ _ h=>h)
set_option maxHeartbeats 1000000 in
theorem ids_calls (cs:List Value) (F:Fo) (w:World) (h:FoAt w cs F) (hb:FoB F) :
  Calls Tryz.prog 24 #[ofL cs] w fun e w'=>Fr (fun _=>False) w w'/\∃ A' c',e=.returned (.slice A' (idsF F).length c')/\Row w' w.heap.size 3 1 A' (idsF F).length c' (ivs (idsF F)):=by
 refine (F24.of cs w (Q:=fun v w'=>Fr (fun _=>False) w w'/\∃ A' c',v=.slice A' (idsF F).length c'/\Row w' w.heap.size 3 1 A' (idsF F).length c' (ivs (idsF F))) ?_).mono (fun e w' ⟨v,he,hf,A',c',hv,h⟩=>⟨hf,A',c',by rw [he,hv],h⟩)
 have hb':F.L.length+F.P.length<=349525:=hb
 refine fo_new (fun b w1 f1 _ r1=>?_)
 have h1:=h.fr0 f1
 have hcl:=h.len
 obtain ⟨A,m,c,A',m',c',rfl,hL,hP,hPc⟩:=h
 have hPl:=hP.2
 refine ⟨A',m',c',r1.cell rfl,?_⟩
 have em:IntKind.wrap .i64 (((m':Nat):Int)+1)=((m'+1:Nat):Int):=ei m' (by omega)
 dsimp only
 rw [em]
 have hs1:=f1.size
 refine jnC_mk (loop_rule (fun s u=>Fr (fun _=>False) w1 u/\∃ (i:Nat) (A2:Option Addr) (c2:Nat),i<=m'+1/\s=((b,0),(A2,(idsU F i).length,c2),((m'+1:Nat):Int),(i:Int),())/\Row u w1.heap.size 3 1 A2 (idsU F i).length c2 (ivs (idsU F i)))
  (fun s _=>(m'+1 - s.2.2.2.1).toNat) ?_ _ _ ⟨Fr.refl _ _,0,none,0,by omega,rfl,Row.nil _ _ _ _⟩)
 rintro s u C3 ⟨hf,i,A2,c2,hi,rfl,h2⟩ hC3 _
 have hlen:=idsU_len hb i
 have hi2:i * 349525<=349526 * 349525:=Nat.mul_le_mul_right _ (by omega)
 refine vIf_mk (fun hlt=>?_) (fun hge=>?_)
 ·have hlt2:(i:Int) < ((m'+1:Nat):Int):=of_decide_eq_true hlt
  refine ⟨[.slice A m c,.slice A' m' c'],rfl,rec_rd (r1.fr hf (fun h=>h)),(beh_calls _ F (i:Int) u (h1.fr0 hf) hb).mono ?_⟩
  rintro r u2 ⟨f2,A3,c3,rfl,h3⟩
  have hbl:=behF_len F (i:Nat)
  have hU:idsU F (i+1)=idsU F i ++ (behF F (i:Nat)).map (·.2):=rfl
  generalize behF F ((i:Nat):Int)=l at h3 hbl hU ⊢
  have h2':=f2.row h2 (fun _ _ h=>h)
  refine ⟨_,_,_,rfl,jnC_mk (loop_rule (fun s v=>Fr (fun _=>False) w1 v/\NSl v A3 l.length l/\∃ (j:Nat) (A4:Option Addr) (c4:Nat),j<=l.length/\s=((b,0),(A4,(idsU F i).length+j,c4),((m'+1:Nat):Int),(i:Int),(A3,l.length,c3),((l.length:Nat):Int),(j:Int),())/\Row v w1.heap.size 3 1 A4 ((idsU F i).length+j) c4 (ivs (idsU F i ++ (l.take j).map (·.2)))/\(∀ k,blkOf A4=some k->blkOf A3 ≠ some k))
   (fun s _=>(l.length - s.2.2.2.2.2.2.1).toNat) ?_ _ _ ⟨hf.trans1 f2,h3.sl,0,A2,c2,by omega,rfl,by simpa using h2',fun k hk h=>by have:=(h2.blt hk).2; have:=(h3.1.blt h).1; omega⟩)⟩
  rintro s v C6 ⟨fv,hl,j,A4,c4,hj,rfl,h4,hne⟩ hC6 _
  refine vIf_mk (fun hlt=>?_) (fun hge=>?_)
  ·have hlt3:(j:Int) < (l.length:Int):=of_decide_eq_true hlt
   have gj:l[j]?=some (l[j]'(by omega)):=List.getElem?_eq_getElem (by omega)
   generalize l[j]'(by omega)=x at gj
   have hst:=snd_step gj
   refine n_rd hl gj rfl (nw_mk (gd_mk rfl ?_))
   have q1:Fr (fun _=>False) v (v.alloc (.cells [Value.string (⟨#[]⟩:ByteArray),Value.int .i64 0].toArray 62)):=Fr.alloc _ _ _
   have s1:=RecAt.new v [Value.string (⟨#[]⟩:ByteArray),Value.int .i64 0] 62
   have hb15:∀ k,k < v.heap.size->k ≠ v.heap.size:=fun k hk=>by omega
   have hA4b:∀ k,blkOf A4=some k->k ≠ v.heap.size:=fun k hk=>hb15 k (h4.blt hk).2
   have hA3b:l.length ≠ 0->∀ k,blkOf A3=some k->k ≠ v.heap.size:=fun h0 k hk=>hb15 k (hl.1.blt (by decide) h0 hk)
   generalize hbb:v.heap.size=b15 at s1 hA4b hA3b ⊢
   generalize v.alloc (.cells [Value.string (⟨#[]⟩:ByteArray),Value.int .i64 0].toArray 62)=v1 at q1 s1 ⊢
   refine fo_st s1 (by rfl) (encN_o.one x) (fun v2 q2 s2=>⟨x.2,s2.cell rfl,?_⟩)
   have hl1:=hl.fr0 q1
   have h41:=q1.row h4 (fun _ _ h=>h)
   have hl2:NSl v2 A3 l.length l:=⟨q2.sl hl1.1 hA3b,hl1.2⟩
   have h42:=q2.row h41 hA4b
   have fv2:Fr (fun _=>False) w1 v2:=(fv.trans1 q1).trans q2 (fun _ _ h=>h) (fun k hk h=>by have:=fv.size; omega)
   refine push_int2 h42 (by have:=fv2.size; omega) (by dsimp only; omega) (fun A5 c5 v3 h5 q3 hA5=>jnC_mk (hC6 _ _ ⟨?_,?_,j+1,A5,c5,by omega,by rw [ei j (by omega)]; rfl,?_,?_⟩ ?_))
   ·exact fr_own fv2 (fun k hk=>(h42.blt hk).1) (Nat.le_refl _) q3
   ·exact ⟨q3.sl hl2.1 (fun _ k hk h=>hne k h hk),hl2.2⟩
   ·rw [hst,<- List.append_assoc]; exact h5
   ·intro k hk h
    rcases hA5 k hk with h' | h'
    ·exact hne k h' h
    ·have:=hl2.1.blt (by decide) (by omega) h
     omega
   ·show ((l.length:Int) - IntKind.wrap .i64 ((j:Int)+1)).toNat < ((l.length:Int) - (j:Int)).toNat
    rw [ei j (by omega)]; omega
  ·have hge3:¬ (j:Int) < (l.length:Int):=of_decide_eq_false hge
   have hjl:j=l.length:=by omega
   subst hjl
   rw [List.take_length,<- hU] at h4
   have hUl:(idsU F i).length+l.length=(idsU F (i+1)).length:=by rw [hU]; simp
   rw [hUl] at h4
   refine jnC_mk (hC3 _ _ ⟨fv,i+1,A4,c4,by omega,?_,h4⟩ ?_)
   ·dsimp only; rw [hUl,ei i (by omega)]
   ·show ((m':Int)+1 - IntKind.wrap .i64 ((i:Int)+1)).toNat < ((m':Int)+1 - (i:Int)).toNat
    rw [ei i (by omega)]; omega
 ·have hge2:¬ (i:Int) < ((m'+1:Nat):Int):=of_decide_eq_false hge
  have him:i=F.P.length+1:=by omega
  subst him
  refine (sc_calls w1.heap.size A2 _ c2 _ u h2 (by omega)).mono ?_
  rintro r u2 ⟨rfl,h⟩
  refine ⟨rfl,h.mono ?_⟩
  rintro r u3 ⟨f3,rfl,h3⟩
  exact ⟨_,_,_,rfl,f1.trans1 (fr_own hf (fun k hk=>(h2.blt hk).1) (Nat.le_refl _) f3),A2,c2,rfl,row_low hs1 h3⟩
end Go.Proofs.YthcdionpeoobbaaGreatDoor
namespace Go.Proofs.YthcdionpeoobbaaGreatDoor
open Go.GV Go.RowKit Go.Lib
def chk (sz:Nat) (vs:List Value) (i:Nat):List Value:=(vs.drop (i * sz)).take sz
theorem chk_l {sz:Nat} {vs us:List Value} {i:Nat} (h:(i+1) * sz<=vs.length):chk sz (vs ++ us) i=chk sz vs i:=by
 rw [Nat.add_mul] at h
 unfold chk
 rw [List.drop_append_of_le_length (by omega),List.take_append_of_le_length (by rw [List.length_drop]; omega)]
theorem chk_r {sz:Nat} {vs us:List Value} {n j:Nat} (h:vs.length=n * sz):chk sz (vs ++ us) (n+j)=chk sz us j:=by
 unfold chk
 rw [Nat.add_mul,<- h,List.drop_append,List.drop_of_length_le (by omega),List.nil_append]
 congr 2; omega
theorem chk_one {sz:Nat} {cs:List Value} (h:cs.length=sz):chk sz cs 0=cs:=by
 unfold chk
 rw [Nat.zero_mul,List.drop_zero,List.take_of_length_le (by omega)]
theorem chk_get {sz:Nat} {vs:List Value} {i j:Nat} (hj:j < sz):(chk sz vs i)[j]?=vs[i * sz+j]?:=by
 unfold chk
 rw [List.getElem?_take,if_pos hj,List.getElem?_drop]
theorem chk_len {sz:Nat} {vs:List Value} {n i:Nat} (h:vs.length=n * sz) (hi:i < n):(chk sz vs i).length=sz:=by
 have hm:(i+1) * sz<=n * sz:=Nat.mul_le_mul_right _ hi
 rw [Nat.add_mul] at hm
 unfold chk
 rw [List.length_take,List.length_drop]; omega
def Ech {α:Type} (sz:Nat) (P:List Value->α->Prop) (vs:List Value) (l:List α):Prop:=∀ i x,l[i]?=some x->P (chk sz vs i) x
theorem Ech.nil {α:Type} {sz:Nat} {P:List Value->α->Prop} {vs:List Value}:Ech sz P vs ([]:List α):=fun i x h=>by simp at h
theorem Ech.snoc {α:Type} {sz:Nat} {P:List Value->α->Prop} {vs cs:List Value} {l:List α} {x:α} {n:Nat} (h:Ech sz P vs l) (hv:vs.length=n * sz) (hl:l.length=n) (hc:cs.length=sz) (hx:P cs x):Ech sz P (vs ++ cs) (l ++ [x]):=by
 intro i y hy
 have hi:=(List.getElem?_eq_some_iff.1 hy).1
 rw [List.length_append,List.length_singleton] at hi
 by_cases hin:i < n
 ·rw [List.getElem?_append_left (by omega)] at hy
  rw [chk_l (by rw [hv]; exact Nat.mul_le_mul_right _ hin)]
  exact h i y hy
 ·have e:i=n+0:=by omega
  rw [e,chk_r hv,chk_one hc]
  rw [List.getElem?_append_right (by omega)] at hy
  rw [show i - l.length=0 by omega,List.getElem?_cons_zero] at hy
  injection hy with hy
  subst hy; exact hx
theorem Ech.mono {α:Type} {sz:Nat} {P Q:List Value->α->Prop} {vs:List Value} {l:List α} (h:Ech sz P vs l) (hPQ:∀ cs x,P cs x->Q cs x):Ech sz Q vs l:=fun i x hi=>hPQ _ _ (h i x hi)
theorem ech_rd {α:Type} {sz:Nat} {P:List Value->α->Prop} {w:World} {A:Option Addr} {n:Nat} {vs:List Value} {l:List α} (h:Sl w sz A n vs) (he:Ech sz P vs l) (hsz:sz ≠ 0) {i:Nat} {x:α} (hi:l[i]?=some x) (hin:i < n) :
  ∃ b o,A=some ⟨b,o,none⟩/\cellsAt w b (o+i * sz) (chk sz vs i)/\(chk sz vs i).length=sz/\P (chk sz vs i) x:=by
 have hl:=h.1
 have hm:(i+1) * sz<=n * sz:=Nat.mul_le_mul_right _ hin
 rw [Nat.add_mul] at hm
 obtain ⟨b,o,hA,hc⟩:=h.2 (by omega)
 refine ⟨b,o,hA,fun j v hj=>?_,chk_len hl hin,he i x hi⟩
 have hjl:=(List.getElem?_eq_some_iff.1 hj).1
 rw [chk_len hl hin] at hjl
 rw [chk_get hjl] at hj
 rw [Nat.add_assoc]
 exact hc _ v hj
theorem el_all {α:Type} {sz:Nat} {P:List Value->α->Prop} {w:World} {A:Option Addr} {n:Nat} {vs:List Value} {l:List α} (h:Sl w sz A n vs) (he:Ech sz P vs l) (hsz:sz ≠ 0) {i:Nat} {x:α} (hi:l[i]?=some x) (hin:i < n) {K:List Value->Prop} (hK:∀ cs,cs.length=sz->P cs x->K cs) :
  dr A fun b o=>gd (decide (0<=(i:Int))) (gd (decide ((i:Int) < ((n:Nat):Int))) (ldA sz w b (o+((i:Int)).toNat * sz) K)):=by
 obtain ⟨b,o,rfl,h1,h2,h3⟩:=ech_rd h he hsz hi hin
 refine dr_mk (gd_mk (decide_eq_true (by omega)) (gd_mk (decide_eq_true (by omega)) ⟨_,h2,?_,hK _ h2 h3⟩))
 rw [Int.toNat_natCast]; exact h1
end Go.Proofs.YthcdionpeoobbaaGreatDoor
namespace Go.Proofs.YthcdionpeoobbaaGreatDoor
open Go.GV
abbrev Bs:=List UInt8
structure Wr where
 cut:Bool
 off:Int
 data:Bs
def rightW (x:Wr):Bool:=decide (x.off >= 0) && decide (x.off<=1048576 - (x.data.length:Int))
def over (b:Bs) (o:Nat) (d:Bs):Bs:=(b ++ List.replicate (o - b.length) 0).take o ++ d ++ b.drop (o+d.length)
def applyW (b:Bs) (x:Wr):Bs :=
 if rightW x=false\/(x.cut=false/\x.data=[]) then b
 else if x.cut then b.take x.off.toNat
 else over b x.off.toNat x.data
def allW (b:Bs) (l:List Wr):Bs:=l.foldl applyW b
def endW (n:Int) (x:Wr):Int:=if rightW x=true/\x.cut=false/\x.data ≠ [] then (if n < x.off+(x.data.length:Int) then x.off+(x.data.length:Int) else n) else n
def peakW (n:Int) (l:List Wr):Int:=l.foldl endW n
theorem over_len (b:Bs) (o:Nat) (d:Bs):(over b o d).length=max b.length (o+d.length):=by
 unfold over
 simp only [List.length_append,List.length_take,List.length_drop,List.length_replicate]
 omega
theorem over_get (b:Bs) (o:Nat) (d:Bs) (j:Nat):(over b o d)[j]?=if j < o then (if j < b.length then b[j]? else some 0) else if j < o+d.length then d[j - o]? else b[j]?:=by
 have hl:((b ++ List.replicate (o - b.length) (0:UInt8)).take o).length=o:=by
  rw [List.length_take,List.length_append,List.length_replicate]; omega
 unfold over
 by_cases h1:j < o
 ·rw [if_pos h1,List.append_assoc,List.getElem?_append_left (by rw [hl]; exact h1),List.getElem?_take,if_pos h1]
  by_cases h2:j < b.length
  ·rw [if_pos h2,List.getElem?_append_left h2]
  ·rw [if_neg h2,List.getElem?_append_right (by omega),List.getElem?_replicate,if_pos (by omega)]
 ·rw [if_neg h1]
  by_cases h2:j < o+d.length
  ·rw [if_pos h2,List.append_assoc,List.getElem?_append_right (by rw [hl]; omega),hl,List.getElem?_append_left (by omega)]
  ·rw [if_neg h2,List.getElem?_append_right (by rw [List.length_append,hl]; omega),List.length_append,hl,List.getElem?_drop]
   congr 1; omega
theorem right_iff {x:Wr}:rightW x=true ↔ 0<=x.off/\x.off<=1048576 - (x.data.length:Int):=by
 unfold rightW
 rw [Bool.and_eq_true,decide_eq_true_iff,decide_eq_true_iff]
theorem endW_ge (n:Int) (x:Wr):n<=endW n x:=by
 unfold endW
 split
 ·split <;> omega
 ·omega
theorem endW_mono {m n:Int} (h:m<=n) (x:Wr):endW m x<=endW n x:=by
 unfold endW
 split
 ·split <;> split <;> omega
 ·exact h
theorem peakW_mono (l:List Wr):∀ {m n:Int},m<=n->peakW m l<=peakW n l:=by
 induction l with
 | nil=>intro m n h; exact h
 | cons x l ih=>intro m n h; exact ih (endW_mono h x)
theorem allW_snoc (b:Bs) (l:List Wr) (x:Wr):allW b (l ++ [x])=applyW (allW b l) x:=by simp [allW]
theorem endW_le {n:Int} (h:n<=1048576) (x:Wr):endW n x<=1048576:=by
 unfold endW
 split
 ·rename_i hx
  have:=right_iff.1 hx.1
  split <;> omega
 ·exact h
theorem peakW_le (l:List Wr):∀ {n:Int},n<=1048576->peakW n l<=1048576:=by
 induction l with
 | nil=>intro n h; exact h
 | cons x l ih=>intro n h; exact ih (endW_le h x)
theorem applyW_len (b:Bs) (x:Wr):((applyW b x).length:Int)<=endW b.length x:=by
 unfold applyW
 by_cases h:rightW x=false\/(x.cut=false/\x.data=[])
 ·rw [if_pos h]; exact endW_ge _ _
 ·rw [if_neg h]
  have h1:rightW x=true:=by
   cases hr:rightW x with
   | true=>rfl
   | false=>exact absurd (.inl hr) h
  by_cases hc:x.cut=true
  ·rw [if_pos hc]
   have:=endW_ge (b.length:Int) x
   rw [List.length_take]; omega
  ·rw [if_neg hc,over_len]
   have hc:x.cut=false:=by simpa using hc
   have hd:x.data ≠ []:=fun hd=>h (.inr ⟨hc,hd⟩)
   unfold endW
   rw [if_pos ⟨h1,hc,hd⟩]
   have:=right_iff.1 h1
   split <;> omega
theorem allW_len (l:List Wr):∀ b:Bs,((allW b l).length:Int)<=peakW b.length l:=by
 induction l with
 | nil=>intro b; exact Int.le_refl _
 | cons x l ih =>
  intro b
  exact Int.le_trans (ih (applyW b x)) (peakW_mono l (applyW_len b x))
structure Ino where
 b:Bs
 p:List Wr
def nowI (x:Ino):Bs:=allW x.b x.p
structure InoB (x:Ino):Prop where
 b:x.b.length<=1048576
 d:∀ y ∈ x.p,y.data.length<=1048576
theorem now_le {x:Ino} (h:InoB x):(nowI x).length<=1048576:=by
 have h1:=allW_len x.p x.b
 have h2:=peakW_le x.p (n:=(x.b.length:Int)) (by have:=h.b; omega)
 unfold nowI
 omega
def syncI (x:Ino):Ino:=⟨nowI x,[]⟩
end Go.Proofs.YthcdionpeoobbaaGreatDoor
namespace Go.Proofs.YthcdionpeoobbaaGreatDoor
open Go.GV Go.RowKit Go.Lib
abbrev bys (b:Bs):List Value:=b.map bv
def WrP (w:World) (cs:List Value) (x:Wr):Prop:=∃ (B:Option Addr) (m k:Nat),cs=[.bool x.cut,.int .i64 x.off,.slice B m k]/\Sl w 1 B m (bys x.data)/\m<=k
def WSl (w:World) (A:Option Addr) (n:Nat) (l:List Wr):Prop:=∃ vs,Sl w 3 A n vs/\l.length=n/\Ech 3 (WrP w) vs l
def InoAt (w:World) (cs:List Value) (x:Ino):Prop:=∃ (A:Option Addr) (n c:Nat) (A':Option Addr) (n' c':Nat),cs=[.slice A n c,.slice A' n' c']/\Sl w 1 A n (bys x.b)/\n<=c/\WSl w A' n' x.p/\n'<=c'
theorem by_n {w:World} {A:Option Addr} {n:Nat} {b:Bs} (h:Sl w 1 A n (bys b)):b.length=n:=by
 have:=h.1
 simp [bys] at this
 omega
structure Alien (w:World) (b:Nat):Prop where
 s:∀ o x,cellAt w b o ≠ some (.string x)
 u:∀ o x,cellAt w b o ≠ some (.int .u8 x)
 t:∀ o t x A n c,¬ (cellAt w b o=some (.bool t)/\cellAt w b (o+1)=some (.int .i64 x)/\cellAt w b (o+2)=some (.slice A n c))
theorem by_ne {w:World} {A:Option Addr} {n:Nat} {b:Bs} (h:Sl w 1 A n (bys b)) (h0:n ≠ 0) {k:Nat} (hk:blkOf A=some k):¬ Alien w k:=by
 intro ha
 have hl:=by_n h
 obtain ⟨b',o,rfl,hc⟩:=h.2 (by omega)
 injection hk with hk
 have hk:b'=k:=hk
 subst hk
 cases hb:b with
 | nil=>rw [hb] at hl; simp at hl; omega
 | cons x r=>exact ha.u (o+0) x.toNat (hc 0 _ (by rw [hb]; rfl))
theorem by_fr {S:Nat->Prop} {w w':World} {A:Option Addr} {n:Nat} {b:Bs} (h:Sl w 1 A n (bys b)) (f:Fr S w w') (hS:∀ k,S k->Alien w k):Sl w' 1 A n (bys b) :=
 f.sl h (fun h0 k hk hs=>by_ne h h0 hk (hS k hs))
theorem WrP.fr {S:Nat->Prop} {w w':World} {cs:List Value} {x:Wr} (h:WrP w cs x) (f:Fr S w w') (hS:∀ k,S k->Alien w k):WrP w' cs x:=by
 obtain ⟨B,m,k,e,h1,h2⟩:=h
 exact ⟨B,m,k,e,by_fr h1 f hS,h2⟩
theorem WSl.fr {S:Nat->Prop} {w w':World} {A:Option Addr} {n:Nat} {l:List Wr} (h:WSl w A n l) (f:Fr S w w') (hS:∀ k,S k->Alien w k):WSl w' A n l:=by
 obtain ⟨vs,h1,h2,h3⟩:=h
 refine ⟨vs,f.sl h1 (fun h0 k hk hs=>?_),h2,h3.mono (fun cs x hx=>hx.fr f hS)⟩
 have ha:=hS k hs
 have hn:0 < n:=by omega
 have gx:l[0]?=some (l[0]'(by omega)):=List.getElem?_eq_getElem (by omega)
 obtain ⟨b,o,rfl,hc,hl,B,m,k',e,_⟩:=ech_rd h1 h3 (by omega) gx hn
 injection hk with hk
 have hk:b=k:=hk
 subst hk
 rw [e] at hc
 have c0:cellAt w b (o+0 * 3+0)=some (.bool (l[0]'(by omega)).cut):=hc 0 _ rfl
 have c1:cellAt w b (o+0 * 3+0+1)=some (.int .i64 (l[0]'(by omega)).off):=hc 1 _ rfl
 have c2:cellAt w b (o+0 * 3+0+2)=some (.slice B m k'):=hc 2 _ rfl
 exact ha.t _ _ _ _ _ _ ⟨c0,c1,c2⟩
theorem InoAt.fr {S:Nat->Prop} {w w':World} {cs:List Value} {x:Ino} (h:InoAt w cs x) (f:Fr S w w') (hS:∀ k,S k->Alien w k):InoAt w' cs x:=by
 obtain ⟨A,n,c,A',n',c',e,h1,h2,h3,h4⟩:=h
 exact ⟨A,n,c,A',n',c',e,by_fr h1 f hS,h2,h3.fr f hS,h4⟩
theorem InoAt.fr0 {w w':World} {cs:List Value} {x:Ino} (h:InoAt w cs x) (f:Fr (fun _=>False) w w'):InoAt w' cs x:=h.fr f (fun _ h=>h.elim)
theorem WSl.fr0 {w w':World} {A:Option Addr} {n:Nat} {l:List Wr} (h:WSl w A n l) (f:Fr (fun _=>False) w w'):WSl w' A n l:=h.fr f (fun _ h=>h.elim)
theorem WrP.fr0 {w w':World} {cs:List Value} {x:Wr} (h:WrP w cs x) (f:Fr (fun _=>False) w w'):WrP w' cs x:=h.fr f (fun _ h=>h.elim)
theorem nsl_fr {S:Nat->Prop} {w w':World} {A:Option Addr} {n:Nat} {l:List Nm} (h:NSl w A n l) (f:Fr S w w') (hS:∀ k,S k->Alien w k):NSl w' A n l:=by
 refine ⟨f.sl h.1 (fun h0 k hk hs=>?_),h.2⟩
 have ha:=hS k hs
 have hl:=h.2
 obtain ⟨b,o,rfl,hc⟩:=h.1.2 (by omega)
 injection hk with hk
 have hk:b=k:=hk
 subst hk
 cases hb:l with
 | nil=>rw [hb] at hl; simp at hl; omega
 | cons x r=>exact ha.s (o+0) x.1 (hc 0 _ (by rw [hb,flt_cons]; rfl))
theorem csl_fr {S:Nat->Prop} {w w':World} {A:Option Addr} {n:Nat} {l:List Ch} (h:CSl w A n l) (f:Fr S w w') (hS:∀ k,S k->Alien w k):CSl w' A n l:=by
 refine ⟨f.sl h.1 (fun h0 k hk hs=>?_),h.2⟩
 have ha:=hS k hs
 have hl:=h.2
 obtain ⟨b,o,rfl,hc⟩:=h.1.2 (by omega)
 injection hk with hk
 have hk:b=k:=hk
 subst hk
 cases hb:l with
 | nil=>rw [hb] at hl; simp at hl; omega
 | cons x r=>exact ha.s (o+1) x.nm (hc 1 _ (by rw [hb,flt_cons]; rfl))
theorem fo_fr {S:Nat->Prop} {w w':World} {cs:List Value} {F:Fo} (h:FoAt w cs F) (f:Fr S w w') (hS:∀ k,S k->Alien w k):FoAt w' cs F:=by
 obtain ⟨A,n,c,A',n',c',e,h1,h2,h3⟩:=h
 exact ⟨A,n,c,A',n',c',e,nsl_fr h1 f hS,csl_fr h2 f hS,h3⟩
theorem map_alien {w:World} {r:Nat} {f:Int->Option Value} (h:MapI w r f):Alien w r:=by
 obtain ⟨m,c,h,_⟩:=h
 have h:w.heap[r]?=some (.map (m.map (mkE .i64)).toArray c):=h
 have e:∀ o,cellAt w r o=none:=fun o=>by
  unfold cellAt World.cell?
  simp only [h]
 exact ⟨fun o x hx=>(by rw [e] at hx; cases hx),fun o x hx=>(by rw [e] at hx; cases hx),fun o t x A n c hx=>(by rw [e] at hx; cases hx.1)⟩
end Go.Proofs.YthcdionpeoobbaaGreatDoor
