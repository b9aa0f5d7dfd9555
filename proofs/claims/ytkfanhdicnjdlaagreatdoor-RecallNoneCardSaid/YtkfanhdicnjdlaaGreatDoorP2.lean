import Derived.Lib.Bytealg
import Derived.Test.YtkfanhdicnjdlaaGreatDoorP1
set_option linter.unusedVariables false
set_option linter.unusedSimpArgs false
namespace Go.Proofs.YtkfanhdicnjdlaaGreatDoor
open Go.GV
set_option maxRecDepth 100000
open Go.Value renaming int -> VI, slice -> VS, tuple -> VT, pointer -> VP, string -> VG, bool -> VB
open Go.IntKind renaming wrap -> WR
def F121.vc (x0:ByteArray) (x1:ByteArray) (w:World) (Q:QT):Prop :=
 Calls Tryz.prog 141 #[VG x0,VG x1] w fun e2 w1 =>
 ∃ i3:Int,e2=.returned (VI .i64 i3)/\(
 Q (VI .i64 i3) w1)
def F121.an:Ann:=⟨[],[]⟩
theorem F121.of (x0:ByteArray) (x1:ByteArray) (w:World) {Q:QT} (h:F121.vc x0 x1 w Q):Calls Tryz.prog 121 #[VG x0,VG x1] w (fun e w'=>∃ v,e=.returned v/\Q v w'):=vcFn_of (A:=F121.an) noCount mixed h (by kernel_rfl)
def F141.vc (x0:ByteArray) (x1:ByteArray) (w:World) (Q:QT):Prop :=
 extC Tryz.prog 162 #[VG x0,VG x1] w fun v3 w1 =>
 ∃ i4:Int,v3=VI .i64 i4/\(
 Q (VI .i64 i4) w1)
def F141.an:Ann:=⟨[],[]⟩
theorem F141.of (x0:ByteArray) (x1:ByteArray) (w:World) {Q:QT} (h:F141.vc x0 x1 w Q):Calls Tryz.prog 141 #[VG x0,VG x1] w (fun e w'=>∃ v,e=.returned v/\Q v w'):=vcFn_of (A:=F141.an) noCount mixed h (by kernel_rfl)
def F179.vc (x0A:Option Addr) (x0n x0c:Nat) (x1:Int) (x2A:Option Addr) (x2n x2c:Nat) (w:World) (Q:QT):Prop :=
 gd (decide (0<=x1)) <|
 gd (decide (x1<=(x0n:Int))) <|
 vIf ((x2n:Int) == 0)
 (Q (VS x0A x0n x0c) w)
 (vIf (x1 == (x0n:Int))
 (app w 2 24 [VG (⟨#[]⟩:ByteArray),VI .i64 0] 160 x0A x0n x0c (VS x2A x2n x2c) fun A1 n2 c3 w4 =>
 Q (VS A1 n2 c3) w4)
 (vIf (decide ((WR .i64 ((x0n:Int)+(x2n:Int))) > (x0c:Int)))
 (gd (decide (0<=x1)) <|
 gd (decide (x1<=(x0c:Int))) <|
 appZ w 2 24 [VG (⟨#[]⟩:ByteArray),VI .i64 0] 160 (slA x0A x0c 0 2) ((x1).toNat) x0c (WR .i64 ((WR .i64 ((x0n:Int)+(x2n:Int))) - x1)) fun A5 n6 c7 w8 =>
 gd (decide (0<=x1)) <|
 gd (decide (x1<=(n6:Int))) <|
 cpy w8 2 (slA A5 c7 (x1).toNat 2) (n6 - (x1).toNat) (VS x2A x2n x2c) fun n9 w10 =>
 gd (decide (0<=(WR .i64 (x1+(x2n:Int))))) <|
 gd (decide ((WR .i64 (x1+(x2n:Int)))<=(n6:Int))) <|
 gd (decide (0<=x1)) <|
 gd (decide (x1<=(x0n:Int))) <|
 cpy w10.drew 2 (slA A5 c7 ((WR .i64 (x1+(x2n:Int)))).toNat 2) (n6 - ((WR .i64 (x1+(x2n:Int)))).toNat) (VS (slA x0A x0c (x1).toNat 2) (x0n - (x1).toNat) (x0c - (x1).toNat)) fun n11 w12 =>
 Q (VS A5 n6 c7) w12)
 (gd (decide (0<=(WR .i64 ((x0n:Int)+(x2n:Int))))) <|
 gd (decide ((WR .i64 ((x0n:Int)+(x2n:Int)))<=(x0c:Int))) <|
 gd (decide (0<=(WR .i64 (x1+(x2n:Int))))) <|
 gd (decide ((WR .i64 (x1+(x2n:Int)))<=((((WR .i64 ((x0n:Int)+(x2n:Int)))).toNat:Nat):Int))) <|
 extC Tryz.prog 189 #[VS x2A x2n x2c,VS (slA (slA x0A x0c 0 2) x0c ((WR .i64 (x1+(x2n:Int)))).toNat 2) (((WR .i64 ((x0n:Int)+(x2n:Int)))).toNat - ((WR .i64 (x1+(x2n:Int)))).toNat) (x0c - ((WR .i64 (x1+(x2n:Int)))).toNat)] w fun v15 w13 =>
 ∃ t16:Bool,v15=VB t16/\(
 vIf (!t16)
 (gd (decide (0<=(WR .i64 (x1+(x2n:Int))))) <|
 gd (decide ((WR .i64 (x1+(x2n:Int)))<=((((WR .i64 ((x0n:Int)+(x2n:Int)))).toNat:Nat):Int))) <|
 gd (decide (0<=x1)) <|
 gd (decide (x1<=((((WR .i64 ((x0n:Int)+(x2n:Int)))).toNat:Nat):Int))) <|
 cpy w13.drew 2 (slA (slA x0A x0c 0 2) x0c ((WR .i64 (x1+(x2n:Int)))).toNat 2) (((WR .i64 ((x0n:Int)+(x2n:Int)))).toNat - ((WR .i64 (x1+(x2n:Int)))).toNat) (VS (slA (slA x0A x0c 0 2) x0c (x1).toNat 2) (((WR .i64 ((x0n:Int)+(x2n:Int)))).toNat - (x1).toNat) (x0c - (x1).toNat)) fun n17 w18 =>
 gd (decide (0<=x1)) <|
 gd (decide (x1<=((((WR .i64 ((x0n:Int)+(x2n:Int)))).toNat:Nat):Int))) <|
 cpy w18 2 (slA (slA x0A x0c 0 2) x0c (x1).toNat 2) (((WR .i64 ((x0n:Int)+(x2n:Int)))).toNat - (x1).toNat) (VS x2A x2n x2c) fun n19 w20 =>
 Q (VS (slA x0A x0c 0 2) ((WR .i64 ((x0n:Int)+(x2n:Int)))).toNat x0c) w20)
 (gd (decide (0<=(x0n:Int))) <|
 gd (decide ((x0n:Int)<=((((WR .i64 ((x0n:Int)+(x2n:Int)))).toNat:Nat):Int))) <|
 cpy w13 2 (slA (slA x0A x0c 0 2) x0c ((x0n:Int)).toNat 2) (((WR .i64 ((x0n:Int)+(x2n:Int)))).toNat - ((x0n:Int)).toNat) (VS x2A x2n x2c) fun n21 w22 =>
 gd (decide (0<=x1)) <|
 gd (decide (x1<=((((WR .i64 ((x0n:Int)+(x2n:Int)))).toNat:Nat):Int))) <|
 Calls Tryz.prog 190 #[VS (slA (slA x0A x0c 0 2) x0c (x1).toNat 2) (((WR .i64 ((x0n:Int)+(x2n:Int)))).toNat - (x1).toNat) (x0c - (x1).toNat),VI .i64 (x2n:Int)] w22 fun e24 w23 =>
 e24=.returned (VT #[])/\(
 Q (VS (slA x0A x0c 0 2) ((WR .i64 ((x0n:Int)+(x2n:Int)))).toNat x0c) w23))))))
def F179.an:Ann:=⟨[],[]⟩
theorem F179.of (x0A:Option Addr) (x0n x0c:Nat) (x1:Int) (x2A:Option Addr) (x2n x2c:Nat) (w:World) {Q:QT} (h:F179.vc x0A x0n x0c x1 x2A x2n x2c w Q):Calls Tryz.prog 179 #[VS x0A x0n x0c,VI .i64 x1,VS x2A x2n x2c] w (fun e w'=>∃ v,e=.returned v/\Q v w'):=vcFn_of (A:=F179.an) noCount mixed h (by kernel_rfl)
def F180.vc (x0A:Option Addr) (x0n x0c:Nat) (x1:Int) (x2:Int) (w:World) (Q:QT):Prop :=
 gd (decide (0<=(x0n:Int))) <|
 gd (decide ((x0n:Int)<=(x0c:Int))) <|
 gd (decide (0<=x2)) <|
 gd (decide (x2<=((((x0n:Int)).toNat:Nat):Int))) <|
 gd (decide (0<=x1)) <|
 gd (decide (x1<=(((x2).toNat:Nat):Int))) <|
 vIf (x1 == x2)
 (Q (VS x0A x0n x0c) w)
 (gd (decide (0<=x1)) <|
 gd (decide (x1<=(x0c:Int))) <|
 gd (decide (0<=x2)) <|
 gd (decide (x2<=(x0n:Int))) <|
 app w.drew 2 24 [VG (⟨#[]⟩:ByteArray),VI .i64 0] 160 (slA x0A x0c 0 2) ((x1).toNat) x0c (VS (slA x0A x0c (x2).toNat 2) (x0n - (x2).toNat) (x0c - (x2).toNat)) fun A1 n2 c3 w4 =>
 gd (decide (0<=(x0n:Int))) <|
 gd (decide ((x0n:Int)<=(c3:Int))) <|
 gd (decide (0<=(n2:Int))) <|
 gd (decide ((n2:Int)<=((((x0n:Int)).toNat:Nat):Int))) <|
 vIf ((((x0n:Int)).toNat - ((n2:Int)).toNat) == 0)
 (Q (VS A1 n2 c3) w4)
 (dr (slA A1 c3 ((n2:Int)).toNat 2) fun b6 o7 =>
 st w4 b6 o7 (zeros (((x0n:Int)).toNat - ((n2:Int)).toNat) [VG (⟨#[]⟩:ByteArray),VI .i64 0]) fun w5 =>
 Q (VS A1 n2 c3) w5))
def F180.an:Ann:=⟨[],[]⟩
theorem F180.of (x0A:Option Addr) (x0n x0c:Nat) (x1:Int) (x2:Int) (w:World) {Q:QT} (h:F180.vc x0A x0n x0c x1 x2 w Q):Calls Tryz.prog 180 #[VS x0A x0n x0c,VI .i64 x1,VI .i64 x2] w (fun e w'=>∃ v,e=.returned v/\Q v w'):=vcFn_of (A:=F180.an) noCount mixed h (by kernel_rfl)
def F155.vc (x0A:Option Addr) (x0n x0c:Nat) (w:World) (Q:QT):Prop :=
 vIf x0A.isNone
 (Q (VS none 0 0) w)
 (nw w [] 160 fun b1 w2 =>
 app w2 2 24 [VG (⟨#[]⟩:ByteArray),VI .i64 0] 160 (some ⟨b1,0,none⟩) 0 0 (VS x0A x0n x0c) fun A3 n4 c5 w6 =>
 Q (VS A3 n4 c5) w6)
def F155.an:Ann:=⟨[],[]⟩
theorem F155.of (x0A:Option Addr) (x0n x0c:Nat) (w:World) {Q:QT} (h:F155.vc x0A x0n x0c w Q):Calls Tryz.prog 155 #[VS x0A x0n x0c] w (fun e w'=>∃ v,e=.returned v/\Q v w'):=vcFn_of (A:=F155.an) noCount mixed h (by kernel_rfl)
def F152.vc (x0A:Option Addr) (x0n x0c:Nat) (w:World) (Q:QT):Prop :=
 vIf x0A.isNone
 (Q (VS none 0 0) w)
 (nw w [] 185 fun b1 w2 =>
 app w2 4 48 Z185 185 (some ⟨b1,0,none⟩) 0 0 (VS x0A x0n x0c) fun A3 n4 c5 w6 =>
 Q (VS A3 n4 c5) w6)
def F152.an:Ann:=⟨[],[]⟩
theorem F152.of (x0A:Option Addr) (x0n x0c:Nat) (w:World) {Q:QT} (h:F152.vc x0A x0n x0c w Q):Calls Tryz.prog 152 #[VS x0A x0n x0c] w (fun e w'=>∃ v,e=.returned v/\Q v w'):=vcFn_of (A:=F152.an) noCount mixed h (by kernel_rfl)
def F194s.b1c (Q:QT) (C1:(ST×Int×Int×Int×Int×Unit)->WT) (x0:ST) (x1:Int) (x2:Int) (x3:Int) (x10:Int) (w:World):Prop :=
 vIf (decide (x10 < x3))
 (dr x0.1 fun b1 o2 =>
 gd (decide (0<=(WR .i64 (x2+x10)))) <|
 gd (decide ((WR .i64 (x2+x10)) < (x0.2.1:Int))) <|
 ldA 2 w.drew b1 (o2+((WR .i64 (x2+x10))).toNat * 2) fun a3 =>
 dr x0.1 fun b4 o5 =>
 gd (decide (0<=(WR .i64 (x1+x10)))) <|
 gd (decide ((WR .i64 (x1+x10)) < (x0.2.1:Int))) <|
 ldA 2 w.drew b4 (o5+((WR .i64 (x1+x10))).toNat * 2) fun a6 =>
 dr x0.1 fun b7 o8 =>
 gd (decide (0<=(WR .i64 (x1+x10)))) <|
 gd (decide ((WR .i64 (x1+x10)) < (x0.2.1:Int))) <|
 gd (a3.length == 2) <|
 st w.drew b7 (o8+((WR .i64 (x1+x10))).toNat * 2) a3 fun w9 =>
 dr x0.1 fun b10 o11 =>
 gd (decide (0<=(WR .i64 (x2+x10)))) <|
 gd (decide ((WR .i64 (x2+x10)) < (x0.2.1:Int))) <|
 gd (a6.length == 2) <|
 st w9 b10 (o11+((WR .i64 (x2+x10))).toNat * 2) a6 fun w12 =>
 jnC C1 ((x0.1,x0.2.1,x0.2.2),x1,x2,x3,((WR .i64 (x10+1))),()) w12)
 (Q (VT #[]) w)
def F194s.b1 (Q:QT):(ST×Int×Int×Int×Int×Unit)->World->((ST×Int×Int×Int×Int×Unit)->WT)->Prop:=fun s w C1=>∀ _:Nat->Value,F194s.b1c Q C1 s.1 s.2.1 s.2.2.1 s.2.2.2.1 s.2.2.2.2.1 w
def F194s.l1 (Q:QT):(ST×Int×Int×Int×Int×Unit)->WT:=fun s w=>∃ n,loopC (F194s.b1 Q) n s w
def F194s.vc (x0A:Option Addr) (x0n x0c:Nat) (x1:Int) (x2:Int) (x3:Int) (w:World) (Q:QT):Prop :=
 jnC (F194s.l1 Q) ((x0A,x0n,x0c),x1,x2,x3,(0),()) w
def F194s.an:Ann:=⟨[(1,[(0,.kSl),(1,.kI .i64),(2,.kI .i64),(3,.kI .i64),(10,.kI .i64)])],[]⟩
theorem F194s.of (x0A:Option Addr) (x0n x0c:Nat) (x1:Int) (x2:Int) (x3:Int) (w:World) {Q:QT} (h:F194s.vc x0A x0n x0c x1 x2 x3 w Q):Calls Tryz.prog 194 #[VS x0A x0n x0c,VI .i64 x1,VI .i64 x2,VI .i64 x3,Value.func (.func 157) #[] #[]] w (fun e w'=>∃ v,e=.returned v/\Q v w'):=vcFn_of (A:=F194s.an) noCount mixed h (by kernel_rfl)
def F192s.b2c (Q:QT) (C2:(ST×Int×Unit×Int×Int×Unit)->WT) (x0:ST) (x2:Int) (x4:Unit) (x10:Int) (x11:Int) (w:World):Prop :=
 vIf (x10 != x11)
 (vIf (decide (x10 > x11))
 (Calls Tryz.prog 194 #[VS x0.1 x0.2.1 x0.2.2,VI .i64 (WR .i64 (x2 - x10)),VI .i64 x2,VI .i64 x11,Value.func (.func 157) #[] #[]] w fun e2 w1 =>
 e2=.returned (VT #[])/\(
 jnC C2 ((x0.1,x0.2.1,x0.2.2),x2,(),((WR .i64 (x10 - x11))),x11,()) w1))
 (Calls Tryz.prog 194 #[VS x0.1 x0.2.1 x0.2.2,VI .i64 (WR .i64 (x2 - x10)),VI .i64 (WR .i64 ((WR .i64 (x2+x11)) - x10)),VI .i64 x10,Value.func (.func 157) #[] #[]] w fun e4 w3 =>
 e4=.returned (VT #[])/\(
 jnC C2 ((x0.1,x0.2.1,x0.2.2),x2,(),x10,((WR .i64 (x11 - x10))),()) w3)))
 (Calls Tryz.prog 194 #[VS x0.1 x0.2.1 x0.2.2,VI .i64 (WR .i64 (x2 - x10)),VI .i64 x2,VI .i64 x10,Value.func (.func 157) #[] #[]] w fun e6 w5 =>
 e6=.returned (VT #[])/\(
 Q (VT #[]) w5))
def F192s.b2 (Q:QT):(ST×Int×Unit×Int×Int×Unit)->World->((ST×Int×Unit×Int×Int×Unit)->WT)->Prop:=fun s w C2=>∀ _:Nat->Value,F192s.b2c Q C2 s.1 s.2.1 s.2.2.1 s.2.2.2.1 s.2.2.2.2.1 w
def F192s.l2 (Q:QT):(ST×Int×Unit×Int×Int×Unit)->WT:=fun s w=>∃ n,loopC (F192s.b2 Q) n s w
def F192s.vc (x0A:Option Addr) (x0n x0c:Nat) (x1:Int) (x2:Int) (x3:Int) (w:World) (Q:QT):Prop :=
 jnC (F192s.l2 Q) ((x0A,x0n,x0c),x2,(),((WR .i64 (x2 - x1))),((WR .i64 (x3 - x2))),()) w
def F192s.an:Ann:=⟨[(2,[(0,.kSl),(2,.kI .i64),(4,.kF 157),(10,.kI .i64),(11,.kI .i64)])],[]⟩
theorem F192s.of (x0A:Option Addr) (x0n x0c:Nat) (x1:Int) (x2:Int) (x3:Int) (w:World) {Q:QT} (h:F192s.vc x0A x0n x0c x1 x2 x3 w Q):Calls Tryz.prog 192 #[VS x0A x0n x0c,VI .i64 x1,VI .i64 x2,VI .i64 x3,Value.func (.func 157) #[] #[]] w (fun e w'=>∃ v,e=.returned v/\Q v w'):=vcFn_of (A:=F192s.an) noCount mixed h (by kernel_rfl)
def F188s.b9c (Q:QT) (C9:(ST×Int×Int×Unit)->WT) (x0:ST) (x10:Int) (x13:Int) (w:World):Prop :=
 vIf (decide (x13 < (WR .i64 (x10 - 1))))
 (dr x0.1 fun b10 o11 =>
 gd (decide (0<=(WR .i64 (x13+1)))) <|
 gd (decide ((WR .i64 (x13+1)) < (x0.2.1:Int))) <|
 ldA 2 w.drew b10 (o11+((WR .i64 (x13+1))).toNat * 2) fun a12 =>
 dr x0.1 fun b13 o14 =>
 gd (decide (0<=x13)) <|
 gd (decide (x13 < (x0.2.1:Int))) <|
 ldA 2 w.drew b13 (o14+(x13).toNat * 2) fun a15 =>
 dr x0.1 fun b16 o17 =>
 gd (decide (0<=x13)) <|
 gd (decide (x13 < (x0.2.1:Int))) <|
 gd (a12.length == 2) <|
 st w.drew b16 (o17+(x13).toNat * 2) a12 fun w18 =>
 dr x0.1 fun b19 o20 =>
 gd (decide (0<=(WR .i64 (x13+1)))) <|
 gd (decide ((WR .i64 (x13+1)) < (x0.2.1:Int))) <|
 gd (a15.length == 2) <|
 st w18 b19 (o20+((WR .i64 (x13+1))).toNat * 2) a15 fun w21 =>
 jnC C9 ((x0.1,x0.2.1,x0.2.2),x10,((WR .i64 (x13+1))),()) w21)
 (Q (VT #[]) w)
def F188s.b9 (Q:QT):(ST×Int×Int×Unit)->World->((ST×Int×Int×Unit)->WT)->Prop:=fun s w C9=>∀ _:Nat->Value,F188s.b9c Q C9 s.1 s.2.1 s.2.2.1 w
def F188s.l9 (Q:QT):(ST×Int×Int×Unit)->WT:=fun s w=>∃ n,loopC (F188s.b9 Q) n s w
def F188s.b3c (Q:QT) (C3:(ST×Int×Unit×Int×Int×Unit)->WT) (x0:ST) (x1:Int) (x4:Unit) (x10:Int) (x11:Int) (w:World):Prop :=
 vIf (decide (x10 < x11))
 (dr x0.1 fun b1 o2 =>
 gd (decide (0<=(WR .i64 (Int.fdiv (WR .u64 (WR .i64 (x10+x11))) (2 ^ 1))))) <|
 gd (decide ((WR .i64 (Int.fdiv (WR .u64 (WR .i64 (x10+x11))) (2 ^ 1))) < (x0.2.1:Int))) <|
 ldA 2 w.drew b1 (o2+((WR .i64 (Int.fdiv (WR .u64 (WR .i64 (x10+x11))) (2 ^ 1)))).toNat * 2) fun a3 =>
 dr x0.1 fun b4 o5 =>
 gd (decide (0<=x1)) <|
 gd (decide (x1 < (x0.2.1:Int))) <|
 ldA 2 w.drew b4 (o5+(x1).toNat * 2) fun a6 =>
 Calls Tryz.prog 157 #[ofL a3,ofL a6] w.drew fun e8 w7 =>
 ∃ i9:Int,e8=.returned (VI .i64 i9)/\(
 vIf (decide (i9 < 0))
 (jnC C3 ((x0.1,x0.2.1,x0.2.2),x1,(),((WR .i64 ((WR .i64 (Int.fdiv (WR .u64 (WR .i64 (x10+x11))) (2 ^ 1)))+1))),x11,()) w7)
 (jnC C3 ((x0.1,x0.2.1,x0.2.2),x1,(),x10,((WR .i64 (Int.fdiv (WR .u64 (WR .i64 (x10+x11))) (2 ^ 1)))),()) w7)))
 (jnC (F188s.l9 Q) ((x0.1,x0.2.1,x0.2.2),x10,x1,()) w)
def F188s.b3 (Q:QT):(ST×Int×Unit×Int×Int×Unit)->World->((ST×Int×Unit×Int×Int×Unit)->WT)->Prop:=fun s w C3=>∀ _:Nat->Value,F188s.b3c Q C3 s.1 s.2.1 s.2.2.1 s.2.2.2.1 s.2.2.2.2.1 w
def F188s.l3 (Q:QT):(ST×Int×Unit×Int×Int×Unit)->WT:=fun s w=>∃ n,loopC (F188s.b3 Q) n s w
def F188s.b21c (Q:QT) (C21:(ST×Int×Int×Unit)->WT) (x0:ST) (x14:Int) (x17:Int) (w:World):Prop :=
 vIf (decide (x17 > x14))
 (dr x0.1 fun b31 o32 =>
 gd (decide (0<=(WR .i64 (x17 - 1)))) <|
 gd (decide ((WR .i64 (x17 - 1)) < (x0.2.1:Int))) <|
 ldA 2 w.drew b31 (o32+((WR .i64 (x17 - 1))).toNat * 2) fun a33 =>
 dr x0.1 fun b34 o35 =>
 gd (decide (0<=x17)) <|
 gd (decide (x17 < (x0.2.1:Int))) <|
 ldA 2 w.drew b34 (o35+(x17).toNat * 2) fun a36 =>
 dr x0.1 fun b37 o38 =>
 gd (decide (0<=x17)) <|
 gd (decide (x17 < (x0.2.1:Int))) <|
 gd (a33.length == 2) <|
 st w.drew b37 (o38+(x17).toNat * 2) a33 fun w39 =>
 dr x0.1 fun b40 o41 =>
 gd (decide (0<=(WR .i64 (x17 - 1)))) <|
 gd (decide ((WR .i64 (x17 - 1)) < (x0.2.1:Int))) <|
 gd (a36.length == 2) <|
 st w39 b40 (o41+((WR .i64 (x17 - 1))).toNat * 2) a36 fun w42 =>
 jnC C21 ((x0.1,x0.2.1,x0.2.2),x14,((WR .i64 (x17 - 1))),()) w42)
 (Q (VT #[]) w)
def F188s.b21 (Q:QT):(ST×Int×Int×Unit)->World->((ST×Int×Int×Unit)->WT)->Prop:=fun s w C21=>∀ _:Nat->Value,F188s.b21c Q C21 s.1 s.2.1 s.2.2.1 w
def F188s.l21 (Q:QT):(ST×Int×Int×Unit)->WT:=fun s w=>∃ n,loopC (F188s.b21 Q) n s w
def F188s.b15c (Q:QT) (C15:(ST×Int×Unit×Int×Int×Unit)->WT) (x0:ST) (x2:Int) (x4:Unit) (x14:Int) (x15:Int) (w:World):Prop :=
 vIf (decide (x14 < x15))
 (dr x0.1 fun b22 o23 =>
 gd (decide (0<=x2)) <|
 gd (decide (x2 < (x0.2.1:Int))) <|
 ldA 2 w.drew b22 (o23+(x2).toNat * 2) fun a24 =>
 dr x0.1 fun b25 o26 =>
 gd (decide (0<=(WR .i64 (Int.fdiv (WR .u64 (WR .i64 (x14+x15))) (2 ^ 1))))) <|
 gd (decide ((WR .i64 (Int.fdiv (WR .u64 (WR .i64 (x14+x15))) (2 ^ 1))) < (x0.2.1:Int))) <|
 ldA 2 w.drew b25 (o26+((WR .i64 (Int.fdiv (WR .u64 (WR .i64 (x14+x15))) (2 ^ 1)))).toNat * 2) fun a27 =>
 Calls Tryz.prog 157 #[ofL a24,ofL a27] w.drew fun e29 w28 =>
 ∃ i30:Int,e29=.returned (VI .i64 i30)/\(
 vIf (!(decide (i30 < 0)))
 (jnC C15 ((x0.1,x0.2.1,x0.2.2),x2,(),((WR .i64 ((WR .i64 (Int.fdiv (WR .u64 (WR .i64 (x14+x15))) (2 ^ 1)))+1))),x15,()) w28)
 (jnC C15 ((x0.1,x0.2.1,x0.2.2),x2,(),x14,((WR .i64 (Int.fdiv (WR .u64 (WR .i64 (x14+x15))) (2 ^ 1)))),()) w28)))
 (jnC (F188s.l21 Q) ((x0.1,x0.2.1,x0.2.2),x14,x2,()) w)
def F188s.b15 (Q:QT):(ST×Int×Unit×Int×Int×Unit)->World->((ST×Int×Unit×Int×Int×Unit)->WT)->Prop:=fun s w C15=>∀ _:Nat->Value,F188s.b15c Q C15 s.1 s.2.1 s.2.2.1 s.2.2.2.1 s.2.2.2.2.1 w
def F188s.l15 (Q:QT):(ST×Int×Unit×Int×Int×Unit)->WT:=fun s w=>∃ n,loopC (F188s.b15 Q) n s w
def F188s.k44c (Q:QT) (x0:ST) (x3:Int) (x4:Unit) (x18:Int) (x24:Int) (x213:Bool) (w:World):Prop :=
 vIf x213
 (Calls Tryz.prog 188 #[VS x0.1 x0.2.1 x0.2.2,VI .i64 x18,VI .i64 x24,VI .i64 x3,Value.func (.func 157) #[] #[]] w fun e57 w56 =>
 e57=.returned (VT #[])/\(
 Q (VT #[]) w56))
 (Q (VT #[]) w)
def F188s.k44 (Q:QT):(ST×Int×Unit×Int×Int×Bool×Unit)->WT:=fun s w=>∀ _:Nat->Value,F188s.k44c Q s.1 s.2.1 s.2.2.1 s.2.2.2.1 s.2.2.2.2.1 s.2.2.2.2.2.1 w
def F188s.k43c (Q:QT) (x0:ST) (x3:Int) (x4:Unit) (x18:Int) (x24:Int) (w:World):Prop :=
 vIf (decide (x18 < x24))
 (jnC (F188s.k44 Q) ((x0.1,x0.2.1,x0.2.2),x3,(),x18,x24,(decide (x24 < x3)),()) w)
 (jnC (F188s.k44 Q) ((x0.1,x0.2.1,x0.2.2),x3,(),x18,x24,false,()) w)
def F188s.k43 (Q:QT):(ST×Int×Unit×Int×Int×Unit)->WT:=fun s w=>∀ _:Nat->Value,F188s.k43c Q s.1 s.2.1 s.2.2.1 s.2.2.2.1 s.2.2.2.2.1 w
def F188s.k42c (Q:QT) (x0:ST) (x1:Int) (x3:Int) (x4:Unit) (x18:Int) (x20:Int) (x24:Int) (x199:Bool) (w:World):Prop :=
 vIf x199
 (Calls Tryz.prog 188 #[VS x0.1 x0.2.1 x0.2.2,VI .i64 x1,VI .i64 x20,VI .i64 x18,Value.func (.func 157) #[] #[]] w fun e55 w54 =>
 e55=.returned (VT #[])/\(
 jnC (F188s.k43 Q) ((x0.1,x0.2.1,x0.2.2),x3,(),x18,x24,()) w54))
 (jnC (F188s.k43 Q) ((x0.1,x0.2.1,x0.2.2),x3,(),x18,x24,()) w)
def F188s.k42 (Q:QT):(ST×Int×Int×Unit×Int×Int×Int×Bool×Unit)->WT:=fun s w=>∀ _:Nat->Value,F188s.k42c Q s.1 s.2.1 s.2.2.1 s.2.2.2.1 s.2.2.2.2.1 s.2.2.2.2.2.1 s.2.2.2.2.2.2.1 s.2.2.2.2.2.2.2.1 w
def F188s.k41c (Q:QT) (x0:ST) (x1:Int) (x3:Int) (x4:Unit) (x18:Int) (x20:Int) (x24:Int) (w:World):Prop :=
 vIf (decide (x1 < x20))
 (jnC (F188s.k42 Q) ((x0.1,x0.2.1,x0.2.2),x1,x3,(),x18,x20,x24,(decide (x20 < x18)),()) w)
 (jnC (F188s.k42 Q) ((x0.1,x0.2.1,x0.2.2),x1,x3,(),x18,x20,x24,false,()) w)
def F188s.k41 (Q:QT):(ST×Int×Int×Unit×Int×Int×Int×Unit)->WT:=fun s w=>∀ _:Nat->Value,F188s.k41c Q s.1 s.2.1 s.2.2.1 s.2.2.2.1 s.2.2.2.2.1 s.2.2.2.2.2.1 s.2.2.2.2.2.2.1 w
def F188s.k40c (Q:QT) (x0:ST) (x1:Int) (x2:Int) (x3:Int) (x4:Unit) (x18:Int) (x20:Int) (x24:Int) (x185:Bool) (w:World):Prop :=
 vIf x185
 (Calls Tryz.prog 192 #[VS x0.1 x0.2.1 x0.2.2,VI .i64 x20,VI .i64 x2,VI .i64 x24,Value.func (.func 157) #[] #[]] w fun e53 w52 =>
 e53=.returned (VT #[])/\(
 jnC (F188s.k41 Q) ((x0.1,x0.2.1,x0.2.2),x1,x3,(),x18,x20,x24,()) w52))
 (jnC (F188s.k41 Q) ((x0.1,x0.2.1,x0.2.2),x1,x3,(),x18,x20,x24,()) w)
def F188s.k40 (Q:QT):(ST×Int×Int×Int×Unit×Int×Int×Int×Bool×Unit)->WT:=fun s w=>∀ _:Nat->Value,F188s.k40c Q s.1 s.2.1 s.2.2.1 s.2.2.2.1 s.2.2.2.2.1 s.2.2.2.2.2.1 s.2.2.2.2.2.2.1 s.2.2.2.2.2.2.2.1 s.2.2.2.2.2.2.2.2.1 w
def F188s.b33c (Q:QT) (C33:(ST×Int×Int×Int×Unit×Int×Int×Int×Int×Int×Unit)->WT) (x0:ST) (x1:Int) (x2:Int) (x3:Int) (x4:Unit) (x18:Int) (x19:Int) (x20:Int) (x21:Int) (x22:Int) (w:World):Prop :=
 vIf (decide (x20 < x21))
 (dr x0.1 fun b43 o44 =>
 gd (decide (0<=(WR .i64 (x22 - (WR .i64 (Int.fdiv (WR .u64 (WR .i64 (x20+x21))) (2 ^ 1))))))) <|
 gd (decide ((WR .i64 (x22 - (WR .i64 (Int.fdiv (WR .u64 (WR .i64 (x20+x21))) (2 ^ 1))))) < (x0.2.1:Int))) <|
 ldA 2 w.drew b43 (o44+((WR .i64 (x22 - (WR .i64 (Int.fdiv (WR .u64 (WR .i64 (x20+x21))) (2 ^ 1)))))).toNat * 2) fun a45 =>
 dr x0.1 fun b46 o47 =>
 gd (decide (0<=(WR .i64 (Int.fdiv (WR .u64 (WR .i64 (x20+x21))) (2 ^ 1))))) <|
 gd (decide ((WR .i64 (Int.fdiv (WR .u64 (WR .i64 (x20+x21))) (2 ^ 1))) < (x0.2.1:Int))) <|
 ldA 2 w.drew b46 (o47+((WR .i64 (Int.fdiv (WR .u64 (WR .i64 (x20+x21))) (2 ^ 1)))).toNat * 2) fun a48 =>
 Calls Tryz.prog 157 #[ofL a45,ofL a48] w.drew fun e50 w49 =>
 ∃ i51:Int,e50=.returned (VI .i64 i51)/\(
 vIf (!(decide (i51 < 0)))
 (jnC C33 ((x0.1,x0.2.1,x0.2.2),x1,x2,x3,(),x18,x19,((WR .i64 ((WR .i64 (Int.fdiv (WR .u64 (WR .i64 (x20+x21))) (2 ^ 1)))+1))),x21,x22,()) w49)
 (jnC C33 ((x0.1,x0.2.1,x0.2.2),x1,x2,x3,(),x18,x19,x20,((WR .i64 (Int.fdiv (WR .u64 (WR .i64 (x20+x21))) (2 ^ 1)))),x22,()) w49)))
 (vIf (decide (x20 < x2))
 (jnC (F188s.k40 Q) ((x0.1,x0.2.1,x0.2.2),x1,x2,x3,(),x18,x20,((WR .i64 (x19 - x20))),(decide (x2 < (WR .i64 (x19 - x20)))),()) w)
 (jnC (F188s.k40 Q) ((x0.1,x0.2.1,x0.2.2),x1,x2,x3,(),x18,x20,((WR .i64 (x19 - x20))),false,()) w))
def F188s.b33 (Q:QT):(ST×Int×Int×Int×Unit×Int×Int×Int×Int×Int×Unit)->World->((ST×Int×Int×Int×Unit×Int×Int×Int×Int×Int×Unit)->WT)->Prop:=fun s w C33=>∀ _:Nat->Value,F188s.b33c Q C33 s.1 s.2.1 s.2.2.1 s.2.2.2.1 s.2.2.2.2.1 s.2.2.2.2.2.1 s.2.2.2.2.2.2.1 s.2.2.2.2.2.2.2.1 s.2.2.2.2.2.2.2.2.1 s.2.2.2.2.2.2.2.2.2.1 w
def F188s.l33 (Q:QT):(ST×Int×Int×Int×Unit×Int×Int×Int×Int×Int×Unit)->WT:=fun s w=>∃ n,loopC (F188s.b33 Q) n s w
def F188s.k32c (Q:QT) (x0:ST) (x1:Int) (x2:Int) (x3:Int) (x4:Unit) (x18:Int) (x19:Int) (x20:Int) (x21:Int) (w:World):Prop :=
 jnC (F188s.l33 Q) ((x0.1,x0.2.1,x0.2.2),x1,x2,x3,(),x18,x19,x20,x21,((WR .i64 (x19 - 1))),()) w
def F188s.k32 (Q:QT):(ST×Int×Int×Int×Unit×Int×Int×Int×Int×Unit)->WT:=fun s w=>∀ _:Nat->Value,F188s.k32c Q s.1 s.2.1 s.2.2.1 s.2.2.2.1 s.2.2.2.2.1 s.2.2.2.2.2.1 s.2.2.2.2.2.2.1 s.2.2.2.2.2.2.2.1 s.2.2.2.2.2.2.2.2.1 w
def F188s.vc (x0A:Option Addr) (x0n x0c:Nat) (x1:Int) (x2:Int) (x3:Int) (w:World) (Q:QT):Prop :=
 vIf ((WR .i64 (x2 - x1)) == 1)
 (jnC (F188s.l3 Q) ((x0A,x0n,x0c),x1,(),x2,x3,()) w)
 (vIf ((WR .i64 (x3 - x2)) == 1)
 (jnC (F188s.l15 Q) ((x0A,x0n,x0c),x2,(),x1,x2,()) w)
 (vIf (decide (x2 > (WR .i64 (Int.fdiv (WR .u64 (WR .i64 (x1+x3))) (2 ^ 1)))))
 (jnC (F188s.k32 Q) ((x0A,x0n,x0c),x1,x2,x3,(),((WR .i64 (Int.fdiv (WR .u64 (WR .i64 (x1+x3))) (2 ^ 1)))),((WR .i64 ((WR .i64 (Int.fdiv (WR .u64 (WR .i64 (x1+x3))) (2 ^ 1)))+x2))),((WR .i64 ((WR .i64 ((WR .i64 (Int.fdiv (WR .u64 (WR .i64 (x1+x3))) (2 ^ 1)))+x2)) - x3))),((WR .i64 (Int.fdiv (WR .u64 (WR .i64 (x1+x3))) (2 ^ 1)))),()) w)
 (jnC (F188s.k32 Q) ((x0A,x0n,x0c),x1,x2,x3,(),((WR .i64 (Int.fdiv (WR .u64 (WR .i64 (x1+x3))) (2 ^ 1)))),((WR .i64 ((WR .i64 (Int.fdiv (WR .u64 (WR .i64 (x1+x3))) (2 ^ 1)))+x2))),x1,x2,()) w)))
def F188s.an:Ann:=⟨[(3,[(0,.kSl),(1,.kI .i64),(4,.kF 157),(10,.kI .i64),(11,.kI .i64)]),(9,[(0,.kSl),(10,.kI .i64),(13,.kI .i64)]),(15,[(0,.kSl),(2,.kI .i64),(4,.kF 157),(14,.kI .i64),(15,.kI .i64)]),(21,[(0,.kSl),(14,.kI .i64),(17,.kI .i64)]),(33,[(0,.kSl),(1,.kI .i64),(2,.kI .i64),(3,.kI .i64),(4,.kF 157),(18,.kI .i64),(19,.kI .i64),(20,.kI .i64),(21,.kI .i64),(22,.kI .i64)])],[(32,[(0,.kSl),(1,.kI .i64),(2,.kI .i64),(3,.kI .i64),(4,.kF 157),(18,.kI .i64),(19,.kI .i64),(20,.kI .i64),(21,.kI .i64)]),(40,[(0,.kSl),(1,.kI .i64),(2,.kI .i64),(3,.kI .i64),(4,.kF 157),(18,.kI .i64),(20,.kI .i64),(24,.kI .i64),(185,.kB)]),(41,[(0,.kSl),(1,.kI .i64),(3,.kI .i64),(4,.kF 157),(18,.kI .i64),(20,.kI .i64),(24,.kI .i64)]),(42,[(0,.kSl),(1,.kI .i64),(3,.kI .i64),(4,.kF 157),(18,.kI .i64),(20,.kI .i64),(24,.kI .i64),(199,.kB)]),(43,[(0,.kSl),(3,.kI .i64),(4,.kF 157),(18,.kI .i64),(24,.kI .i64)]),(44,[(0,.kSl),(3,.kI .i64),(4,.kF 157),(18,.kI .i64),(24,.kI .i64),(213,.kB)])]⟩
theorem F188s.of (x0A:Option Addr) (x0n x0c:Nat) (x1:Int) (x2:Int) (x3:Int) (w:World) {Q:QT} (h:F188s.vc x0A x0n x0c x1 x2 x3 w Q):Calls Tryz.prog 188 #[VS x0A x0n x0c,VI .i64 x1,VI .i64 x2,VI .i64 x3,Value.func (.func 157) #[] #[]] w (fun e w'=>∃ v,e=.returned v/\Q v w'):=vcFn_of (A:=F188s.an) noCount mixed h (by kernel_rfl)
def F187s.k6c (Q:QT) (C1:(ST×Int×Int×Unit×Int×Unit)->WT) (C4:(ST×Int×Int×Unit×Int×Int×Unit)->WT) (x0:ST) (x1:Int) (x2:Int) (x3:Unit) (x8:Int) (x9:Int) (w:World):Prop :=
 dr x0.1 fun b10 o11 =>
 gd (decide (0<=(WR .i64 (x9 - 1)))) <|
 gd (decide ((WR .i64 (x9 - 1)) < (x0.2.1:Int))) <|
 ldA 2 w.drew b10 (o11+((WR .i64 (x9 - 1))).toNat * 2) fun a12 =>
 dr x0.1 fun b13 o14 =>
 gd (decide (0<=x9)) <|
 gd (decide (x9 < (x0.2.1:Int))) <|
 ldA 2 w.drew b13 (o14+(x9).toNat * 2) fun a15 =>
 dr x0.1 fun b16 o17 =>
 gd (decide (0<=x9)) <|
 gd (decide (x9 < (x0.2.1:Int))) <|
 gd (a12.length == 2) <|
 st w.drew b16 (o17+(x9).toNat * 2) a12 fun w18 =>
 dr x0.1 fun b19 o20 =>
 gd (decide (0<=(WR .i64 (x9 - 1)))) <|
 gd (decide ((WR .i64 (x9 - 1)) < (x0.2.1:Int))) <|
 gd (a15.length == 2) <|
 st w18 b19 (o20+((WR .i64 (x9 - 1))).toNat * 2) a15 fun w21 =>
 jnC C4 ((x0.1,x0.2.1,x0.2.2),x1,x2,(),x8,((WR .i64 (x9 - 1))),()) w21
def F187s.k6 (Q:QT) (C1:(ST×Int×Int×Unit×Int×Unit)->WT) (C4:(ST×Int×Int×Unit×Int×Int×Unit)->WT):(ST×Int×Int×Unit×Int×Int×Unit)->WT:=fun s w=>∀ _:Nat->Value,F187s.k6c Q C1 C4 s.1 s.2.1 s.2.2.1 s.2.2.2.1 s.2.2.2.2.1 s.2.2.2.2.2.1 w
def F187s.b4c (Q:QT) (C1:(ST×Int×Int×Unit×Int×Unit)->WT) (C4:(ST×Int×Int×Unit×Int×Int×Unit)->WT) (x0:ST) (x1:Int) (x2:Int) (x3:Unit) (x8:Int) (x9:Int) (w:World):Prop :=
 vIf (decide (x9 > x1))
 (dr x0.1 fun b1 o2 =>
 gd (decide (0<=x9)) <|
 gd (decide (x9 < (x0.2.1:Int))) <|
 ldA 2 w.drew b1 (o2+(x9).toNat * 2) fun a3 =>
 dr x0.1 fun b4 o5 =>
 gd (decide (0<=(WR .i64 (x9 - 1)))) <|
 gd (decide ((WR .i64 (x9 - 1)) < (x0.2.1:Int))) <|
 ldA 2 w.drew b4 (o5+((WR .i64 (x9 - 1))).toNat * 2) fun a6 =>
 Calls Tryz.prog 157 #[ofL a3,ofL a6] w.drew fun e8 w7 =>
 ∃ i9:Int,e8=.returned (VI .i64 i9)/\(
 vIf (decide (i9 < 0))
 (jnC (F187s.k6 Q C1 C4) ((x0.1,x0.2.1,x0.2.2),x1,x2,(),x8,x9,()) w7)
 (jnC C1 ((x0.1,x0.2.1,x0.2.2),x1,x2,(),((WR .i64 (x8+1))),()) w7)))
 (jnC C1 ((x0.1,x0.2.1,x0.2.2),x1,x2,(),((WR .i64 (x8+1))),()) w.drew)
def F187s.b4 (Q:QT) (C1:(ST×Int×Int×Unit×Int×Unit)->WT):(ST×Int×Int×Unit×Int×Int×Unit)->World->((ST×Int×Int×Unit×Int×Int×Unit)->WT)->Prop:=fun s w C4=>∀ _:Nat->Value,F187s.b4c Q C1 C4 s.1 s.2.1 s.2.2.1 s.2.2.2.1 s.2.2.2.2.1 s.2.2.2.2.2.1 w
def F187s.l4 (Q:QT) (C1:(ST×Int×Int×Unit×Int×Unit)->WT):(ST×Int×Int×Unit×Int×Int×Unit)->WT:=fun s w=>∃ n,loopC (F187s.b4 Q C1) n s w
def F187s.b1c (Q:QT) (C1:(ST×Int×Int×Unit×Int×Unit)->WT) (x0:ST) (x1:Int) (x2:Int) (x3:Unit) (x8:Int) (w:World):Prop :=
 vIf (decide (x8 < x2))
 (jnC (F187s.l4 Q C1) ((x0.1,x0.2.1,x0.2.2),x1,x2,(),x8,x8,()) w)
 (Q (VT #[]) w)
def F187s.b1 (Q:QT):(ST×Int×Int×Unit×Int×Unit)->World->((ST×Int×Int×Unit×Int×Unit)->WT)->Prop:=fun s w C1=>∀ _:Nat->Value,F187s.b1c Q C1 s.1 s.2.1 s.2.2.1 s.2.2.2.1 s.2.2.2.2.1 w
def F187s.l1 (Q:QT):(ST×Int×Int×Unit×Int×Unit)->WT:=fun s w=>∃ n,loopC (F187s.b1 Q) n s w
def F187s.vc (x0A:Option Addr) (x0n x0c:Nat) (x1:Int) (x2:Int) (w:World) (Q:QT):Prop :=
 jnC (F187s.l1 Q) ((x0A,x0n,x0c),x1,x2,(),((WR .i64 (x1+1))),()) w
def F187s.an:Ann:=⟨[(1,[(0,.kSl),(1,.kI .i64),(2,.kI .i64),(3,.kF 157),(8,.kI .i64)]),(4,[(0,.kSl),(1,.kI .i64),(2,.kI .i64),(3,.kF 157),(8,.kI .i64),(9,.kI .i64)])],[(6,[(0,.kSl),(1,.kI .i64),(2,.kI .i64),(3,.kF 157),(8,.kI .i64),(9,.kI .i64)])]⟩
theorem F187s.of (x0A:Option Addr) (x0n x0c:Nat) (x1:Int) (x2:Int) (w:World) {Q:QT} (h:F187s.vc x0A x0n x0c x1 x2 w Q):Calls Tryz.prog 187 #[VS x0A x0n x0c,VI .i64 x1,VI .i64 x2,Value.func (.func 157) #[] #[]] w (fun e w'=>∃ v,e=.returned v/\Q v w'):=vcFn_of (A:=F187s.an) noCount mixed h (by kernel_rfl)
def F178s.b9c (Q:QT) (C7:(ST×Int×Unit×Int×Unit)->WT) (C9:(ST×Int×Unit×Int×Int×Int×Unit)->WT) (x0:ST) (x1:Int) (x2:Unit) (x6:Int) (x7:Int) (x8:Int) (w:World):Prop :=
 vIf (decide (x8<=x1))
 (Calls Tryz.prog 188 #[VS x0.1 x0.2.1 x0.2.2,VI .i64 x7,VI .i64 (WR .i64 (x7+x6)),VI .i64 x8,Value.func (.func 157) #[] #[]] w fun e6 w5 =>
 e6=.returned (VT #[])/\(
 jnC C9 ((x0.1,x0.2.1,x0.2.2),x1,(),x6,x8,((WR .i64 (x8+(WR .i64 (2 * x6))))),()) w5))
 (vIf (decide ((WR .i64 (x7+x6)) < x1))
 (Calls Tryz.prog 188 #[VS x0.1 x0.2.1 x0.2.2,VI .i64 x7,VI .i64 (WR .i64 (x7+x6)),VI .i64 x1,Value.func (.func 157) #[] #[]] w fun e8 w7 =>
 e8=.returned (VT #[])/\(
 jnC C7 ((x0.1,x0.2.1,x0.2.2),x1,(),((WR .i64 (x6 * 2))),()) w7))
 (jnC C7 ((x0.1,x0.2.1,x0.2.2),x1,(),((WR .i64 (x6 * 2))),()) w))
def F178s.b9 (Q:QT) (C7:(ST×Int×Unit×Int×Unit)->WT):(ST×Int×Unit×Int×Int×Int×Unit)->World->((ST×Int×Unit×Int×Int×Int×Unit)->WT)->Prop:=fun s w C9=>∀ _:Nat->Value,F178s.b9c Q C7 C9 s.1 s.2.1 s.2.2.1 s.2.2.2.1 s.2.2.2.2.1 s.2.2.2.2.2.1 w
def F178s.l9 (Q:QT) (C7:(ST×Int×Unit×Int×Unit)->WT):(ST×Int×Unit×Int×Int×Int×Unit)->WT:=fun s w=>∃ n,loopC (F178s.b9 Q C7) n s w
def F178s.b7c (Q:QT) (C7:(ST×Int×Unit×Int×Unit)->WT) (x0:ST) (x1:Int) (x2:Unit) (x6:Int) (w:World):Prop :=
 vIf (decide (x6 < x1))
 (jnC (F178s.l9 Q C7) ((x0.1,x0.2.1,x0.2.2),x1,(),x6,(0),((WR .i64 (2 * x6))),()) w)
 (Q (VT #[]) w)
def F178s.b7 (Q:QT):(ST×Int×Unit×Int×Unit)->World->((ST×Int×Unit×Int×Unit)->WT)->Prop:=fun s w C7=>∀ _:Nat->Value,F178s.b7c Q C7 s.1 s.2.1 s.2.2.1 s.2.2.2.1 w
def F178s.l7 (Q:QT):(ST×Int×Unit×Int×Unit)->WT:=fun s w=>∃ n,loopC (F178s.b7 Q) n s w
def F178s.b2c (Q:QT) (C2:(ST×Int×Unit×Int×Int×Int×Unit)->WT) (x0:ST) (x1:Int) (x2:Unit) (x6:Int) (x7:Int) (x8:Int) (w:World):Prop :=
 vIf (decide (x8<=x1))
 (Calls Tryz.prog 187 #[VS x0.1 x0.2.1 x0.2.2,VI .i64 x7,VI .i64 x8,Value.func (.func 157) #[] #[]] w fun e2 w1 =>
 e2=.returned (VT #[])/\(
 jnC C2 ((x0.1,x0.2.1,x0.2.2),x1,(),x6,x8,((WR .i64 (x8+x6))),()) w1))
 (Calls Tryz.prog 187 #[VS x0.1 x0.2.1 x0.2.2,VI .i64 x7,VI .i64 x1,Value.func (.func 157) #[] #[]] w fun e4 w3 =>
 e4=.returned (VT #[])/\(
 jnC (F178s.l7 Q) ((x0.1,x0.2.1,x0.2.2),x1,(),x6,()) w3))
def F178s.b2 (Q:QT):(ST×Int×Unit×Int×Int×Int×Unit)->World->((ST×Int×Unit×Int×Int×Int×Unit)->WT)->Prop:=fun s w C2=>∀ _:Nat->Value,F178s.b2c Q C2 s.1 s.2.1 s.2.2.1 s.2.2.2.1 s.2.2.2.2.1 s.2.2.2.2.2.1 w
def F178s.l2 (Q:QT):(ST×Int×Unit×Int×Int×Int×Unit)->WT:=fun s w=>∃ n,loopC (F178s.b2 Q) n s w
def F178s.vc (x0A:Option Addr) (x0n x0c:Nat) (x1:Int) (w:World) (Q:QT):Prop :=
 jnC (F178s.l2 Q) ((x0A,x0n,x0c),x1,(),(20),(0),(20),()) w
def F178s.an:Ann:=⟨[(2,[(0,.kSl),(1,.kI .i64),(2,.kF 157),(6,.kI .i64),(7,.kI .i64),(8,.kI .i64)]),(7,[(0,.kSl),(1,.kI .i64),(2,.kF 157),(6,.kI .i64)]),(9,[(0,.kSl),(1,.kI .i64),(2,.kF 157),(6,.kI .i64),(7,.kI .i64),(8,.kI .i64)])],[]⟩
theorem F178s.of (x0A:Option Addr) (x0n x0c:Nat) (x1:Int) (w:World) {Q:QT} (h:F178s.vc x0A x0n x0c x1 w Q):Calls Tryz.prog 178 #[VS x0A x0n x0c,VI .i64 x1,Value.func (.func 157) #[] #[]] w (fun e w'=>∃ v,e=.returned v/\Q v w'):=vcFn_of (A:=F178s.an) noCount mixed h (by kernel_rfl)
def F156s.vc (x0A:Option Addr) (x0n x0c:Nat) (w:World) (Q:QT):Prop :=
 Calls Tryz.prog 178 #[VS x0A x0n x0c,VI .i64 (x0n:Int),Value.func (.func 157) #[] #[]] w fun e2 w1 =>
 e2=.returned (VT #[])/\(
 Q (VT #[]) w1)
def F156s.an:Ann:=⟨[],[]⟩
theorem F156s.of (x0A:Option Addr) (x0n x0c:Nat) (w:World) {Q:QT} (h:F156s.vc x0A x0n x0c w Q):Calls Tryz.prog 156 #[VS x0A x0n x0c,Value.func (.func 157) #[] #[]] w (fun e w'=>∃ v,e=.returned v/\Q v w'):=vcFn_of (A:=F156s.an) noCount mixed h (by kernel_rfl)
def F90.vc (x0:List Value) (x1:ByteArray) (w:World) (Q:QT):Prop :=
 nw w x0 160 fun b1 w2 =>
 ldS w2 b1 0 fun s3 =>
 Calls Tryz.prog 121 #[VG s3,VG x1] w2 fun e5 w4 =>
 ∃ i6:Int,e5=.returned (VI .i64 i6)/\(
 Q (VI .i64 i6) w4)
def F90.an:Ann:=⟨[],[]⟩
theorem F90.of (x0:List Value) (x1:ByteArray) (w:World) {Q:QT} (h:F90.vc x0 x1 w Q):Calls Tryz.prog 90 #[ofL x0,VG x1] w (fun e w'=>∃ v,e=.returned v/\Q v w'):=vcFn_of (A:=F90.an) noCount mixed h (by kernel_rfl)
def F157.vc (x0:List Value) (x1:List Value) (w:World) (Q:QT):Prop :=
 nw w x0 160 fun b1 w2 =>
 nw w2 x1 160 fun b3 w4 =>
 ldS w4 b1 0 fun s5 =>
 ldS w4 b3 0 fun s6 =>
 Calls Tryz.prog 121 #[VG s5,VG s6] w4 fun e8 w7 =>
 ∃ i9:Int,e8=.returned (VI .i64 i9)/\(
 Q (VI .i64 i9) w7)
def F157.an:Ann:=⟨[],[]⟩
theorem F157.of (x0:List Value) (x1:List Value) (w:World) {Q:QT} (h:F157.vc x0 x1 w Q):Calls Tryz.prog 157 #[ofL x0,ofL x1] w (fun e w'=>∃ v,e=.returned v/\Q v w'):=vcFn_of (A:=F157.an) noCount mixed h (by kernel_rfl)
def F159.vc (x0:List Value) (x1:List Value) (w:World) (Q:QT):Prop :=
 nw w x0 160 fun b1 w2 =>
 nw w2 x1 160 fun b3 w4 =>
 ldS w4 b1 0 fun s5 =>
 ldS w4 b3 0 fun s6 =>
 Q (VB (s5.toList == s6.toList)) w4
def F159.an:Ann:=⟨[],[]⟩
theorem F159.of (x0:List Value) (x1:List Value) (w:World) {Q:QT} (h:F159.vc x0 x1 w Q):Calls Tryz.prog 159 #[ofL x0,ofL x1] w (fun e w'=>∃ v,e=.returned v/\Q v w'):=vcFn_of (A:=F159.an) noCount mixed h (by kernel_rfl)
def F89s.b3c (Q:QT) (C3:(ST×ByteArray×Unit×Int×Int×Int×Unit)->WT) (x0:ST) (x1:ByteArray) (x2:Unit) (x8:Int) (x9:Int) (x10:Int) (w:World):Prop :=
 vIf (decide (x9 < x10))
 (dr x0.1 fun b1 o2 =>
 gd (decide (0<=(WR .i64 (Int.fdiv (WR .u64 (WR .i64 (x9+x10))) (2 ^ 1))))) <|
 gd (decide ((WR .i64 (Int.fdiv (WR .u64 (WR .i64 (x9+x10))) (2 ^ 1))) < (x0.2.1:Int))) <|
 ldA 2 w b1 (o2+((WR .i64 (Int.fdiv (WR .u64 (WR .i64 (x9+x10))) (2 ^ 1)))).toNat * 2) fun a3 =>
 Calls Tryz.prog 90 #[ofL a3,VG x1] w fun e5 w4 =>
 ∃ i6:Int,e5=.returned (VI .i64 i6)/\(
 vIf (decide (i6 < 0))
 (jnC C3 ((x0.1,x0.2.1,x0.2.2),x1,(),x8,((WR .i64 ((WR .i64 (Int.fdiv (WR .u64 (WR .i64 (x9+x10))) (2 ^ 1)))+1))),x10,()) w4)
 (jnC C3 ((x0.1,x0.2.1,x0.2.2),x1,(),x8,x9,((WR .i64 (Int.fdiv (WR .u64 (WR .i64 (x9+x10))) (2 ^ 1)))),()) w4)))
 (vIf (decide (x9 < x8))
 (dr x0.1 fun b7 o8 =>
 gd (decide (0<=x9)) <|
 gd (decide (x9 < (x0.2.1:Int))) <|
 ldA 2 w b7 (o8+(x9).toNat * 2) fun a9 =>
 Calls Tryz.prog 90 #[ofL a9,VG x1] w fun e11 w10 =>
 ∃ i12:Int,e11=.returned (VI .i64 i12)/\(
 Q (VT #[VI .i64 x9,VB (i12 == 0)]) w10))
 (Q (VT #[VI .i64 x9,VB false]) w))
def F89s.b3 (Q:QT):(ST×ByteArray×Unit×Int×Int×Int×Unit)->World->((ST×ByteArray×Unit×Int×Int×Int×Unit)->WT)->Prop:=fun s w C3=>∀ _:Nat->Value,F89s.b3c Q C3 s.1 s.2.1 s.2.2.1 s.2.2.2.1 s.2.2.2.2.1 s.2.2.2.2.2.1 w
def F89s.l3 (Q:QT):(ST×ByteArray×Unit×Int×Int×Int×Unit)->WT:=fun s w=>∃ n,loopC (F89s.b3 Q) n s w
def F89s.vc (x0A:Option Addr) (x0n x0c:Nat) (x1:ByteArray) (w:World) (Q:QT):Prop :=
 jnC (F89s.l3 Q) ((x0A,x0n,x0c),x1,(),((x0n:Int)),(0),((x0n:Int)),()) w
def F89s.an:Ann:=⟨[(3,[(0,.kSl),(1,.kS),(2,.kF 90),(8,.kI .i64),(9,.kI .i64),(10,.kI .i64)])],[]⟩
theorem F89s.of (x0A:Option Addr) (x0n x0c:Nat) (x1:ByteArray) (w:World) {Q:QT} (h:F89s.vc x0A x0n x0c x1 w Q):Calls Tryz.prog 89 #[VS x0A x0n x0c,VG x1,Value.func (.func 90) #[] #[]] w (fun e w'=>∃ v,e=.returned v/\Q v w'):=vcFn_of (A:=F89s.an) noCount mixed h (by kernel_rfl)
def F158s.k15c (Q:QT) (C4:(ST×Unit×Int×Unit)->WT) (x0:ST) (x5:Int) (w:World):Prop :=
 gd (decide (0<=x5)) <|
 gd (decide (x5<=(x0.2.2:Int))) <|
 Q (VS (slA x0.1 x0.2.2 0 2) (x5).toNat x0.2.2) w
def F158s.k15 (Q:QT) (C4:(ST×Unit×Int×Unit)->WT):(ST×Int×Unit)->WT:=fun s w=>∀ _:Nat->Value,F158s.k15c Q C4 s.1 s.2.1 w
def F158s.b9c (Q:QT) (C4:(ST×Unit×Int×Unit)->WT) (C9:(ST×Unit×Int×ST×Int×Unit)->WT) (x0:ST) (x1:Unit) (x5:Int) (x6:ST) (x7:Int) (w:World):Prop :=
 vIf (decide (x7 < (x6.2.1:Int)))
 (dr x6.1 fun b10 o11 =>
 gd (decide (0<=x7)) <|
 gd (decide (x7 < (x6.2.1:Int))) <|
 ldA 2 w.drew b10 (o11+(x7).toNat * 2) fun a12 =>
 dr x6.1 fun b13 o14 =>
 gd (decide (0<=(WR .i64 (x7 - 1)))) <|
 gd (decide ((WR .i64 (x7 - 1)) < (x6.2.1:Int))) <|
 ldA 2 w.drew b13 (o14+((WR .i64 (x7 - 1))).toNat * 2) fun a15 =>
 Calls Tryz.prog 159 #[ofL a12,ofL a15] w.drew fun e17 w16 =>
 ∃ t18:Bool,e17=.returned (VB t18)/\(
 vIf (!t18)
 (dr x6.1 fun b19 o20 =>
 gd (decide (0<=x7)) <|
 gd (decide (x7 < (x6.2.1:Int))) <|
 ldA 2 w16 b19 (o20+(x7).toNat * 2) fun a21 =>
 dr x0.1 fun b22 o23 =>
 gd (decide (0<=x5)) <|
 gd (decide (x5 < (x0.2.1:Int))) <|
 gd (a21.length == 2) <|
 st w16 b22 (o23+(x5).toNat * 2) a21 fun w24 =>
 jnC C9 ((x0.1,x0.2.1,x0.2.2),(),((WR .i64 (x5+1))),(x6.1,x6.2.1,x6.2.2),((WR .i64 (x7+1))),()) w24)
 (jnC C9 ((x0.1,x0.2.1,x0.2.2),(),x5,(x6.1,x6.2.1,x6.2.2),((WR .i64 (x7+1))),()) w16)))
 (gd (decide (0<=x5)) <|
 gd (decide (x5<=(x0.2.1:Int))) <|
 vIf ((x0.2.1 - (x5).toNat) == 0)
 (jnC (F158s.k15 Q C4) ((x0.1,x0.2.1,x0.2.2),x5,()) w)
 (dr (slA x0.1 x0.2.2 (x5).toNat 2) fun b26 o27 =>
 st w b26 o27 (zeros (x0.2.1 - (x5).toNat) [VG (⟨#[]⟩:ByteArray),VI .i64 0]) fun w25 =>
 jnC (F158s.k15 Q C4) ((x0.1,x0.2.1,x0.2.2),x5,()) w25))
def F158s.b9 (Q:QT) (C4:(ST×Unit×Int×Unit)->WT):(ST×Unit×Int×ST×Int×Unit)->World->((ST×Unit×Int×ST×Int×Unit)->WT)->Prop:=fun s w C9=>∀ _:Nat->Value,F158s.b9c Q C4 C9 s.1 s.2.1 s.2.2.1 s.2.2.2.1 s.2.2.2.2.1 w
def F158s.l9 (Q:QT) (C4:(ST×Unit×Int×Unit)->WT):(ST×Unit×Int×ST×Int×Unit)->WT:=fun s w=>∃ n,loopC (F158s.b9 Q C4) n s w
def F158s.b4c (Q:QT) (C4:(ST×Unit×Int×Unit)->WT) (x0:ST) (x1:Unit) (x5:Int) (w:World):Prop :=
 vIf (decide (x5 < (x0.2.1:Int)))
 (dr x0.1 fun b1 o2 =>
 gd (decide (0<=x5)) <|
 gd (decide (x5 < (x0.2.1:Int))) <|
 ldA 2 w.drew b1 (o2+(x5).toNat * 2) fun a3 =>
 dr x0.1 fun b4 o5 =>
 gd (decide (0<=(WR .i64 (x5 - 1)))) <|
 gd (decide ((WR .i64 (x5 - 1)) < (x0.2.1:Int))) <|
 ldA 2 w.drew b4 (o5+((WR .i64 (x5 - 1))).toNat * 2) fun a6 =>
 Calls Tryz.prog 159 #[ofL a3,ofL a6] w.drew fun e8 w7 =>
 ∃ t9:Bool,e8=.returned (VB t9)/\(
 vIf t9
 (gd (decide (0<=x5)) <|
 gd (decide (x5<=(x0.2.1:Int))) <|
 jnC (F158s.l9 Q C4) ((x0.1,x0.2.1,x0.2.2),(),x5,((slA x0.1 x0.2.2 (x5).toNat 2),(x0.2.1 - (x5).toNat),(x0.2.2 - (x5).toNat)),(1),()) w7)
 (jnC C4 ((x0.1,x0.2.1,x0.2.2),(),((WR .i64 (x5+1))),()) w7)))
 (Q (VS x0.1 x0.2.1 x0.2.2) w)
def F158s.b4 (Q:QT):(ST×Unit×Int×Unit)->World->((ST×Unit×Int×Unit)->WT)->Prop:=fun s w C4=>∀ _:Nat->Value,F158s.b4c Q C4 s.1 s.2.1 s.2.2.1 w
def F158s.l4 (Q:QT):(ST×Unit×Int×Unit)->WT:=fun s w=>∃ n,loopC (F158s.b4 Q) n s w
def F158s.vc (x0A:Option Addr) (x0n x0c:Nat) (w:World) (Q:QT):Prop :=
 vIf (decide ((x0n:Int) < 2))
 (Q (VS x0A x0n x0c) w)
 (jnC (F158s.l4 Q) ((x0A,x0n,x0c),(),(1),()) w)
def F158s.an:Ann:=⟨[(4,[(0,.kSl),(1,.kF 159),(5,.kI .i64)]),(9,[(0,.kSl),(1,.kF 159),(5,.kI .i64),(6,.kSl),(7,.kI .i64)])],[(15,[(0,.kSl),(5,.kI .i64)])]⟩
theorem F158s.of (x0A:Option Addr) (x0n x0c:Nat) (w:World) {Q:QT} (h:F158s.vc x0A x0n x0c w Q):Calls Tryz.prog 158 #[VS x0A x0n x0c,Value.func (.func 159) #[] #[]] w (fun e w'=>∃ v,e=.returned v/\Q v w'):=vcFn_of (A:=F158s.an) noCount mixed h (by kernel_rfl)
def F139.vc (x0:List Value) (w:World) (Q:QT):Prop :=
 nw w x0 81 fun b1 w2 =>
 ldSl w2 b1 0 fun A3 n4 c5 =>
 Calls Tryz.prog 155 #[VS A3 n4 c5] w2 fun e7 w6 =>
 ∃ (A8:Option Addr) (n9 c10:Nat),e7=.returned (VS A8 n9 c10)/\(
 Calls Tryz.prog 156 #[VS A8 n9 c10,Value.func (.func 157) #[] #[]] w6 fun e12 w11 =>
 e12=.returned (VT #[])/\(
 Calls Tryz.prog 158 #[VS A8 n9 c10,Value.func (.func 159) #[] #[]] w11 fun e14 w13 =>
 ∃ (A15:Option Addr) (n16 c17:Nat),e14=.returned (VS A15 n16 c17)/\(
 Q (VS A15 n16 c17) w13)))
def F139.an:Ann:=⟨[],[]⟩
theorem F139.of (x0:List Value) (w:World) {Q:QT} (h:F139.vc x0 w Q):Calls Tryz.prog 139 #[ofL x0] w (fun e w'=>∃ v,e=.returned v/\Q v w'):=vcFn_of (A:=F139.an) noCount mixed h (by kernel_rfl)
def F160.vc (x0A:Option Addr) (x0n x0c:Nat) (x1:ByteArray) (x2:Int) (w:World) (Q:QT):Prop :=
 Calls Tryz.prog 89 #[VS x0A x0n x0c,VG x1,Value.func (.func 90) #[] #[]] w fun e2 w1 =>
 ∃ i3:Int,∃ t4:Bool,e2=.returned (VT #[VI .i64 i3,VB t4])/\(
 vIf t4
 (dr x0A fun b5 o6 =>
 gd (decide (0<=i3)) <|
 gd (decide (i3 < (x0n:Int))) <|
 st w1 b5 ((o6+(i3).toNat * 2)+1) [VI .i64 x2] fun w7 =>
 Q (VS x0A x0n x0c) w7)
 (gd (([VG x1] ++ ([VI .i64 x2] ++ [])).length == 2) <|
 nw w1 (([VG x1] ++ ([VI .i64 x2] ++ [])) ++ []) 160 fun b8 w9 =>
 Calls Tryz.prog 179 #[VS x0A x0n x0c,VI .i64 i3,VS (some ⟨b8,0,none⟩) 1 1] w9 fun e11 w10 =>
 ∃ (A12:Option Addr) (n13 c14:Nat),e11=.returned (VS A12 n13 c14)/\(
 Q (VS A12 n13 c14) w10)))
def F160.an:Ann:=⟨[],[]⟩
theorem F160.of (x0A:Option Addr) (x0n x0c:Nat) (x1:ByteArray) (x2:Int) (w:World) {Q:QT} (h:F160.vc x0A x0n x0c x1 x2 w Q):Calls Tryz.prog 160 #[VS x0A x0n x0c,VG x1,VI .i64 x2] w (fun e w'=>∃ v,e=.returned v/\Q v w'):=vcFn_of (A:=F160.an) noCount mixed h (by kernel_rfl)
def F161.vc (x0A:Option Addr) (x0n x0c:Nat) (x1:ByteArray) (w:World) (Q:QT):Prop :=
 Calls Tryz.prog 89 #[VS x0A x0n x0c,VG x1,Value.func (.func 90) #[] #[]] w fun e2 w1 =>
 ∃ i3:Int,∃ t4:Bool,e2=.returned (VT #[VI .i64 i3,VB t4])/\(
 vIf (!t4)
 (Q (VT #[VS x0A x0n x0c,VI .i64 0,VB false]) w1)
 (dr x0A fun b5 o6 =>
 gd (decide (0<=i3)) <|
 gd (decide (i3 < (x0n:Int))) <|
 ldI .i64 w1 b5 ((o6+(i3).toNat * 2)+1) fun i7 =>
 Calls Tryz.prog 180 #[VS x0A x0n x0c,VI .i64 i3,VI .i64 (WR .i64 (i3+1))] w1 fun e9 w8 =>
 ∃ (A10:Option Addr) (n11 c12:Nat),e9=.returned (VS A10 n11 c12)/\(
 Q (VT #[VS A10 n11 c12,VI .i64 i7,VB true]) w8)))
def F161.an:Ann:=⟨[],[]⟩
theorem F161.of (x0A:Option Addr) (x0n x0c:Nat) (x1:ByteArray) (w:World) {Q:QT} (h:F161.vc x0A x0n x0c x1 w Q):Calls Tryz.prog 161 #[VS x0A x0n x0c,VG x1] w (fun e w'=>∃ v,e=.returned v/\Q v w'):=vcFn_of (A:=F161.an) noCount mixed h (by kernel_rfl)
def F140.vc (x0A:Option Addr) (x0n x0c:Nat) (x1:List Value) (w:World) (Q:QT):Prop :=
 nw w x1 185 fun b1 w2 =>
 ldI .i64 w2 b1 0 fun i3 =>
 vIf (i3 == 1)
 (ldS w2 b1 (0+1) fun s4 =>
 ldI .i64 w2 b1 (0+3) fun i5 =>
 Calls Tryz.prog 160 #[VS x0A x0n x0c,VG s4,VI .i64 i5] w2 fun e7 w6 =>
 ∃ (A8:Option Addr) (n9 c10:Nat),e7=.returned (VS A8 n9 c10)/\(
 Q (VS A8 n9 c10) w6))
 (vIf (i3 == 3)
 (ldS w2 b1 (0+1) fun s11 =>
 Calls Tryz.prog 161 #[VS x0A x0n x0c,VG s11] w2 fun e13 w12 =>
 ∃ (A14:Option Addr) (n15 c16:Nat),∃ i17:Int,∃ t18:Bool,e13=.returned (VT #[VS A14 n15 c16,VI .i64 i17,VB t18])/\(
 Q (VS A14 n15 c16) w12))
 (vIf (i3 == 2)
 (ldS w2 b1 (0+1) fun s19 =>
 Calls Tryz.prog 161 #[VS x0A x0n x0c,VG s19] w2 fun e21 w20 =>
 ∃ (A22:Option Addr) (n23 c24:Nat),∃ i25:Int,∃ t26:Bool,e21=.returned (VT #[VS A22 n23 c24,VI .i64 i25,VB t26])/\(
 vIf t26
 (ldS w20 b1 (0+2) fun s27 =>
 Calls Tryz.prog 160 #[VS A22 n23 c24,VG s27,VI .i64 i25] w20 fun e29 w28 =>
 ∃ (A30:Option Addr) (n31 c32:Nat),e29=.returned (VS A30 n31 c32)/\(
 Q (VS A30 n31 c32) w28))
 (Q (VS x0A x0n x0c) w20)))
 (Q (VS x0A x0n x0c) w2)))
def F140.an:Ann:=⟨[],[]⟩
theorem F140.of (x0A:Option Addr) (x0n x0c:Nat) (x1:List Value) (w:World) {Q:QT} (h:F140.vc x0A x0n x0c x1 w Q):Calls Tryz.prog 140 #[VS x0A x0n x0c,ofL x1] w (fun e w'=>∃ v,e=.returned v/\Q v w'):=vcFn_of (A:=F140.an) noCount mixed h (by kernel_rfl)
def F120.b3c (Q:QT) (C3:(ST×ST×Int×Int×Unit)->WT) (x5:ST) (x18:ST) (x19:Int) (x20:Int) (w:World):Prop :=
 vIf (decide (x20 < x19))
 (dr x18.1 fun b15 o16 =>
 gd (decide (0<=x20)) <|
 gd (decide (x20 < (x18.2.1:Int))) <|
 ldA 4 w b15 (o16+(x20).toNat * 4) fun a17 =>
 nw w Z185 185 fun b18 w19 =>
 gd (a17.length == 4) <|
 st w19 b18 0 a17 fun w20 =>
 ldA 4 w20 b18 0 fun a21 =>
 Calls Tryz.prog 140 #[VS x5.1 x5.2.1 x5.2.2,ofL a21] w20 fun e23 w22 =>
 ∃ (A24:Option Addr) (n25 c26:Nat),e23=.returned (VS A24 n25 c26)/\(
 jnC C3 ((A24,n25,c26),(x18.1,x18.2.1,x18.2.2),x19,((WR .i64 (x20+1))),()) w22))
 (Q (VS x5.1 x5.2.1 x5.2.2) w)
def F120.b3 (Q:QT):(ST×ST×Int×Int×Unit)->World->((ST×ST×Int×Int×Unit)->WT)->Prop:=fun s w C3=>∀ _:Nat->Value,F120.b3c Q C3 s.1 s.2.1 s.2.2.1 s.2.2.2.1 w
def F120.l3 (Q:QT):(ST×ST×Int×Int×Unit)->WT:=fun s w=>∃ n,loopC (F120.b3 Q) n s w
def F120.vc (x0:List Value) (x1:Int) (w:World) (Q:QT):Prop :=
 nw w x0 81 fun b1 w2 =>
 ldA 2 w2 b1 0 fun a3 =>
 Calls Tryz.prog 139 #[ofL a3] w2 fun e5 w4 =>
 ∃ (A6:Option Addr) (n7 c8:Nat),e5=.returned (VS A6 n7 c8)/\(
 ldSl w4 b1 (0+1) fun A9 n10 c11 =>
 ldSl w4 b1 (0+1) fun A12 n13 c14 =>
 gd (decide (0<=(if 0 < (if (n13:Int) < x1 then (n13:Int) else x1) then (if (n13:Int) < x1 then (n13:Int) else x1) else 0))) <|
 gd (decide ((if 0 < (if (n13:Int) < x1 then (n13:Int) else x1) then (if (n13:Int) < x1 then (n13:Int) else x1) else 0)<=(c11:Int))) <|
 jnC (F120.l3 Q) ((A6,n7,c8),((slA A9 c11 0 4),((if 0 < (if (n13:Int) < x1 then (n13:Int) else x1) then (if (n13:Int) < x1 then (n13:Int) else x1) else 0)).toNat,c11),(((((if 0 < (if (n13:Int) < x1 then (n13:Int) else x1) then (if (n13:Int) < x1 then (n13:Int) else x1) else 0)).toNat:Nat):Int)),(0),()) w4)
def F120.an:Ann:=⟨[(3,[(5,.kSl),(18,.kSl),(19,.kI .i64),(20,.kI .i64)])],[]⟩
theorem F120.of (x0:List Value) (x1:Int) (w:World) {Q:QT} (h:F120.vc x0 x1 w Q):Calls Tryz.prog 120 #[ofL x0,VI .i64 x1] w (fun e w'=>∃ v,e=.returned v/\Q v w'):=vcFn_of (A:=F120.an) noCount mixed h (by kernel_rfl)
def F176.b4c (Q:QT) (C4:(ByteArray×Int×Int×Unit)->WT) (x0:ByteArray) (x13:Int) (x14:Int) (w:World):Prop :=
 vIf (decide (x14 < x13))
 (gd (decide (0<=x14)) <|
 gd (decide (x14 < (x0.size:Int))) <|
 vIf (decide ((byteAt x0 (x14).toNat) < 33))
 (Q (VB false) w)
 (vIf (decide ((byteAt x0 (x14).toNat) > 126))
 (Q (VB false) w)
 (vIf ((byteAt x0 (x14).toNat) == 47)
 (Q (VB false) w)
 (jnC C4 (x0,x13,((WR .i64 (x14+1))),()) w))))
 (Q (VB true) w)
def F176.b4 (Q:QT):(ByteArray×Int×Int×Unit)->World->((ByteArray×Int×Int×Unit)->WT)->Prop:=fun s w C4=>∀ _:Nat->Value,F176.b4c Q C4 s.1 s.2.1 s.2.2.1 w
def F176.l4 (Q:QT):(ByteArray×Int×Int×Unit)->WT:=fun s w=>∃ n,loopC (F176.b4 Q) n s w
def F176.k3c (Q:QT) (x0:ByteArray) (w:World):Prop :=
 jnC (F176.l4 Q) (x0,((x0.size:Int)),(0),()) w
def F176.k3 (Q:QT):(ByteArray×Unit)->WT:=fun s w=>∀ _:Nat->Value,F176.k3c Q s.1 w
def F176.vc (x0:ByteArray) (w:World) (Q:QT):Prop :=
 vIf (x0.toList == (⟨#[]⟩:ByteArray).toList)
 (Q (VB false) w)
 (vIf (decide ((x0.size:Int) > 32))
 (Q (VB false) w)
 (jnC (F176.k3 Q) (x0,()) w))
def F176.an:Ann:=⟨[(4,[(0,.kS),(13,.kI .i64),(14,.kI .i64)])],[(3,[(0,.kS)])]⟩
theorem F176.of (x0:ByteArray) (w:World) {Q:QT} (h:F176.vc x0 w Q):Calls Tryz.prog 176 #[VG x0] w (fun e w'=>∃ v,e=.returned v/\Q v w'):=vcFn_of (A:=F176.an) noCount mixed h (by kernel_rfl)
def F88.vc (x0:List Value) (w:World) (Q:QT):Prop :=
 nw w x0 81 fun b1 w2 =>
 ldA 2 w2 b1 0 fun a3 =>
 ldSl w2 b1 (0+1) fun A4 n5 c6 =>
 Calls Tryz.prog 120 #[ofL a3,VI .i64 (n5:Int)] w2 fun e8 w7 =>
 ∃ (A9:Option Addr) (n10 c11:Nat),e8=.returned (VS A9 n10 c11)/\(
 Q (VS A9 n10 c11) w7)
def F88.an:Ann:=⟨[],[]⟩
theorem F88.of (x0:List Value) (w:World) {Q:QT} (h:F88.vc x0 w Q):Calls Tryz.prog 88 #[ofL x0] w (fun e w'=>∃ v,e=.returned v/\Q v w'):=vcFn_of (A:=F88.an) noCount mixed h (by kernel_rfl)
def F55.vc (x0:List Value) (x1:ByteArray) (w:World) (Q:QT):Prop :=
 nw w x0 81 fun b1 w2 =>
 ldA 2 w2 b1 0 fun a3 =>
 Calls Tryz.prog 88 #[ofL a3] w2 fun e5 w4 =>
 ∃ (A6:Option Addr) (n7 c8:Nat),e5=.returned (VS A6 n7 c8)/\(
 Calls Tryz.prog 89 #[VS A6 n7 c8,VG x1,Value.func (.func 90) #[] #[]] w4 fun e10 w9 =>
 ∃ i11:Int,∃ t12:Bool,e10=.returned (VT #[VI .i64 i11,VB t12])/\(
 vIf (!t12)
 (Q (VT #[VI .i64 0,VB false]) w9)
 (dr A6 fun b13 o14 =>
 gd (decide (0<=i11)) <|
 gd (decide (i11 < (n7:Int))) <|
 ldI .i64 w9 b13 ((o14+(i11).toNat * 2)+1) fun i15 =>
 Q (VT #[VI .i64 i15,VB true]) w9)))
def F55.an:Ann:=⟨[],[]⟩
theorem F55.of (x0:List Value) (x1:ByteArray) (w:World) {Q:QT} (h:F55.vc x0 x1 w Q):Calls Tryz.prog 55 #[ofL x0,VG x1] w (fun e w'=>∃ v,e=.returned v/\Q v w'):=vcFn_of (A:=F55.an) noCount mixed h (by kernel_rfl)
def F118.vc (x0:List Value) (w:World) (Q:QT):Prop :=
 nw w x0 81 fun b1 w2 =>
 nw w2 [VS none 0 0,VS none 0 0] 81 fun b3 w4 =>
 ldA 2 w4 b1 0 fun a5 =>
 Calls Tryz.prog 88 #[ofL a5] w4 fun e7 w6 =>
 ∃ (A8:Option Addr) (n9 c10:Nat),e7=.returned (VS A8 n9 c10)/\(
 gd (([VS A8 n9 c10] ++ ([VS none 0 0] ++ [])).length == 2) <|
 st w6 b3 0 ([VS A8 n9 c10] ++ ([VS none 0 0] ++ [])) fun w11 =>
 ldA 2 w11 b3 0 fun a12 =>
 Q (ofL a12) w11)
def F118.an:Ann:=⟨[],[]⟩
theorem F118.of (x0:List Value) (w:World) {Q:QT} (h:F118.vc x0 w Q):Calls Tryz.prog 118 #[ofL x0] w (fun e w'=>∃ v,e=.returned v/\Q v w'):=vcFn_of (A:=F118.an) noCount mixed h (by kernel_rfl)
def F151.k13c (Q:QT) (x6:Bool) (w:World):Prop :=
 vIf (!x6)
 (Q (VI .i64 6) w)
 (Q (VI .i64 0) w)
def F151.k13 (Q:QT):(Bool×Unit)->WT:=fun s w=>∀ _:Nat->Value,F151.k13c Q s.1 w
def F151.vc (x0:List Value) (x1:List Value) (w:World) (Q:QT):Prop :=
 nw w x0 81 fun b1 w2 =>
 nw w2 x1 185 fun b3 w4 =>
 ldA 2 w4 b1 0 fun a5 =>
 ldS w4 b3 (0+1) fun s6 =>
 Calls Tryz.prog 55 #[ofL a5,VG s6] w4 fun e8 w7 =>
 ∃ i9:Int,∃ t10:Bool,e8=.returned (VT #[VI .i64 i9,VB t10])/\(
 ldI .i64 w7 b3 0 fun i11 =>
 vIf (i11 == 1)
 (ldS w7 b3 (0+1) fun s12 =>
 Calls Tryz.prog 176 #[VG s12] w7 fun e14 w13 =>
 ∃ t15:Bool,e14=.returned (VB t15)/\(
 vIf (!t15)
 (Q (VI .i64 12) w13)
 (vIf t10
 (Q (VI .i64 7) w13)
 (Q (VI .i64 0) w13))))
 (vIf (i11 == 2)
 (vIf t10
 (ldS w7 b3 (0+2) fun s16 =>
 Calls Tryz.prog 176 #[VG s16] w7 fun e18 w17 =>
 ∃ t19:Bool,e18=.returned (VB t19)/\(
 vIf (!t19)
 (Q (VI .i64 12) w17)
 (jnC (F151.k13 Q) (t10,()) w17)))
 (jnC (F151.k13 Q) (t10,()) w7))
 (vIf (i11 == 3)
 (jnC (F151.k13 Q) (t10,()) w7)
 (Q (VI .i64 2) w7))))
def F151.an:Ann:=⟨[],[(13,[(6,.kB)])]⟩
theorem F151.of (x0:List Value) (x1:List Value) (w:World) {Q:QT} (h:F151.vc x0 x1 w Q):Calls Tryz.prog 151 #[ofL x0,ofL x1] w (fun e w'=>∃ v,e=.returned v/\Q v w'):=vcFn_of (A:=F151.an) noCount mixed h (by kernel_rfl)
def F135.vc (x0:List Value) (x1:List Value) (w:World) (Q:QT):Prop :=
 nw w x0 81 fun b1 w2 =>
 nw w2 x1 185 fun b3 w4 =>
 nw w4 [VS none 0 0,VS none 0 0] 81 fun b5 w6 =>
 ldA 2 w6 b1 0 fun a7 =>
 ldA 4 w6 b3 0 fun a8 =>
 Calls Tryz.prog 151 #[ofL a7,ofL a8] w6 fun e10 w9 =>
 ∃ i11:Int,e10=.returned (VI .i64 i11)/\(
 vIf (i11 != 0)
 (ldA 2 w9 b1 0 fun a12 =>
 gd (a12.length == 2) <|
 st w9 b5 0 a12 fun w13 =>
 ldA 2 w13 b5 0 fun a14 =>
 Q (VT #[ofL a14,VI .i64 i11]) w13)
 (ldSl w9.drew b1 0 fun A15 n16 c17 =>
 ldSl w9.drew b1 (0+1) fun A18 n19 c20 =>
 ldA 4 w9.drew b3 0 fun a21 =>
 (Calls Tryz.prog 152 #[VS A18 n19 c20] w9.drew fun e23 w22 =>
 ∃ (A24:Option Addr) (n25 c26:Nat),e23=.returned (VS A24 n25 c26)/\(
 kp w9.drew b3 0 4 w22 <|
 kp w9.drew b1 0 1 w22 <|
 gd (a21.length == 4) <|
 nw w22 (a21 ++ []) 185 fun b27 w28 =>
 kp w9.drew b1 (0+1) 1 w28 <|
 kp w9.drew b1 0 1 w28 <|
 app w28 4 48 Z185 185 A24 n25 c26 (VS (some ⟨b27,0,none⟩) 1 1) fun A29 n30 c31 w32 =>
 kp w9.drew b1 0 1 w32 <|
 gd (([VS A15 n16 c17] ++ ([VS A29 n30 c31] ++ [])).length == 2) <|
 st w32 b5 0 ([VS A15 n16 c17] ++ ([VS A29 n30 c31] ++ [])) fun w33 =>
 ldA 2 w33 b5 0 fun a34 =>
 Q (VT #[ofL a34,VI .i64 0]) w33)) /\
 (gd (a21.length == 4) <|
 nw w9.drew (a21 ++ []) 185 fun b35 w36 =>
 kp w9.drew b1 (0+1) 1 w36 <|
 kp w9.drew b1 0 1 w36 <|
 Calls Tryz.prog 152 #[VS A18 n19 c20] w36 fun e38 w37 =>
 ∃ (A39:Option Addr) (n40 c41:Nat),e38=.returned (VS A39 n40 c41)/\(
 kp w9.drew b3 0 4 w37 <|
 kp w9.drew b1 0 1 w37 <|
 app w37 4 48 Z185 185 A39 n40 c41 (VS (some ⟨b35,0,none⟩) 1 1) fun A42 n43 c44 w45 =>
 kp w9.drew b1 0 1 w45 <|
 gd (([VS A15 n16 c17] ++ ([VS A42 n43 c44] ++ [])).length == 2) <|
 st w45 b5 0 ([VS A15 n16 c17] ++ ([VS A42 n43 c44] ++ [])) fun w46 =>
 ldA 2 w46 b5 0 fun a47 =>
 Q (VT #[ofL a47,VI .i64 0]) w46))))
def F135.an:Ann:=⟨[],[]⟩
theorem F135.of (x0:List Value) (x1:List Value) (w:World) {Q:QT} (h:F135.vc x0 x1 w Q):Calls Tryz.prog 135 #[ofL x0,ofL x1] w (fun e w'=>∃ v,e=.returned v/\Q v w'):=vcFn_of (A:=F135.an) noCount mixed h (by kernel_rfl)
def F134.k15c (Q:QT) (C4:(ST×Int×Unit)->WT) (x0:ST) (x3:Int) (w:World):Prop :=
 gd (decide (0<=x3)) <|
 gd (decide (x3<=(x0.2.2:Int))) <|
 Q (VS (slA x0.1 x0.2.2 0 1) (x3).toNat x0.2.2) w
def F134.k15 (Q:QT) (C4:(ST×Int×Unit)->WT):(ST×Int×Unit)->WT:=fun s w=>∀ _:Nat->Value,F134.k15c Q C4 s.1 s.2.1 w
def F134.b9c (Q:QT) (C4:(ST×Int×Unit)->WT) (C9:(ST×Int×ST×Int×Unit)->WT) (x0:ST) (x3:Int) (x4:ST) (x5:Int) (w:World):Prop :=
 vIf (decide (x5 < (x4.2.1:Int)))
 (dr x4.1 fun b7 o8 =>
 gd (decide (0<=x5)) <|
 gd (decide (x5 < (x4.2.1:Int))) <|
 ldI .i64 w.drew b7 (o8+(x5).toNat * 1) fun i9 =>
 dr x4.1 fun b10 o11 =>
 gd (decide (0<=(WR .i64 (x5 - 1)))) <|
 gd (decide ((WR .i64 (x5 - 1)) < (x4.2.1:Int))) <|
 ldI .i64 w.drew b10 (o11+((WR .i64 (x5 - 1))).toNat * 1) fun i12 =>
 vIf (i9 != i12)
 (dr x4.1 fun b13 o14 =>
 gd (decide (0<=x5)) <|
 gd (decide (x5 < (x4.2.1:Int))) <|
 ldI .i64 w.drew b13 (o14+(x5).toNat * 1) fun i15 =>
 dr x0.1 fun b16 o17 =>
 gd (decide (0<=x3)) <|
 gd (decide (x3 < (x0.2.1:Int))) <|
 st w.drew b16 (o17+(x3).toNat * 1) [VI .i64 i15] fun w18 =>
 jnC C9 ((x0.1,x0.2.1,x0.2.2),((WR .i64 (x3+1))),(x4.1,x4.2.1,x4.2.2),((WR .i64 (x5+1))),()) w18)
 (jnC C9 ((x0.1,x0.2.1,x0.2.2),x3,(x4.1,x4.2.1,x4.2.2),((WR .i64 (x5+1))),()) w.drew))
 (gd (decide (0<=x3)) <|
 gd (decide (x3<=(x0.2.1:Int))) <|
 vIf ((x0.2.1 - (x3).toNat) == 0)
 (jnC (F134.k15 Q C4) ((x0.1,x0.2.1,x0.2.2),x3,()) w)
 (dr (slA x0.1 x0.2.2 (x3).toNat 1) fun b20 o21 =>
 st w b20 o21 (zeros (x0.2.1 - (x3).toNat) [VI .i64 0]) fun w19 =>
 jnC (F134.k15 Q C4) ((x0.1,x0.2.1,x0.2.2),x3,()) w19))
def F134.b9 (Q:QT) (C4:(ST×Int×Unit)->WT):(ST×Int×ST×Int×Unit)->World->((ST×Int×ST×Int×Unit)->WT)->Prop:=fun s w C9=>∀ _:Nat->Value,F134.b9c Q C4 C9 s.1 s.2.1 s.2.2.1 s.2.2.2.1 w
def F134.l9 (Q:QT) (C4:(ST×Int×Unit)->WT):(ST×Int×ST×Int×Unit)->WT:=fun s w=>∃ n,loopC (F134.b9 Q C4) n s w
def F134.b4c (Q:QT) (C4:(ST×Int×Unit)->WT) (x0:ST) (x3:Int) (w:World):Prop :=
 vIf (decide (x3 < (x0.2.1:Int)))
 (dr x0.1 fun b1 o2 =>
 gd (decide (0<=x3)) <|
 gd (decide (x3 < (x0.2.1:Int))) <|
 ldI .i64 w.drew b1 (o2+(x3).toNat * 1) fun i3 =>
 dr x0.1 fun b4 o5 =>
 gd (decide (0<=(WR .i64 (x3 - 1)))) <|
 gd (decide ((WR .i64 (x3 - 1)) < (x0.2.1:Int))) <|
 ldI .i64 w.drew b4 (o5+((WR .i64 (x3 - 1))).toNat * 1) fun i6 =>
 vIf (i3 == i6)
 (gd (decide (0<=x3)) <|
 gd (decide (x3<=(x0.2.1:Int))) <|
 jnC (F134.l9 Q C4) ((x0.1,x0.2.1,x0.2.2),x3,((slA x0.1 x0.2.2 (x3).toNat 1),(x0.2.1 - (x3).toNat),(x0.2.2 - (x3).toNat)),(1),()) w.drew)
 (jnC C4 ((x0.1,x0.2.1,x0.2.2),((WR .i64 (x3+1))),()) w.drew))
 (Q (VS x0.1 x0.2.1 x0.2.2) w)
def F134.b4 (Q:QT):(ST×Int×Unit)->World->((ST×Int×Unit)->WT)->Prop:=fun s w C4=>∀ _:Nat->Value,F134.b4c Q C4 s.1 s.2.1 w
def F134.l4 (Q:QT):(ST×Int×Unit)->WT:=fun s w=>∃ n,loopC (F134.b4 Q) n s w
def F134.vc (x0A:Option Addr) (x0n x0c:Nat) (w:World) (Q:QT):Prop :=
 vIf (decide ((x0n:Int) < 2))
 (Q (VS x0A x0n x0c) w)
 (jnC (F134.l4 Q) ((x0A,x0n,x0c),(1),()) w)
def F134.an:Ann:=⟨[(4,[(0,.kSl),(3,.kI .i64)]),(9,[(0,.kSl),(3,.kI .i64),(4,.kSl),(5,.kI .i64)])],[(15,[(0,.kSl),(3,.kI .i64)])]⟩
theorem F134.of (x0A:Option Addr) (x0n x0c:Nat) (w:World) {Q:QT} (h:F134.vc x0A x0n x0c w Q):Calls Tryz.prog 134 #[VS x0A x0n x0c] w (fun e w'=>∃ v,e=.returned v/\Q v w'):=vcFn_of (A:=F134.an) noCount mixed h (by kernel_rfl)
def F108.b6c (Q:QT) (C3:(NT×ST×Int×Int×Unit)->WT) (C6:(NT×ST×Int×Int×ST×Int×Int×Unit)->WT) (x1:NT) (x3:ST) (x10:Int) (x11:Int) (x16:ST) (x17:Int) (x18:Int) (w:World):Prop :=
 vIf (decide (x18 < x17))
 (dr x16.1 fun b12 o13 =>
 gd (decide (0<=x18)) <|
 gd (decide (x18 < (x16.2.1:Int))) <|
 ldA 2 w b12 (o13+(x18).toNat * 2) fun a14 =>
 nw w [VG (⟨#[]⟩:ByteArray),VI .i64 0] 160 fun b15 w16 =>
 gd (a14.length == 2) <|
 st w16 b15 0 a14 fun w17 =>
 ldI .i64 w17 b15 (0+1) fun i18 =>
 nw w17 ([VI .i64 i18] ++ []) 3 fun b19 w20 =>
 app w20 1 8 [VI .i64 0] 3 x3.1 x3.2.1 x3.2.2 (VS (some ⟨b19,0,none⟩) 1 1) fun A21 n22 c23 w24 =>
 jnC C6 ((x1.1,x1.2),(A21,n22,c23),x10,x11,(x16.1,x16.2.1,x16.2.2),x17,((WR .i64 (x18+1))),()) w24)
 (jnC C3 ((x1.1,x1.2),(x3.1,x3.2.1,x3.2.2),x10,((WR .i64 (x11+1))),()) w)
def F108.b6 (Q:QT) (C3:(NT×ST×Int×Int×Unit)->WT):(NT×ST×Int×Int×ST×Int×Int×Unit)->World->((NT×ST×Int×Int×ST×Int×Int×Unit)->WT)->Prop:=fun s w C6=>∀ _:Nat->Value,F108.b6c Q C3 C6 s.1 s.2.1 s.2.2.1 s.2.2.2.1 s.2.2.2.2.1 s.2.2.2.2.2.1 s.2.2.2.2.2.2.1 w
def F108.l6 (Q:QT) (C3:(NT×ST×Int×Int×Unit)->WT):(NT×ST×Int×Int×ST×Int×Int×Unit)->WT:=fun s w=>∃ n,loopC (F108.b6 Q C3) n s w
def F108.b3c (Q:QT) (C3:(NT×ST×Int×Int×Unit)->WT) (x1:NT) (x3:ST) (x10:Int) (x11:Int) (w:World):Prop :=
 vIf (decide (x11 < x10))
 (ldA 2 w x1.1 x1.2 fun a6 =>
 Calls Tryz.prog 120 #[ofL a6,VI .i64 x11] w fun e8 w7 =>
 ∃ (A9:Option Addr) (n10 c11:Nat),e8=.returned (VS A9 n10 c11)/\(
 jnC (F108.l6 Q C3) ((x1.1,x1.2),(x3.1,x3.2.1,x3.2.2),x10,x11,(A9,n10,c11),((n10:Int)),(0),()) w7))
 (Calls Tryz.prog 133 #[VS x3.1 x3.2.1 x3.2.2] w fun e26 w25 =>
 e26=.returned (VT #[])/\(
 Calls Tryz.prog 134 #[VS x3.1 x3.2.1 x3.2.2] w25 fun e28 w27 =>
 ∃ (A29:Option Addr) (n30 c31:Nat),e28=.returned (VS A29 n30 c31)/\(
 Q (VS A29 n30 c31) w27)))
def F108.b3 (Q:QT):(NT×ST×Int×Int×Unit)->World->((NT×ST×Int×Int×Unit)->WT)->Prop:=fun s w C3=>∀ _:Nat->Value,F108.b3c Q C3 s.1 s.2.1 s.2.2.1 s.2.2.2.1 w
def F108.l3 (Q:QT):(NT×ST×Int×Int×Unit)->WT:=fun s w=>∃ n,loopC (F108.b3 Q) n s w
def F108.vc (x0:List Value) (w:World) (Q:QT):Prop :=
 nw w x0 81 fun b1 w2 =>
 ldSl w2 b1 (0+1) fun A3 n4 c5 =>
 jnC (F108.l3 Q) ((b1,0),(none,0,0),((WR .i64 ((n4:Int)+1))),(0),()) w2
def F108.an:Ann:=⟨[(3,[(1,.kL),(3,.kSl),(10,.kI .i64),(11,.kI .i64)]),(6,[(1,.kL),(3,.kSl),(10,.kI .i64),(11,.kI .i64),(16,.kSl),(17,.kI .i64),(18,.kI .i64)])],[]⟩
theorem F108.of (x0:List Value) (w:World) {Q:QT} (h:F108.vc x0 w Q):Calls Tryz.prog 108 #[ofL x0] w (fun e w'=>∃ v,e=.returned v/\Q v w'):=vcFn_of (A:=F108.an) noCount mixed h (by kernel_rfl)
def F20.vc (x0A:Option Addr) (x0n x0c:Nat) (w:World) (Q:QT):Prop :=
 vIf x0A.isNone
 (Q (VS none 0 0) w)
 (nw w [] 5 fun b1 w2 =>
 app w2 1 1 [VI .u8 0] 5 (some ⟨b1,0,none⟩) 0 0 (VS x0A x0n x0c) fun A3 n4 c5 w6 =>
 Q (VS A3 n4 c5) w6)
def F20.an:Ann:=⟨[],[]⟩
theorem F20.of (x0A:Option Addr) (x0n x0c:Nat) (w:World) {Q:QT} (h:F20.vc x0A x0n x0c w Q):Calls Tryz.prog 20 #[VS x0A x0n x0c] w (fun e w'=>∃ v,e=.returned v/\Q v w'):=vcFn_of (A:=F20.an) noCount mixed h (by kernel_rfl)
def F163.vc (x0:List Value) (w:World) (Q:QT):Prop :=
 nw w x0 197 fun b1 w2 =>
 ldI .i64 w2 b1 (0+1) fun i3 =>
 vIf (decide (i3 >= 0))
 (ldI .i64 w2 b1 (0+1) fun i4 =>
 ldSl w2 b1 (0+2) fun A5 n6 c7 =>
 Q (VB (decide (i4<=(WR .i64 (1048576 - (n6:Int)))))) w2)
 (Q (VB false) w2)
def F163.an:Ann:=⟨[],[]⟩
theorem F163.of (x0:List Value) (w:World) {Q:QT} (h:F163.vc x0 w Q):Calls Tryz.prog 163 #[ofL x0] w (fun e w'=>∃ v,e=.returned v/\Q v w'):=vcFn_of (A:=F163.an) noCount mixed h (by kernel_rfl)
def F142.k5c (Q:QT) (x0:ST) (x3:NT) (w:World):Prop :=
 ldI .i64 w x3.1 (x3.2+1) fun i19 =>
 ldSl w x3.1 (x3.2+2) fun A20 n21 c22 =>
 gd (decide (0<=(if (x0.2.1:Int) < (WR .i64 (i19+(n21:Int))) then (WR .i64 (i19+(n21:Int))) else (x0.2.1:Int)))) <|
 gd (decide ((if (x0.2.1:Int) < (WR .i64 (i19+(n21:Int))) then (WR .i64 (i19+(n21:Int))) else (x0.2.1:Int))<=(if (x0.2.1:Int) < (WR .i64 (i19+(n21:Int))) then (WR .i64 (i19+(n21:Int))) else (x0.2.1:Int)))) <|
 gd (decide ((if (x0.2.1:Int) < (WR .i64 (i19+(n21:Int))) then (WR .i64 (i19+(n21:Int))) else (x0.2.1:Int)) * 1<=281474976710656/\(if (x0.2.1:Int) < (WR .i64 (i19+(n21:Int))) then (WR .i64 (i19+(n21:Int))) else (x0.2.1:Int))<=9223372036854775807)) <|
 nw w (zeros ((if (x0.2.1:Int) < (WR .i64 (i19+(n21:Int))) then (WR .i64 (i19+(n21:Int))) else (x0.2.1:Int))).toNat [VI .u8 0]) 5 fun b23 w24 =>
 cpy w24 1 (some ⟨b23,0,none⟩) (((if (x0.2.1:Int) < (WR .i64 (i19+(n21:Int))) then (WR .i64 (i19+(n21:Int))) else (x0.2.1:Int))).toNat) (VS x0.1 x0.2.1 x0.2.2) fun n25 w26 =>
 ldI .i64 w26.drew x3.1 (x3.2+1) fun i27 =>
 gd (decide (0<=i27)) <|
 gd (decide (i27<=((((if (x0.2.1:Int) < (WR .i64 (i19+(n21:Int))) then (WR .i64 (i19+(n21:Int))) else (x0.2.1:Int))).toNat:Nat):Int))) <|
 ldSl w26.drew x3.1 (x3.2+2) fun A28 n29 c30 =>
 cpy w26.drew 1 (slA (some ⟨b23,0,none⟩) ((if (x0.2.1:Int) < (WR .i64 (i19+(n21:Int))) then (WR .i64 (i19+(n21:Int))) else (x0.2.1:Int))).toNat (i27).toNat 1) (((if (x0.2.1:Int) < (WR .i64 (i19+(n21:Int))) then (WR .i64 (i19+(n21:Int))) else (x0.2.1:Int))).toNat - (i27).toNat) (VS A28 n29 c30) fun n31 w32 =>
 Q (VS (some ⟨b23,0,none⟩) ((if (x0.2.1:Int) < (WR .i64 (i19+(n21:Int))) then (WR .i64 (i19+(n21:Int))) else (x0.2.1:Int))).toNat ((if (x0.2.1:Int) < (WR .i64 (i19+(n21:Int))) then (WR .i64 (i19+(n21:Int))) else (x0.2.1:Int))).toNat) w32
def F142.k5 (Q:QT):(ST×NT×Unit)->WT:=fun s w=>∀ _:Nat->Value,F142.k5c Q s.1 s.2.1 w
def F142.k2c (Q:QT) (x0:ST) (x3:NT) (x6:Bool) (w:World):Prop :=
 vIf x6
 (Calls Tryz.prog 20 #[VS x0.1 x0.2.1 x0.2.2] w fun e8 w7 =>
 ∃ (A9:Option Addr) (n10 c11:Nat),e8=.returned (VS A9 n10 c11)/\(
 Q (VS A9 n10 c11) w7))
 (ldB w x3.1 x3.2 fun t12 =>
 vIf t12
 (ldI .i64 w x3.1 (x3.2+1) fun i13 =>
 gd (decide (0<=(if (x0.2.1:Int) < i13 then (x0.2.1:Int) else i13))) <|
 gd (decide ((if (x0.2.1:Int) < i13 then (x0.2.1:Int) else i13)<=(x0.2.2:Int))) <|
 Calls Tryz.prog 20 #[VS (slA x0.1 x0.2.2 0 1) ((if (x0.2.1:Int) < i13 then (x0.2.1:Int) else i13)).toNat x0.2.2] w fun e15 w14 =>
 ∃ (A16:Option Addr) (n17 c18:Nat),e15=.returned (VS A16 n17 c18)/\(
 Q (VS A16 n17 c18) w14))
 (jnC (F142.k5 Q) ((x0.1,x0.2.1,x0.2.2),(x3.1,x3.2),()) w))
def F142.k2 (Q:QT):(ST×NT×Bool×Unit)->WT:=fun s w=>∀ _:Nat->Value,F142.k2c Q s.1 s.2.1 s.2.2.1 w
def F142.vc (x0A:Option Addr) (x0n x0c:Nat) (x1:List Value) (w:World) (Q:QT):Prop :=
 nw w x1 197 fun b1 w2 =>
 ldA 3 w2 b1 0 fun a3 =>
 Calls Tryz.prog 163 #[ofL a3] w2 fun e5 w4 =>
 ∃ t6:Bool,e5=.returned (VB t6)/\(
 vIf (!t6)
 (jnC (F142.k2 Q) ((x0A,x0n,x0c),(b1,0),true,()) w4)
 (ldB w4 b1 0 fun t33 =>
 vIf (!t33)
 (ldSl w4 b1 (0+2) fun A34 n35 c36 =>
 jnC (F142.k2 Q) ((x0A,x0n,x0c),(b1,0),((n35:Int) == 0),()) w4)
 (jnC (F142.k2 Q) ((x0A,x0n,x0c),(b1,0),false,()) w4)))
def F142.an:Ann:=⟨[],[(2,[(0,.kSl),(3,.kL),(6,.kB)]),(5,[(0,.kSl),(3,.kL)])]⟩
theorem F142.of (x0A:Option Addr) (x0n x0c:Nat) (x1:List Value) (w:World) {Q:QT} (h:F142.vc x0A x0n x0c x1 w Q):Calls Tryz.prog 142 #[VS x0A x0n x0c,ofL x1] w (fun e w'=>∃ v,e=.returned v/\Q v w'):=vcFn_of (A:=F142.an) noCount mixed h (by kernel_rfl)
def F123.vc (x0:Int) (x1:List Value) (w:World) (Q:QT):Prop :=
 nw w x1 197 fun b1 w2 =>
 nw w2 [VB false,VI .i64 0,VS none 0 0] 197 fun b3 w4 =>
 ldA 3 w4 b1 0 fun a5 =>
 gd (a5.length == 3) <|
 st w4 b3 0 a5 fun w6 =>
 ldA 3 w6 b3 0 fun a7 =>
 Q (VT #[ofL a7,VB true]) w6
def F123.an:Ann:=⟨[],[]⟩
theorem F123.of (x0:Int) (x1:List Value) (w:World) {Q:QT} (h:F123.vc x0 x1 w Q):Calls Tryz.prog 123 #[VI .i64 x0,ofL x1] w (fun e w'=>∃ v,e=.returned v/\Q v w'):=vcFn_of (A:=F123.an) noCount mixed h (by kernel_rfl)
def F91.vc (x0A:Option Addr) (x0n x0c:Nat) (x1A:Option Addr) (x1n x1c:Nat) (w:World) (Q:QT):Prop :=
 Calls Tryz.prog 122 #[VS x0A x0n x0c,VS x1A x1n x1c,Value.func (.func 123) #[] #[]] w fun e2 w1 =>
 ∃ (A3:Option Addr) (n4 c5:Nat),e2=.returned (VS A3 n4 c5)/\(
 Q (VS A3 n4 c5) w1)
def F91.an:Ann:=⟨[],[]⟩
theorem F91.of (x0A:Option Addr) (x0n x0c:Nat) (x1A:Option Addr) (x1n x1c:Nat) (w:World) {Q:QT} (h:F91.vc x0A x0n x0c x1A x1n x1c w Q):Calls Tryz.prog 91 #[VS x0A x0n x0c,VS x1A x1n x1c] w (fun e w'=>∃ v,e=.returned v/\Q v w'):=vcFn_of (A:=F91.an) noCount mixed h (by kernel_rfl)
def F122a.b3c (Q:QT) (C3:(Unit×ST×ST×Int×Int×Unit)->WT) (x2:Unit) (x7:ST) (x14:ST) (x15:Int) (x16:Int) (w:World):Prop :=
 vIf (decide (x16 < x15))
 (dr x14.1 fun b6 o7 =>
 gd (decide (0<=x16)) <|
 gd (decide (x16 < (x14.2.1:Int))) <|
 ldA 3 w b6 (o7+(x16).toNat * 3) fun a8 =>
 nw w [VB false,VI .i64 0,VS none 0 0] 197 fun b9 w10 =>
 gd (a8.length == 3) <|
 st w10 b9 0 a8 fun w11 =>
 ldA 3 w11 b9 0 fun a12 =>
 Calls Tryz.prog 123 #[VI .i64 x16,ofL a12] w11 fun e14 w13 =>
 ∃ a15:List Value,∃ t16:Bool,e14=.returned (VT #[ofL a15,VB t16])/\(
 nw w13 [VB false,VI .i64 0,VS none 0 0] 197 fun b17 w18 =>
 gd (a15.length == 3) <|
 st w18 b17 0 a15 fun w19 =>
 vIf t16
 (ldA 3 w19 b17 0 fun a20 =>
 Calls Tryz.prog 142 #[VS x7.1 x7.2.1 x7.2.2,ofL a20] w19 fun e22 w21 =>
 ∃ (A23:Option Addr) (n24 c25:Nat),e22=.returned (VS A23 n24 c25)/\(
 jnC C3 ((),(A23,n24,c25),(x14.1,x14.2.1,x14.2.2),x15,((WR .i64 (x16+1))),()) w21))
 (jnC C3 ((),(x7.1,x7.2.1,x7.2.2),(x14.1,x14.2.1,x14.2.2),x15,((WR .i64 (x16+1))),()) w19)))
 (Q (VS x7.1 x7.2.1 x7.2.2) w)
def F122a.b3 (Q:QT):(Unit×ST×ST×Int×Int×Unit)->World->((Unit×ST×ST×Int×Int×Unit)->WT)->Prop:=fun s w C3=>∀ _:Nat->Value,F122a.b3c Q C3 s.1 s.2.1 s.2.2.1 s.2.2.2.1 s.2.2.2.2.1 w
def F122a.l3 (Q:QT):(Unit×ST×ST×Int×Int×Unit)->WT:=fun s w=>∃ n,loopC (F122a.b3 Q) n s w
def F122a.vc (x0A:Option Addr) (x0n x0c:Nat) (x1A:Option Addr) (x1n x1c:Nat) (w:World) (Q:QT):Prop :=
 Calls Tryz.prog 20 #[VS x0A x0n x0c] w fun e2 w1 =>
 ∃ (A3:Option Addr) (n4 c5:Nat),e2=.returned (VS A3 n4 c5)/\(
 jnC (F122a.l3 Q) ((),(A3,n4,c5),(x1A,x1n,x1c),((x1n:Int)),(0),()) w1)
def F122a.an:Ann:=⟨[(3,[(2,.kF 123),(7,.kSl),(14,.kSl),(15,.kI .i64),(16,.kI .i64)])],[]⟩
theorem F122a.of (x0A:Option Addr) (x0n x0c:Nat) (x1A:Option Addr) (x1n x1c:Nat) (w:World) {Q:QT} (h:F122a.vc x0A x0n x0c x1A x1n x1c w Q):Calls Tryz.prog 122 #[VS x0A x0n x0c,VS x1A x1n x1c,Value.func (.func 123) #[] #[]] w (fun e w'=>∃ v,e=.returned v/\Q v w'):=vcFn_of (A:=F122a.an) noCount mixed h (by kernel_rfl)
def F153.k5c (Q:QT) (C2:(Int×ST×Int×Int×Unit)->WT) (x0:Int) (x6:NT) (x7:ST) (x8:Int) (x9:Int) (x25:Bool) (w:World):Prop :=
 vIf x25
 (ldI .i64 w x6.1 (x6.2+1) fun i15 =>
 ldSl w x6.1 (x6.2+2) fun A16 n17 c18 =>
 jnC C2 (((if x0 < (WR .i64 (i15+(n17:Int))) then (WR .i64 (i15+(n17:Int))) else x0)),(x7.1,x7.2.1,x7.2.2),x8,((WR .i64 (x9+1))),()) w)
 (jnC C2 (x0,(x7.1,x7.2.1,x7.2.2),x8,((WR .i64 (x9+1))),()) w)
def F153.k5 (Q:QT) (C2:(Int×ST×Int×Int×Unit)->WT):(Int×NT×ST×Int×Int×Bool×Unit)->WT:=fun s w=>∀ _:Nat->Value,F153.k5c Q C2 s.1 s.2.1 s.2.2.1 s.2.2.2.1 s.2.2.2.2.1 s.2.2.2.2.2.1 w
def F153.b2c (Q:QT) (C2:(Int×ST×Int×Int×Unit)->WT) (x0:Int) (x7:ST) (x8:Int) (x9:Int) (w:World):Prop :=
 vIf (decide (x9 < x8))
 (dr x7.1 fun b1 o2 =>
 gd (decide (0<=x9)) <|
 gd (decide (x9 < (x7.2.1:Int))) <|
 ldA 3 w b1 (o2+(x9).toNat * 3) fun a3 =>
 nw w [VB false,VI .i64 0,VS none 0 0] 197 fun b4 w5 =>
 gd (a3.length == 3) <|
 st w5 b4 0 a3 fun w6 =>
 ldA 3 w6 b4 0 fun a7 =>
 Calls Tryz.prog 163 #[ofL a7] w6 fun e9 w8 =>
 ∃ t10:Bool,e9=.returned (VB t10)/\(
 vIf t10
 (ldB w8 b4 0 fun t11 =>
 vIf (!t11)
 (ldSl w8 b4 (0+2) fun A12 n13 c14 =>
 jnC (F153.k5 Q C2) (x0,(b4,0),(x7.1,x7.2.1,x7.2.2),x8,x9,(decide ((n13:Int) > 0)),()) w8)
 (jnC (F153.k5 Q C2) (x0,(b4,0),(x7.1,x7.2.1,x7.2.2),x8,x9,false,()) w8))
 (jnC (F153.k5 Q C2) (x0,(b4,0),(x7.1,x7.2.1,x7.2.2),x8,x9,false,()) w8)))
 (Q (VI .i64 x0) w)
def F153.b2 (Q:QT):(Int×ST×Int×Int×Unit)->World->((Int×ST×Int×Int×Unit)->WT)->Prop:=fun s w C2=>∀ _:Nat->Value,F153.b2c Q C2 s.1 s.2.1 s.2.2.1 s.2.2.2.1 w
def F153.l2 (Q:QT):(Int×ST×Int×Int×Unit)->WT:=fun s w=>∃ n,loopC (F153.b2 Q) n s w
def F153.vc (x0:Int) (x1A:Option Addr) (x1n x1c:Nat) (w:World) (Q:QT):Prop :=
 jnC (F153.l2 Q) (x0,(x1A,x1n,x1c),((x1n:Int)),(0),()) w
def F153.an:Ann:=⟨[(2,[(0,.kI .i64),(7,.kSl),(8,.kI .i64),(9,.kI .i64)])],[(5,[(0,.kI .i64),(6,.kL),(7,.kSl),(8,.kI .i64),(9,.kI .i64),(25,.kB)])]⟩
theorem F153.of (x0:Int) (x1A:Option Addr) (x1n x1c:Nat) (w:World) {Q:QT} (h:F153.vc x0 x1A x1n x1c w Q):Calls Tryz.prog 153 #[VI .i64 x0,VS x1A x1n x1c] w (fun e w'=>∃ v,e=.returned v/\Q v w'):=vcFn_of (A:=F153.an) noCount mixed h (by kernel_rfl)
def F177.k3c (Q:QT) (x0:ST) (x1:Int) (w:World):Prop :=
 vIf (decide ((WR .i64 (x1 - (WR .i64 ((x0.2.2:Int) - (x0.2.1:Int))))) > 0))
 (gd (decide (0<=(x0.2.2:Int))) <|
 gd (decide ((x0.2.2:Int)<=(x0.2.2:Int))) <|
 appZ w 3 40 [VB false,VI .i64 0,VS none 0 0] 197 (slA x0.1 x0.2.2 0 3) (((x0.2.2:Int)).toNat) x0.2.2 (WR .i64 (x1 - (WR .i64 ((x0.2.2:Int) - (x0.2.1:Int))))) fun A1 n2 c3 w4 =>
 gd (decide (0<=(x0.2.1:Int))) <|
 gd (decide ((x0.2.1:Int)<=(c3:Int))) <|
 Q (VS (slA A1 c3 0 3) ((x0.2.1:Int)).toNat c3) w4)
 (Q (VS x0.1 x0.2.1 x0.2.2) w)
def F177.k3 (Q:QT):(ST×Int×Unit)->WT:=fun s w=>∀ _:Nat->Value,F177.k3c Q s.1 s.2.1 w
def F177.vc (x0A:Option Addr) (x0n x0c:Nat) (x1:Int) (w:World) (Q:QT):Prop :=
 vIf (decide (x1 < 0))
 (False)
 (jnC (F177.k3 Q) ((x0A,x0n,x0c),x1,()) w)
def F177.an:Ann:=⟨[],[(3,[(0,.kSl),(1,.kI .i64)])]⟩
theorem F177.of (x0A:Option Addr) (x0n x0c:Nat) (x1:Int) (w:World) {Q:QT} (h:F177.vc x0A x0n x0c x1 w Q):Calls Tryz.prog 177 #[VS x0A x0n x0c,VI .i64 x1] w (fun e w'=>∃ v,e=.returned v/\Q v w'):=vcFn_of (A:=F177.an) noCount mixed h (by kernel_rfl)
def F154.b11c (Q:QT) (C11:(ST×ST×Int×Int×Unit)->WT) (x6:ST) (x25:ST) (x26:Int) (x27:Int) (w:World):Prop :=
 vIf (decide (x27 < x26))
 (dr x25.1 fun b11 o12 =>
 gd (decide (0<=x27)) <|
 gd (decide (x27 < (x25.2.1:Int))) <|
 ldSl w b11 (o12+(x27).toNat * 1) fun A13 n14 c15 =>
 app w 3 40 [VB false,VI .i64 0,VS none 0 0] 197 x6.1 x6.2.1 x6.2.2 (VS A13 n14 c15) fun A16 n17 c18 w19 =>
 jnC C11 ((A16,n17,c18),(x25.1,x25.2.1,x25.2.2),x26,((WR .i64 (x27+1))),()) w19)
 (Q (VS x6.1 x6.2.1 x6.2.2) w)
def F154.b11 (Q:QT):(ST×ST×Int×Int×Unit)->World->((ST×ST×Int×Int×Unit)->WT)->Prop:=fun s w C11=>∀ _:Nat->Value,F154.b11c Q C11 s.1 s.2.1 s.2.2.1 s.2.2.2.1 w
def F154.l11 (Q:QT):(ST×ST×Int×Int×Unit)->WT:=fun s w=>∃ n,loopC (F154.b11 Q) n s w
def F154.b3c (Q:QT) (C3:(ST×Int×ST×Int×Int×Unit)->WT) (x0:ST) (x3:Int) (x9:ST) (x10:Int) (x11:Int) (w:World):Prop :=
 vIf (decide (x11 < x10))
 (dr x9.1 fun b1 o2 =>
 gd (decide (0<=x11)) <|
 gd (decide (x11 < (x9.2.1:Int))) <|
 ldSl w b1 (o2+(x11).toNat * 1) fun A3 n4 c5 =>
 vIf (decide ((WR .i64 (x3+(n4:Int))) < 0))
 (False)
 (jnC C3 ((x0.1,x0.2.1,x0.2.2),((WR .i64 (x3+(n4:Int)))),(x9.1,x9.2.1,x9.2.2),x10,((WR .i64 (x11+1))),()) w))
 (Calls Tryz.prog 177 #[VS none 0 0,VI .i64 x3] w fun e7 w6 =>
 ∃ (A8:Option Addr) (n9 c10:Nat),e7=.returned (VS A8 n9 c10)/\(
 jnC (F154.l11 Q) ((A8,n9,c10),(x0.1,x0.2.1,x0.2.2),((x0.2.1:Int)),(0),()) w6))
def F154.b3 (Q:QT):(ST×Int×ST×Int×Int×Unit)->World->((ST×Int×ST×Int×Int×Unit)->WT)->Prop:=fun s w C3=>∀ _:Nat->Value,F154.b3c Q C3 s.1 s.2.1 s.2.2.1 s.2.2.2.1 s.2.2.2.2.1 w
def F154.l3 (Q:QT):(ST×Int×ST×Int×Int×Unit)->WT:=fun s w=>∃ n,loopC (F154.b3 Q) n s w
def F154.vc (x0A:Option Addr) (x0n x0c:Nat) (w:World) (Q:QT):Prop :=
 jnC (F154.l3 Q) ((x0A,x0n,x0c),(0),(x0A,x0n,x0c),((x0n:Int)),(0),()) w
def F154.an:Ann:=⟨[(3,[(0,.kSl),(3,.kI .i64),(9,.kSl),(10,.kI .i64),(11,.kI .i64)]),(11,[(6,.kSl),(25,.kSl),(26,.kI .i64),(27,.kI .i64)])],[]⟩
theorem F154.of (x0A:Option Addr) (x0n x0c:Nat) (w:World) {Q:QT} (h:F154.vc x0A x0n x0c w Q):Calls Tryz.prog 154 #[VS x0A x0n x0c] w (fun e w'=>∃ v,e=.returned v/\Q v w'):=vcFn_of (A:=F154.an) noCount mixed h (by kernel_rfl)
def F56.vc (x0:List Value) (w:World) (Q:QT):Prop :=
 nw w x0 123 fun b1 w2 =>
 ldSl w2 b1 0 fun A3 n4 c5 =>
 ldSl w2 b1 (0+1) fun A6 n7 c8 =>
 Calls Tryz.prog 91 #[VS A3 n4 c5,VS A6 n7 c8] w2 fun e10 w9 =>
 ∃ (A11:Option Addr) (n12 c13:Nat),e10=.returned (VS A11 n12 c13)/\(
 Q (VS A11 n12 c13) w9)
def F56.an:Ann:=⟨[],[]⟩
theorem F56.of (x0:List Value) (w:World) {Q:QT} (h:F56.vc x0 w Q):Calls Tryz.prog 56 #[ofL x0] w (fun e w'=>∃ v,e=.returned v/\Q v w'):=vcFn_of (A:=F56.an) noCount mixed h (by kernel_rfl)
def F136.vc (x0:List Value) (w:World) (Q:QT):Prop :=
 nw w x0 123 fun b1 w2 =>
 ldSl w2 b1 0 fun A3 n4 c5 =>
 ldSl w2 b1 (0+1) fun A6 n7 c8 =>
 Calls Tryz.prog 153 #[VI .i64 (n4:Int),VS A6 n7 c8] w2 fun e10 w9 =>
 ∃ i11:Int,e10=.returned (VI .i64 i11)/\(
 Q (VI .i64 i11) w9)
def F136.an:Ann:=⟨[],[]⟩
theorem F136.of (x0:List Value) (w:World) {Q:QT} (h:F136.vc x0 w Q):Calls Tryz.prog 136 #[ofL x0] w (fun e w'=>∃ v,e=.returned v/\Q v w'):=vcFn_of (A:=F136.an) noCount mixed h (by kernel_rfl)
def F116.vc (x0:List Value) (w:World) (Q:QT):Prop :=
 nw w x0 123 fun b1 w2 =>
 nw w2 [VS none 0 0,VS none 0 0] 123 fun b3 w4 =>
 ldA 2 w4 b1 0 fun a5 =>
 Calls Tryz.prog 56 #[ofL a5] w4 fun e7 w6 =>
 ∃ (A8:Option Addr) (n9 c10:Nat),e7=.returned (VS A8 n9 c10)/\(
 gd (([VS A8 n9 c10] ++ ([VS none 0 0] ++ [])).length == 2) <|
 st w6 b3 0 ([VS A8 n9 c10] ++ ([VS none 0 0] ++ [])) fun w11 =>
 ldA 2 w11 b3 0 fun a12 =>
 Q (ofL a12) w11)
def F116.an:Ann:=⟨[],[]⟩
theorem F116.of (x0:List Value) (w:World) {Q:QT} (h:F116.vc x0 w Q):Calls Tryz.prog 116 #[ofL x0] w (fun e w'=>∃ v,e=.returned v/\Q v w'):=vcFn_of (A:=F116.an) noCount mixed h (by kernel_rfl)
def F138.vc (x0:List Value) (x1A:Option Addr) (x1n x1c:Nat) (w:World) (Q:QT):Prop :=
 nw w x0 123 fun b1 w2 =>
 nw w2 [VS none 0 0,VS none 0 0] 123 fun b3 w4 =>
 ldSl w4.drew b1 0 fun A5 n6 c7 =>
 ldSl w4.drew b1 (0+1) fun A8 n9 c10 =>
 nw w4.drew ([VS A8 n9 c10] ++ ([VS x1A x1n x1c] ++ [])) 121 fun b11 w12 =>
 kp w4.drew b1 0 1 w12 <|
 Calls Tryz.prog 154 #[VS (some ⟨b11,0,none⟩) 2 2] w12 fun e14 w13 =>
 ∃ (A15:Option Addr) (n16 c17:Nat),e14=.returned (VS A15 n16 c17)/\(
 kp w4.drew b1 0 1 w13 <|
 gd (([VS A5 n6 c7] ++ ([VS A15 n16 c17] ++ [])).length == 2) <|
 st w13 b3 0 ([VS A5 n6 c7] ++ ([VS A15 n16 c17] ++ [])) fun w18 =>
 ldA 2 w18 b3 0 fun a19 =>
 Q (ofL a19) w18)
def F138.an:Ann:=⟨[],[]⟩
theorem F138.of (x0:List Value) (x1A:Option Addr) (x1n x1c:Nat) (w:World) {Q:QT} (h:F138.vc x0 x1A x1n x1c w Q):Calls Tryz.prog 138 #[ofL x0,VS x1A x1n x1c] w (fun e w'=>∃ v,e=.returned v/\Q v w'):=vcFn_of (A:=F138.an) noCount mixed h (by kernel_rfl)
def F113.vc (x0:List Value) (x1A:Option Addr) (x1n x1c:Nat) (w:World) (Q:QT):Prop :=
 nw w x0 123 fun b1 w2 =>
 nw w2 [VS none 0 0,VS none 0 0] 123 fun b3 w4 =>
 ldA 2 w4 b1 0 fun a5 =>
 Calls Tryz.prog 56 #[ofL a5] w4 fun e7 w6 =>
 ∃ (A8:Option Addr) (n9 c10:Nat),e7=.returned (VS A8 n9 c10)/\(
 vIf (decide ((x1n:Int) > (WR .i64 (1048576 - (n9:Int)))))
 (ldA 2 w6 b1 0 fun a11 =>
 gd (a11.length == 2) <|
 st w6 b3 0 a11 fun w12 =>
 ldA 2 w12 b3 0 fun a13 =>
 Q (VT #[ofL a13,VI .i64 18]) w12)
 (vIf ((x1n:Int) == 0)
 (ldA 2 w6 b1 0 fun a14 =>
 gd (a14.length == 2) <|
 st w6 b3 0 a14 fun w15 =>
 ldA 2 w15 b3 0 fun a16 =>
 Q (VT #[ofL a16,VI .i64 0]) w15)
 (ldA 2 w6.drew b1 0 fun a17 =>
 Calls Tryz.prog 20 #[VS x1A x1n x1c] w6.drew fun e19 w18 =>
 ∃ (A20:Option Addr) (n21 c22:Nat),e19=.returned (VS A20 n21 c22)/\(
 kp w6.drew b1 0 2 w18 <|
 gd (([VB false] ++ ([VI .i64 (n9:Int)] ++ ([VS A20 n21 c22] ++ []))).length == 3) <|
 nw w18 (([VB false] ++ ([VI .i64 (n9:Int)] ++ ([VS A20 n21 c22] ++ []))) ++ []) 197 fun b23 w24 =>
 kp w6.drew b1 0 2 w24 <|
 Calls Tryz.prog 138 #[ofL a17,VS (some ⟨b23,0,none⟩) 1 1] w24 fun e26 w25 =>
 ∃ a27:List Value,e26=.returned (ofL a27)/\(
 gd (a27.length == 2) <|
 st w25 b3 0 a27 fun w28 =>
 ldA 2 w28 b3 0 fun a29 =>
 Q (VT #[ofL a29,VI .i64 0]) w28)))))
def F113.an:Ann:=⟨[],[]⟩
theorem F113.of (x0:List Value) (x1A:Option Addr) (x1n x1c:Nat) (w:World) {Q:QT} (h:F113.vc x0 x1A x1n x1c w Q):Calls Tryz.prog 113 #[ofL x0,VS x1A x1n x1c] w (fun e w'=>∃ v,e=.returned v/\Q v w'):=vcFn_of (A:=F113.an) noCount mixed h (by kernel_rfl)
def F119.k8c (Q:QT) (C3:(Option Addr×ST×Int×ST×Int×Int×Unit)->WT) (x0:Option Addr) (x4:ST) (x5:Int) (x7:Int) (x13:ST) (x14:Int) (x15:Int) (x44:Bool) (w:World):Prop :=
 vIf x44
 (dr x0 fun b15 o16 =>
 ldM w b15 (o16+4) fun m17 =>
 drM m17 fun r19 =>
 mdl w r19 .i64 x7 fun w18 =>
 jnC C3 (x0,(x4.1,x4.2.1,x4.2.2),x5,(x13.1,x13.2.1,x13.2.2),x14,((WR .i64 (x15+1))),()) w18)
 (jnC C3 (x0,(x4.1,x4.2.1,x4.2.2),x5,(x13.1,x13.2.1,x13.2.2),x14,((WR .i64 (x15+1))),()) w)
def F119.k8 (Q:QT) (C3:(Option Addr×ST×Int×ST×Int×Int×Unit)->WT):(Option Addr×ST×Int×Int×ST×Int×Int×Bool×Unit)->WT:=fun s w=>∀ _:Nat->Value,F119.k8c Q C3 s.1 s.2.1 s.2.2.1 s.2.2.2.1 s.2.2.2.2.1 s.2.2.2.2.2.1 s.2.2.2.2.2.2.1 s.2.2.2.2.2.2.2.1 w
def F119.k7c (Q:QT) (C3:(Option Addr×ST×Int×ST×Int×Int×Unit)->WT) (x0:Option Addr) (x4:ST) (x5:Int) (x7:Int) (x13:ST) (x14:Int) (x15:Int) (w:World):Prop :=
 vIf (x5 == (x4.2.1:Int))
 (jnC (F119.k8 Q C3) (x0,(x4.1,x4.2.1,x4.2.2),x5,x7,(x13.1,x13.2.1,x13.2.2),x14,x15,true,()) w)
 (dr x4.1 fun b20 o21 =>
 gd (decide (0<=x5)) <|
 gd (decide (x5 < (x4.2.1:Int))) <|
 ldI .i64 w b20 (o21+(x5).toNat * 1) fun i22 =>
 jnC (F119.k8 Q C3) (x0,(x4.1,x4.2.1,x4.2.2),x5,x7,(x13.1,x13.2.1,x13.2.2),x14,x15,(i22 != x7),()) w)
def F119.k7 (Q:QT) (C3:(Option Addr×ST×Int×ST×Int×Int×Unit)->WT):(Option Addr×ST×Int×Int×ST×Int×Int×Unit)->WT:=fun s w=>∀ _:Nat->Value,F119.k7c Q C3 s.1 s.2.1 s.2.2.1 s.2.2.2.1 s.2.2.2.2.1 s.2.2.2.2.2.1 s.2.2.2.2.2.2.1 w
def F119.b5c (Q:QT) (C3:(Option Addr×ST×Int×ST×Int×Int×Unit)->WT) (C5:(Option Addr×ST×Int×Int×ST×Int×Int×Unit)->WT) (x0:Option Addr) (x4:ST) (x5:Int) (x7:Int) (x13:ST) (x14:Int) (x15:Int) (w:World):Prop :=
 vIf (decide (x5 < (x4.2.1:Int)))
 (dr x4.1 fun b12 o13 =>
 gd (decide (0<=x5)) <|
 gd (decide (x5 < (x4.2.1:Int))) <|
 ldI .i64 w b12 (o13+(x5).toNat * 1) fun i14 =>
 vIf (decide (i14 < x7))
 (jnC C5 (x0,(x4.1,x4.2.1,x4.2.2),((WR .i64 (x5+1))),x7,(x13.1,x13.2.1,x13.2.2),x14,x15,()) w)
 (jnC (F119.k7 Q C3) (x0,(x4.1,x4.2.1,x4.2.2),x5,x7,(x13.1,x13.2.1,x13.2.2),x14,x15,()) w))
 (jnC (F119.k7 Q C3) (x0,(x4.1,x4.2.1,x4.2.2),x5,x7,(x13.1,x13.2.1,x13.2.2),x14,x15,()) w)
def F119.b5 (Q:QT) (C3:(Option Addr×ST×Int×ST×Int×Int×Unit)->WT):(Option Addr×ST×Int×Int×ST×Int×Int×Unit)->World->((Option Addr×ST×Int×Int×ST×Int×Int×Unit)->WT)->Prop:=fun s w C5=>∀ _:Nat->Value,F119.b5c Q C3 C5 s.1 s.2.1 s.2.2.1 s.2.2.2.1 s.2.2.2.2.1 s.2.2.2.2.2.1 s.2.2.2.2.2.2.1 w
def F119.l5 (Q:QT) (C3:(Option Addr×ST×Int×ST×Int×Int×Unit)->WT):(Option Addr×ST×Int×Int×ST×Int×Int×Unit)->WT:=fun s w=>∃ n,loopC (F119.b5 Q C3) n s w
def F119.b3c (Q:QT) (C3:(Option Addr×ST×Int×ST×Int×Int×Unit)->WT) (x0:Option Addr) (x4:ST) (x5:Int) (x13:ST) (x14:Int) (x15:Int) (w:World):Prop :=
 vIf (decide (x15 < x14))
 (dr x13.1 fun b9 o10 =>
 gd (decide (0<=x15)) <|
 gd (decide (x15 < (x13.2.1:Int))) <|
 ldI .i64 w b9 (o10+(x15).toNat * 1) fun i11 =>
 jnC (F119.l5 Q C3) (x0,(x4.1,x4.2.1,x4.2.2),x5,i11,(x13.1,x13.2.1,x13.2.2),x14,x15,()) w)
 (Q (VT #[]) w)
def F119.b3 (Q:QT):(Option Addr×ST×Int×ST×Int×Int×Unit)->World->((Option Addr×ST×Int×ST×Int×Int×Unit)->WT)->Prop:=fun s w C3=>∀ _:Nat->Value,F119.b3c Q C3 s.1 s.2.1 s.2.2.1 s.2.2.2.1 s.2.2.2.2.1 s.2.2.2.2.2.1 w
def F119.l3 (Q:QT):(Option Addr×ST×Int×ST×Int×Int×Unit)->WT:=fun s w=>∃ n,loopC (F119.b3 Q) n s w
def F119.vc (x0:Option Addr) (x1A:Option Addr) (x1n x1c:Nat) (w:World) (Q:QT):Prop :=
 dr x0 fun b1 o2 =>
 ldA 2 w b1 (o2+2) fun a3 =>
 Calls Tryz.prog 108 #[ofL a3] w fun e5 w4 =>
 ∃ (A6:Option Addr) (n7 c8:Nat),e5=.returned (VS A6 n7 c8)/\(
 jnC (F119.l3 Q) (x0,(A6,n7,c8),(0),(x1A,x1n,x1c),((x1n:Int)),(0),()) w4)
def F119.an:Ann:=⟨[(3,[(0,.kP),(4,.kSl),(5,.kI .i64),(13,.kSl),(14,.kI .i64),(15,.kI .i64)]),(5,[(0,.kP),(4,.kSl),(5,.kI .i64),(7,.kI .i64),(13,.kSl),(14,.kI .i64),(15,.kI .i64)])],[(7,[(0,.kP),(4,.kSl),(5,.kI .i64),(7,.kI .i64),(13,.kSl),(14,.kI .i64),(15,.kI .i64)]),(8,[(0,.kP),(4,.kSl),(5,.kI .i64),(7,.kI .i64),(13,.kSl),(14,.kI .i64),(15,.kI .i64),(44,.kB)])]⟩
theorem F119.of (x0:Option Addr) (x1A:Option Addr) (x1n x1c:Nat) (w:World) {Q:QT} (h:F119.vc x0 x1A x1n x1c w Q):Calls Tryz.prog 119 #[VP x0,VS x1A x1n x1c] w (fun e w'=>∃ v,e=.returned v/\Q v w'):=vcFn_of (A:=F119.an) noCount mixed h (by kernel_rfl)
def F137.b3c (Q:QT) (C3:(Option Addr×Int×ST×Int×Int×Unit)->WT) (x0:Option Addr) (x3:Int) (x10:ST) (x11:Int) (x12:Int) (w:World):Prop :=
 vIf (decide (x12 < x11))
 (dr x10.1 fun b9 o10 =>
 gd (decide (0<=x12)) <|
 gd (decide (x12 < (x10.2.1:Int))) <|
 ldI .i64 w b9 (o10+(x12).toNat * 1) fun i11 =>
 dr x0 fun b12 o13 =>
 ldM w b12 (o13+4) fun m14 =>
 drM m14 fun r17 =>
 mlk w r17 .i64 i11 fun q15 =>
 lvA [VS none 0 0,VS none 0 0] q15 fun a16 =>
 Calls Tryz.prog 136 #[ofL a16] w fun e19 w18 =>
 ∃ i20:Int,e19=.returned (VI .i64 i20)/\(
 jnC C3 (x0,((WR .i64 (x3+i20))),(x10.1,x10.2.1,x10.2.2),x11,((WR .i64 (x12+1))),()) w18))
 (Q (VI .i64 x3) w)
def F137.b3 (Q:QT):(Option Addr×Int×ST×Int×Int×Unit)->World->((Option Addr×Int×ST×Int×Int×Unit)->WT)->Prop:=fun s w C3=>∀ _:Nat->Value,F137.b3c Q C3 s.1 s.2.1 s.2.2.1 s.2.2.2.1 s.2.2.2.2.1 w
def F137.l3 (Q:QT):(Option Addr×Int×ST×Int×Int×Unit)->WT:=fun s w=>∃ n,loopC (F137.b3 Q) n s w
def F137.vc (x0:Option Addr) (w:World) (Q:QT):Prop :=
 dr x0 fun b1 o2 =>
 ldA 2 w b1 (o2+2) fun a3 =>
 Calls Tryz.prog 108 #[ofL a3] w fun e5 w4 =>
 ∃ (A6:Option Addr) (n7 c8:Nat),e5=.returned (VS A6 n7 c8)/\(
 jnC (F137.l3 Q) (x0,(0),(A6,n7,c8),((n7:Int)),(0),()) w4)
def F137.an:Ann:=⟨[(3,[(0,.kP),(3,.kI .i64),(10,.kSl),(11,.kI .i64),(12,.kI .i64)])],[]⟩
theorem F137.of (x0:Option Addr) (w:World) {Q:QT} (h:F137.vc x0 w Q):Calls Tryz.prog 137 #[VP x0] w (fun e w'=>∃ v,e=.returned v/\Q v w'):=vcFn_of (A:=F137.an) noCount mixed h (by kernel_rfl)
def F109.vc (x0:Option Addr) (x1:List Value) (w:World) (Q:QT):Prop :=
 nw w x1 185 fun b1 w2 =>
 dr x0 fun b3 o4 =>
 ldA 2 w2 b3 (o4+2) fun a5 =>
 Calls Tryz.prog 108 #[ofL a5] w2 fun e7 w6 =>
 ∃ (A8:Option Addr) (n9 c10:Nat),e7=.returned (VS A8 n9 c10)/\(
 dr x0 fun b11 o12 =>
 ldA 2 w6.drew b11 (o12+2) fun a13 =>
 ldA 4 w6.drew b1 0 fun a14 =>
 (Calls Tryz.prog 135 #[ofL a13,ofL a14] w6.drew fun e16 w15 =>
 ∃ a17:List Value,∃ i18:Int,e16=.returned (VT #[ofL a17,VI .i64 i18])/\(
 nw w15 [VS none 0 0,VS none 0 0] 81 fun b19 w20 =>
 kp w6.drew b1 0 4 w20 <|
 kp w6.drew b11 (o12+2) 2 w20 <|
 gd (a17.length == 2) <|
 st w20 b19 0 a17 fun w21 =>
 ldA 2 w21 b19 0 fun a22 =>
 dr x0 fun b23 o24 =>
 gd (a22.length == 2) <|
 st w21 b23 (o24+2) a22 fun w25 =>
 Calls Tryz.prog 119 #[VP x0,VS A8 n9 c10] w25 fun e27 w26 =>
 e27=.returned (VT #[])/\(
 Q (VI .i64 i18) w26))) /\
 (nw w6.drew [VS none 0 0,VS none 0 0] 81 fun b28 w29 =>
 kp w6.drew b1 0 4 w29 <|
 kp w6.drew b11 (o12+2) 2 w29 <|
 Calls Tryz.prog 135 #[ofL a13,ofL a14] w29 fun e31 w30 =>
 ∃ a32:List Value,∃ i33:Int,e31=.returned (VT #[ofL a32,VI .i64 i33])/\(
 gd (a32.length == 2) <|
 st w30 b28 0 a32 fun w34 =>
 ldA 2 w34 b28 0 fun a35 =>
 dr x0 fun b36 o37 =>
 gd (a35.length == 2) <|
 st w34 b36 (o37+2) a35 fun w38 =>
 Calls Tryz.prog 119 #[VP x0,VS A8 n9 c10] w38 fun e40 w39 =>
 e40=.returned (VT #[])/\(
 Q (VI .i64 i33) w39))))
def F109.an:Ann:=⟨[],[]⟩
theorem F109.of (x0:Option Addr) (x1:List Value) (w:World) {Q:QT} (h:F109.vc x0 x1 w Q):Calls Tryz.prog 109 #[VP x0,ofL x1] w (fun e w'=>∃ v,e=.returned v/\Q v w'):=vcFn_of (A:=F109.an) noCount mixed h (by kernel_rfl)
def F111a.k10c (Q:QT) (x0:Option Addr) (x7:Int) (x9:NT) (x58:Bool) (w:World):Prop :=
 vIf x58
 (dr x0 fun b45 o46 =>
 ldM w.drew b45 (o46+4) fun m47 =>
 ldA 2 w.drew x9.1 x9.2 fun a48 =>
 drM m47 fun r50 =>
 mup w.drew r50 .i64 x7 (ofL a48) fun w49 =>
 Q (VI .i64 9) w49)
 (Q (VI .i64 0) w)
def F111a.k10 (Q:QT):(Option Addr×Int×NT×Bool×Unit)->WT:=fun s w=>∀ _:Nat->Value,F111a.k10c Q s.1 s.2.1 s.2.2.1 s.2.2.2.1 w
def F111a.vc (x0:Option Addr) (x1:ByteArray) (x2:Nat×Nat) (w:World) (Q:QT):Prop :=
 dr x0 fun b1 o2 =>
 ldA 2 w b1 (o2+2) fun a3 =>
 Calls Tryz.prog 55 #[ofL a3,VG x1] w fun e5 w4 =>
 ∃ i6:Int,∃ t7:Bool,e5=.returned (VT #[VI .i64 i6,VB t7])/\(
 vIf (!t7)
 (Q (VI .i64 6) w4)
 (dr x0 fun b8 o9 =>
 ldM w4 b8 (o9+4) fun m10 =>
 drM m10 fun r13 =>
 mlk w4 r13 .i64 i6 fun q11 =>
 lvA [VS none 0 0,VS none 0 0] q11 fun a12 =>
 nw w4 [VS none 0 0,VS none 0 0] 123 fun b14 w15 =>
 gd (a12.length == 2) <|
 st w15 b14 0 a12 fun w16 =>
 ldA 2 w16 b14 0 fun a17 =>
 Calls Tryz.prog 112 #[ofL a17,VP (some ⟨x2.1,x2.2,none⟩)] w16 fun e19 w18 =>
 ∃ a20:List Value,∃ i21:Int,e19=.returned (VT #[ofL a20,VI .i64 i21])/\(
 nw w18 [VS none 0 0,VS none 0 0] 123 fun b22 w23 =>
 gd (a20.length == 2) <|
 st w23 b22 0 a20 fun w24 =>
 vIf (i21 != 0)
 (Q (VI .i64 i21) w24)
 (dr x0 fun b25 o26 =>
 ldM w24.drew b25 (o26+4) fun m27 =>
 ldA 2 w24.drew b22 0 fun a28 =>
 drM m27 fun r30 =>
 mup w24.drew r30 .i64 i6 (ofL a28) fun w29 =>
 ldA 2 w29.drew b22 0 fun a31 =>
 ldA 2 w29.drew b14 0 fun a32 =>
 Calls Tryz.prog 136 #[ofL a31] w29.drew fun e34 w33 =>
 ∃ i35:Int,e34=.returned (VI .i64 i35)/\(
 kp w29.drew b14 0 2 w33 <|
 Calls Tryz.prog 136 #[ofL a32] w33 fun e37 w36 =>
 ∃ i38:Int,e37=.returned (VI .i64 i38)/\(
 vIf (decide (i35 > i38))
 (dr x0 fun b39 o40 =>
 ldI .i64 w36 b39 o40 fun i41 =>
 Calls Tryz.prog 137 #[VP x0] w36 fun e43 w42 =>
 ∃ i44:Int,e43=.returned (VI .i64 i44)/\(
 kp w36 b39 o40 1 w42 <|
 jnC (F111a.k10 Q) (x0,i6,(b14,0),(decide (i44 > i41)),()) w42))
 (jnC (F111a.k10 Q) (x0,i6,(b14,0),false,()) w36)))))))
def F111a.an:Ann:=⟨[],[(10,[(0,.kP),(7,.kI .i64),(9,.kL),(58,.kB)])]⟩
theorem F111a.of (x0:Option Addr) (x1:ByteArray) (x2:Nat×Nat) (w:World) {Q:QT} (h:F111a.vc x0 x1 x2 w Q):Calls Tryz.prog 111 #[VP x0,VG x1,Value.func (.func 112) #[] #[VP (some ⟨x2.1,x2.2,none⟩)]] w (fun e w'=>∃ v,e=.returned v/\Q v w'):=vcFn_of (A:=F111a.an) noCount mixed h (by kernel_rfl)
def F111c.k10c (Q:QT) (x0:Option Addr) (x7:Int) (x9:NT) (x58:Bool) (w:World):Prop :=
 vIf x58
 (dr x0 fun b45 o46 =>
 ldM w.drew b45 (o46+4) fun m47 =>
 ldA 2 w.drew x9.1 x9.2 fun a48 =>
 drM m47 fun r50 =>
 mup w.drew r50 .i64 x7 (ofL a48) fun w49 =>
 Q (VI .i64 9) w49)
 (Q (VI .i64 0) w)
def F111c.k10 (Q:QT):(Option Addr×Int×NT×Bool×Unit)->WT:=fun s w=>∀ _:Nat->Value,F111c.k10c Q s.1 s.2.1 s.2.2.1 s.2.2.2.1 w
def F111c.vc (x0:Option Addr) (x1:ByteArray) (w:World) (Q:QT):Prop :=
 dr x0 fun b1 o2 =>
 ldA 2 w b1 (o2+2) fun a3 =>
 Calls Tryz.prog 55 #[ofL a3,VG x1] w fun e5 w4 =>
 ∃ i6:Int,∃ t7:Bool,e5=.returned (VT #[VI .i64 i6,VB t7])/\(
 vIf (!t7)
 (Q (VI .i64 6) w4)
 (dr x0 fun b8 o9 =>
 ldM w4 b8 (o9+4) fun m10 =>
 drM m10 fun r13 =>
 mlk w4 r13 .i64 i6 fun q11 =>
 lvA [VS none 0 0,VS none 0 0] q11 fun a12 =>
 nw w4 [VS none 0 0,VS none 0 0] 123 fun b14 w15 =>
 gd (a12.length == 2) <|
 st w15 b14 0 a12 fun w16 =>
 ldA 2 w16 b14 0 fun a17 =>
 Calls Tryz.prog 115 #[ofL a17] w16 fun e19 w18 =>
 ∃ a20:List Value,∃ i21:Int,e19=.returned (VT #[ofL a20,VI .i64 i21])/\(
 nw w18 [VS none 0 0,VS none 0 0] 123 fun b22 w23 =>
 gd (a20.length == 2) <|
 st w23 b22 0 a20 fun w24 =>
 vIf (i21 != 0)
 (Q (VI .i64 i21) w24)
 (dr x0 fun b25 o26 =>
 ldM w24.drew b25 (o26+4) fun m27 =>
 ldA 2 w24.drew b22 0 fun a28 =>
 drM m27 fun r30 =>
 mup w24.drew r30 .i64 i6 (ofL a28) fun w29 =>
 ldA 2 w29.drew b22 0 fun a31 =>
 ldA 2 w29.drew b14 0 fun a32 =>
 Calls Tryz.prog 136 #[ofL a31] w29.drew fun e34 w33 =>
 ∃ i35:Int,e34=.returned (VI .i64 i35)/\(
 kp w29.drew b14 0 2 w33 <|
 Calls Tryz.prog 136 #[ofL a32] w33 fun e37 w36 =>
 ∃ i38:Int,e37=.returned (VI .i64 i38)/\(
 vIf (decide (i35 > i38))
 (dr x0 fun b39 o40 =>
 ldI .i64 w36 b39 o40 fun i41 =>
 Calls Tryz.prog 137 #[VP x0] w36 fun e43 w42 =>
 ∃ i44:Int,e43=.returned (VI .i64 i44)/\(
 kp w36 b39 o40 1 w42 <|
 jnC (F111c.k10 Q) (x0,i6,(b14,0),(decide (i44 > i41)),()) w42))
 (jnC (F111c.k10 Q) (x0,i6,(b14,0),false,()) w36)))))))
def F111c.an:Ann:=⟨[],[(10,[(0,.kP),(7,.kI .i64),(9,.kL),(58,.kB)])]⟩
theorem F111c.of (x0:Option Addr) (x1:ByteArray) (w:World) {Q:QT} (h:F111c.vc x0 x1 w Q):Calls Tryz.prog 111 #[VP x0,VG x1,Value.func (.func 115) #[] #[]] w (fun e w'=>∃ v,e=.returned v/\Q v w'):=vcFn_of (A:=F111c.an) noCount mixed h (by kernel_rfl)
def F106a.k6c (Q:QT) (x0:Option Addr) (x1:(NT×NT× Unit)) (w:World):Prop :=
 dr x0 fun b7 o8 =>
 ldI .i64 w b7 (o8+8) fun i9 =>
 dr x0 fun b10 o11 =>
 st w b10 (o11+8) [VI .i64 (WR .i64 (i9 - 1))] fun w12 =>
 dr x0 fun b13 o14 =>
 ldI .i64 w12 b13 (o14+9) fun i15 =>
 dr x0 fun b16 o17 =>
 st w12 b16 (o17+9) [VI .i64 (WR .i64 (i15+1))] fun w18 =>
 Calls Tryz.prog 107 #[VP (some ⟨x1.1.1,x1.1.2,none⟩),VP (some ⟨x1.2.1.1,x1.2.1.2,none⟩)] w18 fun e20 w19 =>
 ∃ i21:Int,e20=.returned (VI .i64 i21)/\(
 Q (VI .i64 i21) w19)
def F106a.k6 (Q:QT):(Option Addr×(NT×NT× Unit)×Unit)->WT:=fun s w=>∀ _:Nat->Value,F106a.k6c Q s.1 s.2.1 w
def F106a.k4c (Q:QT) (x0:Option Addr) (x1:(NT×NT× Unit)) (x8:Bool) (w:World):Prop :=
 vIf x8
 (dr x0 fun b4 o5 =>
 st w b4 (o5+6) [VB true] fun w6 =>
 Q (VI .i64 11) w6)
 (jnC (F106a.k6 Q) (x0,((x1.1.1,x1.1.2),(x1.2.1.1,x1.2.1.2),()),()) w)
def F106a.k4 (Q:QT):(Option Addr×(NT×NT× Unit)×Bool×Unit)->WT:=fun s w=>∀ _:Nat->Value,F106a.k4c Q s.1 s.2.1 s.2.2.1 w
def F106a.vc (x0:Option Addr) (x1:NT×NT×Unit) (w:World) (Q:QT):Prop :=
 vIf x0.isNone
 (Q (VI .i64 1) w)
 (dr x0 fun b1 o2 =>
 ldB w b1 (o2+6) fun t3 =>
 vIf t3
 (jnC (F106a.k4 Q) (x0,((x1.1.1,x1.1.2),(x1.2.1.1,x1.2.1.2),()),true,()) w)
 (dr x0 fun b22 o23 =>
 ldB w b22 (o23+7) fun t24 =>
 vIf t24
 (dr x0 fun b25 o26 =>
 ldI .i64 w b25 (o26+8) fun i27 =>
 jnC (F106a.k4 Q) (x0,((x1.1.1,x1.1.2),(x1.2.1.1,x1.2.1.2),()),(decide (i27<=0)),()) w)
 (jnC (F106a.k4 Q) (x0,((x1.1.1,x1.1.2),(x1.2.1.1,x1.2.1.2),()),false,()) w)))
def F106a.an:Ann:=⟨[],[(4,[(0,.kP),(1,.kH 107 2),(8,.kB)]),(6,[(0,.kP),(1,.kH 107 2)])]⟩
theorem F106a.of (x0:Option Addr) (x1:NT×NT×Unit) (w:World) {Q:QT} (h:F106a.vc x0 x1 w Q):Calls Tryz.prog 106 #[VP x0,Value.func (.func 107) #[] #[VP (some ⟨x1.1.1,x1.1.2,none⟩),VP (some ⟨x1.2.1.1,x1.2.1.2,none⟩)]] w (fun e w'=>∃ v,e=.returned v/\Q v w'):=vcFn_of (A:=F106a.an) noCount mixed h (by kernel_rfl)
def F106b.k6c (Q:QT) (x0:Option Addr) (x1:(NT×NT×NT× Unit)) (w:World):Prop :=
 dr x0 fun b7 o8 =>
 ldI .i64 w b7 (o8+8) fun i9 =>
 dr x0 fun b10 o11 =>
 st w b10 (o11+8) [VI .i64 (WR .i64 (i9 - 1))] fun w12 =>
 dr x0 fun b13 o14 =>
 ldI .i64 w12 b13 (o14+9) fun i15 =>
 dr x0 fun b16 o17 =>
 st w12 b16 (o17+9) [VI .i64 (WR .i64 (i15+1))] fun w18 =>
 Calls Tryz.prog 110 #[VP (some ⟨x1.1.1,x1.1.2,none⟩),VP (some ⟨x1.2.1.1,x1.2.1.2,none⟩),VP (some ⟨x1.2.2.1.1,x1.2.2.1.2,none⟩)] w18 fun e20 w19 =>
 ∃ i21:Int,e20=.returned (VI .i64 i21)/\(
 Q (VI .i64 i21) w19)
def F106b.k6 (Q:QT):(Option Addr×(NT×NT×NT× Unit)×Unit)->WT:=fun s w=>∀ _:Nat->Value,F106b.k6c Q s.1 s.2.1 w
def F106b.k4c (Q:QT) (x0:Option Addr) (x1:(NT×NT×NT× Unit)) (x8:Bool) (w:World):Prop :=
 vIf x8
 (dr x0 fun b4 o5 =>
 st w b4 (o5+6) [VB true] fun w6 =>
 Q (VI .i64 11) w6)
 (jnC (F106b.k6 Q) (x0,((x1.1.1,x1.1.2),(x1.2.1.1,x1.2.1.2),(x1.2.2.1.1,x1.2.2.1.2),()),()) w)
def F106b.k4 (Q:QT):(Option Addr×(NT×NT×NT× Unit)×Bool×Unit)->WT:=fun s w=>∀ _:Nat->Value,F106b.k4c Q s.1 s.2.1 s.2.2.1 w
def F106b.vc (x0:Option Addr) (x1:NT×NT×NT×Unit) (w:World) (Q:QT):Prop :=
 vIf x0.isNone
 (Q (VI .i64 1) w)
 (dr x0 fun b1 o2 =>
 ldB w b1 (o2+6) fun t3 =>
 vIf t3
 (jnC (F106b.k4 Q) (x0,((x1.1.1,x1.1.2),(x1.2.1.1,x1.2.1.2),(x1.2.2.1.1,x1.2.2.1.2),()),true,()) w)
 (dr x0 fun b22 o23 =>
 ldB w b22 (o23+7) fun t24 =>
 vIf t24
 (dr x0 fun b25 o26 =>
 ldI .i64 w b25 (o26+8) fun i27 =>
 jnC (F106b.k4 Q) (x0,((x1.1.1,x1.1.2),(x1.2.1.1,x1.2.1.2),(x1.2.2.1.1,x1.2.2.1.2),()),(decide (i27<=0)),()) w)
 (jnC (F106b.k4 Q) (x0,((x1.1.1,x1.1.2),(x1.2.1.1,x1.2.1.2),(x1.2.2.1.1,x1.2.2.1.2),()),false,()) w)))
def F106b.an:Ann:=⟨[],[(4,[(0,.kP),(1,.kH 110 3),(8,.kB)]),(6,[(0,.kP),(1,.kH 110 3)])]⟩
theorem F106b.of (x0:Option Addr) (x1:NT×NT×NT×Unit) (w:World) {Q:QT} (h:F106b.vc x0 x1 w Q):Calls Tryz.prog 106 #[VP x0,Value.func (.func 110) #[] #[VP (some ⟨x1.1.1,x1.1.2,none⟩),VP (some ⟨x1.2.1.1,x1.2.1.2,none⟩),VP (some ⟨x1.2.2.1.1,x1.2.2.1.2,none⟩)]] w (fun e w'=>∃ v,e=.returned v/\Q v w'):=vcFn_of (A:=F106b.an) noCount mixed h (by kernel_rfl)
def F106d.k6c (Q:QT) (x0:Option Addr) (x1:(NT×NT× Unit)) (w:World):Prop :=
 dr x0 fun b7 o8 =>
 ldI .i64 w b7 (o8+8) fun i9 =>
 dr x0 fun b10 o11 =>
 st w b10 (o11+8) [VI .i64 (WR .i64 (i9 - 1))] fun w12 =>
 dr x0 fun b13 o14 =>
 ldI .i64 w12 b13 (o14+9) fun i15 =>
 dr x0 fun b16 o17 =>
 st w12 b16 (o17+9) [VI .i64 (WR .i64 (i15+1))] fun w18 =>
 Calls Tryz.prog 114 #[VP (some ⟨x1.1.1,x1.1.2,none⟩),VP (some ⟨x1.2.1.1,x1.2.1.2,none⟩)] w18 fun e20 w19 =>
 ∃ i21:Int,e20=.returned (VI .i64 i21)/\(
 Q (VI .i64 i21) w19)
def F106d.k6 (Q:QT):(Option Addr×(NT×NT× Unit)×Unit)->WT:=fun s w=>∀ _:Nat->Value,F106d.k6c Q s.1 s.2.1 w
def F106d.k4c (Q:QT) (x0:Option Addr) (x1:(NT×NT× Unit)) (x8:Bool) (w:World):Prop :=
 vIf x8
 (dr x0 fun b4 o5 =>
 st w b4 (o5+6) [VB true] fun w6 =>
 Q (VI .i64 11) w6)
 (jnC (F106d.k6 Q) (x0,((x1.1.1,x1.1.2),(x1.2.1.1,x1.2.1.2),()),()) w)
def F106d.k4 (Q:QT):(Option Addr×(NT×NT× Unit)×Bool×Unit)->WT:=fun s w=>∀ _:Nat->Value,F106d.k4c Q s.1 s.2.1 s.2.2.1 w
def F106d.vc (x0:Option Addr) (x1:NT×NT×Unit) (w:World) (Q:QT):Prop :=
 vIf x0.isNone
 (Q (VI .i64 1) w)
 (dr x0 fun b1 o2 =>
 ldB w b1 (o2+6) fun t3 =>
 vIf t3
 (jnC (F106d.k4 Q) (x0,((x1.1.1,x1.1.2),(x1.2.1.1,x1.2.1.2),()),true,()) w)
 (dr x0 fun b22 o23 =>
 ldB w b22 (o23+7) fun t24 =>
 vIf t24
 (dr x0 fun b25 o26 =>
 ldI .i64 w b25 (o26+8) fun i27 =>
 jnC (F106d.k4 Q) (x0,((x1.1.1,x1.1.2),(x1.2.1.1,x1.2.1.2),()),(decide (i27<=0)),()) w)
 (jnC (F106d.k4 Q) (x0,((x1.1.1,x1.1.2),(x1.2.1.1,x1.2.1.2),()),false,()) w)))
def F106d.an:Ann:=⟨[],[(4,[(0,.kP),(1,.kH 114 2),(8,.kB)]),(6,[(0,.kP),(1,.kH 114 2)])]⟩
theorem F106d.of (x0:Option Addr) (x1:NT×NT×Unit) (w:World) {Q:QT} (h:F106d.vc x0 x1 w Q):Calls Tryz.prog 106 #[VP x0,Value.func (.func 114) #[] #[VP (some ⟨x1.1.1,x1.1.2,none⟩),VP (some ⟨x1.2.1.1,x1.2.1.2,none⟩)]] w (fun e w'=>∃ v,e=.returned v/\Q v w'):=vcFn_of (A:=F106d.an) noCount mixed h (by kernel_rfl)
def F106g.k6c (Q:QT) (x0:Option Addr) (x1:NT) (w:World):Prop :=
 dr x0 fun b7 o8 =>
 ldI .i64 w b7 (o8+8) fun i9 =>
 dr x0 fun b10 o11 =>
 st w b10 (o11+8) [VI .i64 (WR .i64 (i9 - 1))] fun w12 =>
 dr x0 fun b13 o14 =>
 ldI .i64 w12 b13 (o14+9) fun i15 =>
 dr x0 fun b16 o17 =>
 st w12 b16 (o17+9) [VI .i64 (WR .i64 (i15+1))] fun w18 =>
 Calls Tryz.prog 117 #[VP (some ⟨x1.1,x1.2,none⟩)] w18 fun e20 w19 =>
 ∃ i21:Int,e20=.returned (VI .i64 i21)/\(
 Q (VI .i64 i21) w19)
def F106g.k6 (Q:QT):(Option Addr×NT×Unit)->WT:=fun s w=>∀ _:Nat->Value,F106g.k6c Q s.1 s.2.1 w
def F106g.k4c (Q:QT) (x0:Option Addr) (x1:NT) (x8:Bool) (w:World):Prop :=
 vIf x8
 (dr x0 fun b4 o5 =>
 st w b4 (o5+6) [VB true] fun w6 =>
 Q (VI .i64 11) w6)
 (jnC (F106g.k6 Q) (x0,(x1.1,x1.2),()) w)
def F106g.k4 (Q:QT):(Option Addr×NT×Bool×Unit)->WT:=fun s w=>∀ _:Nat->Value,F106g.k4c Q s.1 s.2.1 s.2.2.1 w
def F106g.vc (x0:Option Addr) (x1:Nat×Nat) (w:World) (Q:QT):Prop :=
 vIf x0.isNone
 (Q (VI .i64 1) w)
 (dr x0 fun b1 o2 =>
 ldB w b1 (o2+6) fun t3 =>
 vIf t3
 (jnC (F106g.k4 Q) (x0,(x1.1,x1.2),true,()) w)
 (dr x0 fun b22 o23 =>
 ldB w b22 (o23+7) fun t24 =>
 vIf t24
 (dr x0 fun b25 o26 =>
 ldI .i64 w b25 (o26+8) fun i27 =>
 jnC (F106g.k4 Q) (x0,(x1.1,x1.2),(decide (i27<=0)),()) w)
 (jnC (F106g.k4 Q) (x0,(x1.1,x1.2),false,()) w)))
def F106g.an:Ann:=⟨[],[(4,[(0,.kP),(1,.kG 117),(8,.kB)]),(6,[(0,.kP),(1,.kG 117)])]⟩
theorem F106g.of (x0:Option Addr) (x1:Nat×Nat) (w:World) {Q:QT} (h:F106g.vc x0 x1 w Q):Calls Tryz.prog 106 #[VP x0,Value.func (.func 117) #[] #[VP (some ⟨x1.1,x1.2,none⟩)]] w (fun e w'=>∃ v,e=.returned v/\Q v w'):=vcFn_of (A:=F106g.an) noCount mixed h (by kernel_rfl)
def F112.vc (x0:List Value) (x1:Nat×Nat) (w:World) (Q:QT):Prop :=
 nw w x0 123 fun b1 w2 =>
 nw w2 [VS none 0 0,VS none 0 0] 123 fun b3 w4 =>
 ldA 2 w4 b1 0 fun a5 =>
 ldSl w4 x1.1 x1.2 fun A6 n7 c8 =>
 Calls Tryz.prog 113 #[ofL a5,VS A6 n7 c8] w4 fun e10 w9 =>
 ∃ a11:List Value,∃ i12:Int,e10=.returned (VT #[ofL a11,VI .i64 i12])/\(
 gd (a11.length == 2) <|
 st w9 b3 0 a11 fun w13 =>
 ldA 2 w13 b3 0 fun a14 =>
 Q (VT #[ofL a14,VI .i64 i12]) w13)
def F112.an:Ann:=⟨[],[]⟩
theorem F112.of (x0:List Value) (x1:Nat×Nat) (w:World) {Q:QT} (h:F112.vc x0 x1 w Q):Calls Tryz.prog 112 #[ofL x0,VP (some ⟨x1.1,x1.2,none⟩)] w (fun e w'=>∃ v,e=.returned v/\Q v w'):=vcFn_of (A:=F112.an) noCount mixed h (by kernel_rfl)
def F115.vc (x0:List Value) (w:World) (Q:QT):Prop :=
 nw w x0 123 fun b1 w2 =>
 nw w2 [VS none 0 0,VS none 0 0] 123 fun b3 w4 =>
 ldA 2 w4 b1 0 fun a5 =>
 Calls Tryz.prog 116 #[ofL a5] w4 fun e7 w6 =>
 ∃ a8:List Value,e7=.returned (ofL a8)/\(
 gd (a8.length == 2) <|
 st w6 b3 0 a8 fun w9 =>
 ldA 2 w9 b3 0 fun a10 =>
 Q (VT #[ofL a10,VI .i64 0]) w9)
def F115.an:Ann:=⟨[],[]⟩
theorem F115.of (x0:List Value) (w:World) {Q:QT} (h:F115.vc x0 w Q):Calls Tryz.prog 115 #[ofL x0] w (fun e w'=>∃ v,e=.returned v/\Q v w'):=vcFn_of (A:=F115.an) noCount mixed h (by kernel_rfl)
def F110.vc (x0:Nat×Nat) (x1:Nat×Nat) (x2:Nat×Nat) (w:World) (Q:QT):Prop :=
 ldP w x0.1 x0.2 fun p1 =>
 ldS w x1.1 x1.2 fun s2 =>
 Calls Tryz.prog 111 #[VP p1,VG s2,Value.func (.func 112) #[] #[VP (some ⟨x2.1,x2.2,none⟩)]] w fun e4 w3 =>
 ∃ i5:Int,e4=.returned (VI .i64 i5)/\(
 Q (VI .i64 i5) w3)
def F110.an:Ann:=⟨[],[]⟩
theorem F110.of (x0:Nat×Nat) (x1:Nat×Nat) (x2:Nat×Nat) (w:World) {Q:QT} (h:F110.vc x0 x1 x2 w Q):Calls Tryz.prog 110 #[VP (some ⟨x0.1,x0.2,none⟩),VP (some ⟨x1.1,x1.2,none⟩),VP (some ⟨x2.1,x2.2,none⟩)] w (fun e w'=>∃ v,e=.returned v/\Q v w'):=vcFn_of (A:=F110.an) noCount mixed h (by kernel_rfl)
def F82.vc (x0:Option Addr) (x1:ByteArray) (x2A:Option Addr) (x2n x2c:Nat) (w:World) (Q:QT):Prop :=
 nw w [VP x0] 50 fun b1 w2 =>
 nw w2 [VG x1] 9 fun b3 w4 =>
 nw w4 [VS x2A x2n x2c] 32 fun b5 w6 =>
 ldP w6 b1 0 fun p7 =>
 Calls Tryz.prog 106 #[VP p7,Value.func (.func 110) #[] #[VP (some ⟨b1,0,none⟩),VP (some ⟨b3,0,none⟩),VP (some ⟨b5,0,none⟩)]] w6 fun e9 w8 =>
 ∃ i10:Int,e9=.returned (VI .i64 i10)/\(
 Q (VI .i64 i10) w8)
def F82.an:Ann:=⟨[],[]⟩
theorem F82.of (x0:Option Addr) (x1:ByteArray) (x2A:Option Addr) (x2n x2c:Nat) (w:World) {Q:QT} (h:F82.vc x0 x1 x2A x2n x2c w Q):Calls Tryz.prog 82 #[VP x0,VG x1,VS x2A x2n x2c] w (fun e w'=>∃ v,e=.returned v/\Q v w'):=vcFn_of (A:=F82.an) noCount mixed h (by kernel_rfl)
def F114.vc (x0:Nat×Nat) (x1:Nat×Nat) (w:World) (Q:QT):Prop :=
 ldP w x0.1 x0.2 fun p1 =>
 ldS w x1.1 x1.2 fun s2 =>
 Calls Tryz.prog 111 #[VP p1,VG s2,Value.func (.func 115) #[] #[]] w fun e4 w3 =>
 ∃ i5:Int,e4=.returned (VI .i64 i5)/\(
 Q (VI .i64 i5) w3)
def F114.an:Ann:=⟨[],[]⟩
theorem F114.of (x0:Nat×Nat) (x1:Nat×Nat) (w:World) {Q:QT} (h:F114.vc x0 x1 w Q):Calls Tryz.prog 114 #[VP (some ⟨x0.1,x0.2,none⟩),VP (some ⟨x1.1,x1.2,none⟩)] w (fun e w'=>∃ v,e=.returned v/\Q v w'):=vcFn_of (A:=F114.an) noCount mixed h (by kernel_rfl)
def F84.vc (x0:Option Addr) (x1:ByteArray) (w:World) (Q:QT):Prop :=
 nw w [VP x0] 50 fun b1 w2 =>
 nw w2 [VG x1] 9 fun b3 w4 =>
 ldP w4 b1 0 fun p5 =>
 Calls Tryz.prog 106 #[VP p5,Value.func (.func 114) #[] #[VP (some ⟨b1,0,none⟩),VP (some ⟨b3,0,none⟩)]] w4 fun e7 w6 =>
 ∃ i8:Int,e7=.returned (VI .i64 i8)/\(
 Q (VI .i64 i8) w6)
def F84.an:Ann:=⟨[],[]⟩
theorem F84.of (x0:Option Addr) (x1:ByteArray) (w:World) {Q:QT} (h:F84.vc x0 x1 w Q):Calls Tryz.prog 84 #[VP x0,VG x1] w (fun e w'=>∃ v,e=.returned v/\Q v w'):=vcFn_of (A:=F84.an) noCount mixed h (by kernel_rfl)
def F85.vc (x0:Option Addr) (w:World) (Q:QT):Prop :=
 nw w [VP x0] 50 fun b1 w2 =>
 ldP w2 b1 0 fun p3 =>
 Calls Tryz.prog 106 #[VP p3,Value.func (.func 117) #[] #[VP (some ⟨b1,0,none⟩)]] w2 fun e5 w4 =>
 ∃ i6:Int,e5=.returned (VI .i64 i6)/\(
 Q (VI .i64 i6) w4)
def F85.an:Ann:=⟨[],[]⟩
theorem F85.of (x0:Option Addr) (w:World) {Q:QT} (h:F85.vc x0 w Q):Calls Tryz.prog 85 #[VP x0] w (fun e w'=>∃ v,e=.returned v/\Q v w'):=vcFn_of (A:=F85.an) noCount mixed h (by kernel_rfl)
def F117.vc (x0:Nat×Nat) (w:World) (Q:QT):Prop :=
 ldP w x0.1 x0.2 fun p1 =>
 dr p1 fun b2 o3 =>
 ldA 2 w b2 (o3+2) fun a4 =>
 Calls Tryz.prog 108 #[ofL a4] w fun e6 w5 =>
 ∃ (A7:Option Addr) (n8 c9:Nat),e6=.returned (VS A7 n8 c9)/\(
 ldP w5.drew x0.1 x0.2 fun p10 =>
 ldP w5.drew x0.1 x0.2 fun p11 =>
 dr p11 fun b12 o13 =>
 ldA 2 w5.drew b12 (o13+2) fun a14 =>
 Calls Tryz.prog 118 #[ofL a14] w5.drew fun e16 w15 =>
 ∃ a17:List Value,e16=.returned (ofL a17)/\(
 kp w5.drew x0.1 x0.2 1 w15 <|
 dr p10 fun b18 o19 =>
 gd (a17.length == 2) <|
 st w15 b18 (o19+2) a17 fun w20 =>
 ldP w20 x0.1 x0.2 fun p21 =>
 Calls Tryz.prog 119 #[VP p21,VS A7 n8 c9] w20 fun e23 w22 =>
 e23=.returned (VT #[])/\(
 Q (VI .i64 0) w22)))
def F117.an:Ann:=⟨[],[]⟩
theorem F117.of (x0:Nat×Nat) (w:World) {Q:QT} (h:F117.vc x0 w Q):Calls Tryz.prog 117 #[VP (some ⟨x0.1,x0.2,none⟩)] w (fun e w'=>∃ v,e=.returned v/\Q v w'):=vcFn_of (A:=F117.an) noCount mixed h (by kernel_rfl)
def F80.vc (x0:Option Addr) (x1:ByteArray) (w:World) (Q:QT):Prop :=
 nw w [VP x0] 50 fun b1 w2 =>
 nw w2 [VG x1] 9 fun b3 w4 =>
 ldP w4 b1 0 fun p5 =>
 Calls Tryz.prog 106 #[VP p5,Value.func (.func 107) #[] #[VP (some ⟨b1,0,none⟩),VP (some ⟨b3,0,none⟩)]] w4 fun e7 w6 =>
 ∃ i8:Int,e7=.returned (VI .i64 i8)/\(
 Q (VI .i64 i8) w6)
def F80.an:Ann:=⟨[],[]⟩
theorem F80.of (x0:Option Addr) (x1:ByteArray) (w:World) {Q:QT} (h:F80.vc x0 x1 w Q):Calls Tryz.prog 80 #[VP x0,VG x1] w (fun e w'=>∃ v,e=.returned v/\Q v w'):=vcFn_of (A:=F80.an) noCount mixed h (by kernel_rfl)
def F107.vc (x0:Nat×Nat) (x1:Nat×Nat) (w:World) (Q:QT):Prop :=
 ldP w.drew x0.1 x0.2 fun p1 =>
 dr p1 fun b2 o3 =>
 ldA 2 w.drew b2 (o3+2) fun a4 =>
 ldP w.drew x0.1 x0.2 fun p5 =>
 dr p5 fun b6 o7 =>
 ldI .i64 w.drew b6 (o7+1) fun i8 =>
 Calls Tryz.prog 108 #[ofL a4] w.drew fun e10 w9 =>
 ∃ (A11:Option Addr) (n12 c13:Nat),e10=.returned (VS A11 n12 c13)/\(
 kp w.drew b6 (o7+1) 1 w9 <|
 kp w.drew x0.1 x0.2 1 w9 <|
 vIf (decide ((n12:Int) >= i8))
 (Q (VI .i64 8) w9)
 (ldP w9.drew x0.1 x0.2 fun p14 =>
 ldS w9.drew x1.1 x1.2 fun s15 =>
 ldP w9.drew x0.1 x0.2 fun p16 =>
 dr p16 fun b17 o18 =>
 ldI .i64 w9.drew b17 (o18+5) fun i19 =>
 Calls Tryz.prog 109 #[VP p14,ofL ([VI .i64 1] ++ ([VG s15] ++ ([VG (⟨#[]⟩:ByteArray)] ++ ([VI .i64 (WR .i64 (i19+1))] ++ []))))] w9.drew fun e21 w20 =>
 ∃ i22:Int,e21=.returned (VI .i64 i22)/\(
 vIf (i22 == 0)
 (ldP w20 x0.1 x0.2 fun p23 =>
 dr p23 fun b24 o25 =>
 ldI .i64 w20 b24 (o25+5) fun i26 =>
 dr p23 fun b27 o28 =>
 st w20 b27 (o28+5) [VI .i64 (WR .i64 (i26+1))] fun w29 =>
 ldP w29.drew x0.1 x0.2 fun p30 =>
 dr p30 fun b31 o32 =>
 ldM w29.drew b31 (o32+4) fun m33 =>
 ldP w29.drew x0.1 x0.2 fun p34 =>
 dr p34 fun b35 o36 =>
 ldI .i64 w29.drew b35 (o36+5) fun i37 =>
 drM m33 fun r39 =>
 mup w29.drew r39 .i64 i37 (ofL ([VS none 0 0] ++ ([VS none 0 0] ++ []))) fun w38 =>
 Q (VI .i64 i22) w38)
 (Q (VI .i64 i22) w20))))
def F107.an:Ann:=⟨[],[]⟩
theorem F107.of (x0:Nat×Nat) (x1:Nat×Nat) (w:World) {Q:QT} (h:F107.vc x0 x1 w Q):Calls Tryz.prog 107 #[VP (some ⟨x0.1,x0.2,none⟩),VP (some ⟨x1.1,x1.2,none⟩)] w (fun e w'=>∃ v,e=.returned v/\Q v w'):=vcFn_of (A:=F107.an) noCount mixed h (by kernel_rfl)
def F34.vc (x0:Option Addr) (x1:ByteArray) (w:World) (Q:QT):Prop :=
 vIf x0.isNone
 (Q (VT #[VS none 0 0,VI .i64 1]) w)
 (dr x0 fun b1 o2 =>
 ldB w b1 (o2+6) fun t3 =>
 vIf t3
 (Q (VT #[VS none 0 0,VI .i64 11]) w)
 (dr x0 fun b4 o5 =>
 ldA 2 w b4 (o5+2) fun a6 =>
 Calls Tryz.prog 55 #[ofL a6,VG x1] w fun e8 w7 =>
 ∃ i9:Int,∃ t10:Bool,e8=.returned (VT #[VI .i64 i9,VB t10])/\(
 vIf (!t10)
 (Q (VT #[VS none 0 0,VI .i64 6]) w7)
 (dr x0 fun b11 o12 =>
 ldM w7 b11 (o12+4) fun m13 =>
 drM m13 fun r16 =>
 mlk w7 r16 .i64 i9 fun q14 =>
 lvA [VS none 0 0,VS none 0 0] q14 fun a15 =>
 Calls Tryz.prog 56 #[ofL a15] w7 fun e18 w17 =>
 ∃ (A19:Option Addr) (n20 c21:Nat),e18=.returned (VS A19 n20 c21)/\(
 Q (VT #[VS A19 n20 c21,VI .i64 0]) w17)))))
def F34.an:Ann:=⟨[],[]⟩
theorem F34.of (x0:Option Addr) (x1:ByteArray) (w:World) {Q:QT} (h:F34.vc x0 x1 w Q):Calls Tryz.prog 34 #[VP x0,VG x1] w (fun e w'=>∃ v,e=.returned v/\Q v w'):=vcFn_of (A:=F34.an) noCount mixed h (by kernel_rfl)
def F18.k6c (Q:QT) (x2:Int) (x3:Int) (x10:ST) (w:World):Prop :=
 gd (decide (0<=(WR .i64 (x2+x3)))) <|
 gd (decide ((WR .i64 (x2+x3))<=(x10.2.2:Int))) <|
 gd (decide (0<=(WR .i64 (x2+x3)))) <|
 gd (decide ((WR .i64 (x2+x3))<=((((WR .i64 (x2+x3))).toNat:Nat):Int))) <|
 gd (decide (0<=x2)) <|
 gd (decide (x2<=((((WR .i64 (x2+x3))).toNat:Nat):Int))) <|
 Q (VT #[VS (slA x10.1 ((WR .i64 (x2+x3))).toNat (x2).toNat 1) (((WR .i64 (x2+x3))).toNat - (x2).toNat) (((WR .i64 (x2+x3))).toNat - (x2).toNat),VI .i64 0]) w
def F18.k6 (Q:QT):(Int×Int×ST×Unit)->WT:=fun s w=>∀ _:Nat->Value,F18.k6c Q s.1 s.2.1 s.2.2.1 w
def F18.vc (x0:Option Addr) (x1:ByteArray) (x2:Int) (x3:Int) (w:World) (Q:QT):Prop :=
 Calls Tryz.prog 34 #[VP x0,VG x1] w fun e2 w1 =>
 ∃ (A3:Option Addr) (n4 c5:Nat),∃ i6:Int,e2=.returned (VT #[VS A3 n4 c5,VI .i64 i6])/\(
 vIf (i6 != 0)
 (Q (VT #[VS none 0 0,VI .i64 i6]) w1)
 (vIf (decide (x2 < 0))
 (Q (VT #[VS none 0 0,VI .i64 20]) w1)
 (vIf (decide (x3 < 0))
 (Q (VT #[VS none 0 0,VI .i64 20]) w1)
 (vIf (decide (x2 > (n4:Int)))
 (Q (VT #[VS none 0 0,VI .i64 20]) w1)
 (vIf (decide (x3 > (WR .i64 ((n4:Int) - x2))))
 (Q (VT #[VS none 0 0,VI .i64 20]) w1)
 (jnC (F18.k6 Q) (x2,x3,(A3,n4,c5),()) w1))))))
def F18.an:Ann:=⟨[],[(6,[(2,.kI .i64),(3,.kI .i64),(10,.kSl)])]⟩
theorem F18.of (x0:Option Addr) (x1:ByteArray) (x2:Int) (x3:Int) (w:World) {Q:QT} (h:F18.vc x0 x1 x2 x3 w Q):Calls Tryz.prog 18 #[VP x0,VG x1,VI .i64 x2,VI .i64 x3] w (fun e w'=>∃ v,e=.returned v/\Q v w'):=vcFn_of (A:=F18.an) noCount mixed h (by kernel_rfl)
def F14.vc (x0:List Value) (w:World) (Q:QT):Prop :=
 nw w x0 53 fun b1 w2 =>
 ldA 2 w2 b1 0 fun a3 =>
 mmk w2 fun m4 w5 =>
 gd (a3.length == 2) <|
 nw w5 (a3 ++ ([VS none 0 0,VS none 0 0] ++ ([Value.map (some m4)] ++ ([VI .i64 0] ++ ([VB false] ++ ([VB false] ++ ([VI .i64 0] ++ ([VI .i64 0] ++ [])))))))) 83 fun b6 w7 =>
 Q (VP (some ⟨b6,0,none⟩)) w7
def F14.an:Ann:=⟨[],[]⟩
theorem F14.of (x0:List Value) (w:World) {Q:QT} (h:F14.vc x0 w Q):Calls Tryz.prog 14 #[ofL x0] w (fun e w'=>∃ v,e=.returned v/\Q v w'):=vcFn_of (A:=F14.an) noCount mixed h (by kernel_rfl)
def F13.b4c (Q:QT) (C4:(ST×ST×Int×Unit)->WT) (x0:ST) (x1:ST) (x5:Int) (w:World):Prop :=
 vIf (decide (x5 < (x0.2.1:Int)))
 (dr x0.1 fun b1 o2 =>
 gd (decide (0<=x5)) <|
 gd (decide (x5 < (x0.2.1:Int))) <|
 ldI .u8 w.drew b1 (o2+(x5).toNat * 1) fun i3 =>
 dr x1.1 fun b4 o5 =>
 gd (decide (0<=x5)) <|
 gd (decide (x5 < (x1.2.1:Int))) <|
 ldI .u8 w.drew b4 (o5+(x5).toNat * 1) fun i6 =>
 vIf (i3 != i6)
 (Q (VB false) w.drew)
 (jnC C4 ((x0.1,x0.2.1,x0.2.2),(x1.1,x1.2.1,x1.2.2),((WR .i64 (x5+1))),()) w.drew))
 (Q (VB true) w)
def F13.b4 (Q:QT):(ST×ST×Int×Unit)->World->((ST×ST×Int×Unit)->WT)->Prop:=fun s w C4=>∀ _:Nat->Value,F13.b4c Q C4 s.1 s.2.1 s.2.2.1 w
def F13.l4 (Q:QT):(ST×ST×Int×Unit)->WT:=fun s w=>∃ n,loopC (F13.b4 Q) n s w
def F13.vc (x0A:Option Addr) (x0n x0c:Nat) (x1A:Option Addr) (x1n x1c:Nat) (w:World) (Q:QT):Prop :=
 vIf ((x0n:Int) != (x1n:Int))
 (Q (VB false) w)
 (jnC (F13.l4 Q) ((x0A,x0n,x0c),(x1A,x1n,x1c),(0),()) w)
def F13.an:Ann:=⟨[(4,[(0,.kSl),(1,.kSl),(5,.kI .i64)])],[]⟩
theorem F13.of (x0A:Option Addr) (x0n x0c:Nat) (x1A:Option Addr) (x1n x1c:Nat) (w:World) {Q:QT} (h:F13.vc x0A x0n x0c x1A x1n x1c w Q):Calls Tryz.prog 13 #[VS x0A x0n x0c,VS x1A x1n x1c] w (fun e w'=>∃ v,e=.returned v/\Q v w'):=vcFn_of (A:=F13.an) noCount mixed h (by kernel_rfl)
def F66.vc (x0A:Option Addr) (x0n x0c:Nat) (x1:Int) (x2:Int) (w:World) (Q:QT):Prop :=
 vIf (decide (x1 >= 0))
 (vIf (decide (x1<=(x0n:Int)))
 (Q (VB (decide (x2<=(WR .i64 ((x0n:Int) - x1))))) w)
 (Q (VB false) w))
 (Q (VB false) w)
def F66.an:Ann:=⟨[],[]⟩
theorem F66.of (x0A:Option Addr) (x0n x0c:Nat) (x1:Int) (x2:Int) (w:World) {Q:QT} (h:F66.vc x0A x0n x0c x1 x2 w Q):Calls Tryz.prog 66 #[VS x0A x0n x0c,VI .i64 x1,VI .i64 x2] w (fun e w'=>∃ v,e=.returned v/\Q v w'):=vcFn_of (A:=F66.an) noCount mixed h (by kernel_rfl)
def F64.b5c (Q:QT) (C5:(ST×Int×Int×Int×Int×Unit)->WT) (x0:ST) (x1:Int) (x8:Int) (x23:Int) (x24:Int) (w:World):Prop :=
 vIf (decide (x24 < x23))
 (dr x0.1 fun b4 o5 =>
 gd (decide (0<=(WR .i64 (x1+x24)))) <|
 gd (decide ((WR .i64 (x1+x24)) < (x0.2.1:Int))) <|
 ldI .u8 w b4 (o5+((WR .i64 (x1+x24))).toNat * 1) fun i6 =>
 gd (decide (0<=(WR .i64 (8 * x24)))) <|
 jnC C5 ((x0.1,x0.2.1,x0.2.2),x1,((iOr .u64 x8 (WR .u64 ((WR .u64 i6) * 2 ^ (min ((WR .i64 (8 * x24))).toNat 64))))),x23,((WR .i64 (x24+1))),()) w)
 (Q (VT #[VI .u64 x8,VB true]) w)
def F64.b5 (Q:QT):(ST×Int×Int×Int×Int×Unit)->World->((ST×Int×Int×Int×Int×Unit)->WT)->Prop:=fun s w C5=>∀ _:Nat->Value,F64.b5c Q C5 s.1 s.2.1 s.2.2.1 s.2.2.2.1 s.2.2.2.2.1 w
def F64.l5 (Q:QT):(ST×Int×Int×Int×Int×Unit)->WT:=fun s w=>∃ n,loopC (F64.b5 Q) n s w
def F64.k3c (Q:QT) (x0:ST) (x1:Int) (x2:Int) (w:World):Prop :=
 jnC (F64.l5 Q) ((x0.1,x0.2.1,x0.2.2),x1,(0),x2,(0),()) w
def F64.k3 (Q:QT):(ST×Int×Int×Unit)->WT:=fun s w=>∀ _:Nat->Value,F64.k3c Q s.1 s.2.1 s.2.2.1 w
def F64.vc (x0A:Option Addr) (x0n x0c:Nat) (x1:Int) (x2:Int) (w:World) (Q:QT):Prop :=
 vIf (decide (x2 < 1))
 (Q (VT #[VI .u64 0,VB false]) w)
 (vIf (decide (x2 > 8))
 (Q (VT #[VI .u64 0,VB false]) w)
 (Calls Tryz.prog 66 #[VS x0A x0n x0c,VI .i64 x1,VI .i64 x2] w fun e2 w1 =>
 ∃ t3:Bool,e2=.returned (VB t3)/\(
 vIf (!t3)
 (Q (VT #[VI .u64 0,VB false]) w1)
 (jnC (F64.k3 Q) ((x0A,x0n,x0c),x1,x2,()) w1))))
def F64.an:Ann:=⟨[(5,[(0,.kSl),(1,.kI .i64),(8,.kI .u64),(23,.kI .i64),(24,.kI .i64)])],[(3,[(0,.kSl),(1,.kI .i64),(2,.kI .i64)])]⟩
theorem F64.of (x0A:Option Addr) (x0n x0c:Nat) (x1:Int) (x2:Int) (w:World) {Q:QT} (h:F64.vc x0A x0n x0c x1 x2 w Q):Calls Tryz.prog 64 #[VS x0A x0n x0c,VI .i64 x1,VI .i64 x2] w (fun e w'=>∃ v,e=.returned v/\Q v w'):=vcFn_of (A:=F64.an) noCount mixed h (by kernel_rfl)
def F41.k4c (Q:QT) (x0:ST) (x1:Int) (x7:Int) (w:World):Prop :=
 gd (decide (0<=(WR .i64 ((WR .i64 (x1+1))+(WR .i64 x7))))) <|
 gd (decide ((WR .i64 ((WR .i64 (x1+1))+(WR .i64 x7)))<=(x0.2.2:Int))) <|
 gd (decide (0<=(WR .i64 (x1+1)))) <|
 gd (decide ((WR .i64 (x1+1))<=((((WR .i64 ((WR .i64 (x1+1))+(WR .i64 x7)))).toNat:Nat):Int))) <|
 b2s w (slA x0.1 x0.2.2 ((WR .i64 (x1+1))).toNat 1) (((WR .i64 ((WR .i64 (x1+1))+(WR .i64 x7)))).toNat - ((WR .i64 (x1+1))).toNat) fun s5 =>
 Q (VT #[VG s5,VI .i64 (WR .i64 ((WR .i64 (x1+1))+(WR .i64 x7))),VB true]) w
def F41.k4 (Q:QT):(ST×Int×Int×Unit)->WT:=fun s w=>∀ _:Nat->Value,F41.k4c Q s.1 s.2.1 s.2.2.1 w
def F41.k3c (Q:QT) (x0:ST) (x1:Int) (x7:Int) (x26:Bool) (w:World):Prop :=
 vIf x26
 (Q (VT #[VG (⟨#[]⟩:ByteArray),VI .i64 0,VB false]) w)
 (jnC (F41.k4 Q) ((x0.1,x0.2.1,x0.2.2),x1,x7,()) w)
def F41.k3 (Q:QT):(ST×Int×Int×Bool×Unit)->WT:=fun s w=>∀ _:Nat->Value,F41.k3c Q s.1 s.2.1 s.2.2.1 s.2.2.2.1 w
def F41.vc (x0A:Option Addr) (x0n x0c:Nat) (x1:Int) (w:World) (Q:QT):Prop :=
 Calls Tryz.prog 64 #[VS x0A x0n x0c,VI .i64 x1,VI .i64 1] w fun e2 w1 =>
 ∃ i3:Int,∃ t4:Bool,e2=.returned (VT #[VI .u64 i3,VB t4])/\(
 vIf (!t4)
 (jnC (F41.k3 Q) ((x0A,x0n,x0c),x1,i3,true,()) w1)
 (Calls Tryz.prog 66 #[VS x0A x0n x0c,VI .i64 (WR .i64 (x1+1)),VI .i64 (WR .i64 i3)] w1 fun e7 w6 =>
 ∃ t8:Bool,e7=.returned (VB t8)/\(
 jnC (F41.k3 Q) ((x0A,x0n,x0c),x1,i3,(!t8),()) w6)))
def F41.an:Ann:=⟨[],[(3,[(0,.kSl),(1,.kI .i64),(7,.kI .u64),(26,.kB)]),(4,[(0,.kSl),(1,.kI .i64),(7,.kI .u64)])]⟩
theorem F41.of (x0A:Option Addr) (x0n x0c:Nat) (x1:Int) (w:World) {Q:QT} (h:F41.vc x0A x0n x0c x1 w Q):Calls Tryz.prog 41 #[VS x0A x0n x0c,VI .i64 x1] w (fun e w'=>∃ v,e=.returned v/\Q v w'):=vcFn_of (A:=F41.an) noCount mixed h (by kernel_rfl)
def F130.b7c (Q:QT) (C3:(NT×NT×Int×Unit)->WT) (C7:(NT×NT×Int×Int×Int×Int×Unit)->WT) (x0:NT) (x1:NT) (x2:Int) (x3:Int) (x4:Int) (x9:Int) (w:World):Prop :=
 vIf (decide (x9 < 4))
 (vIf ((iAnd .u32 x3 1) == 1)
 (jnC C7 ((x0.1,x0.2),(x1.1,x1.2),x2,((iXor .u32 (Int.fdiv x3 (2 ^ 1)) 2197175160)),x4,((WR .i64 (x9+1))),()) w)
 (jnC C7 ((x0.1,x0.2),(x1.1,x1.2),x2,((Int.fdiv x3 (2 ^ 1))),x4,((WR .i64 (x9+1))),()) w))
 (gd (decide (0<=x2)) <|
 gd (decide (x2 < 16)) <|
 st w x1.1 (x1.2+(x2).toNat * 1) [VI .u32 x3] fun w5 =>
 jnC C3 ((x0.1,x0.2),(x1.1,x1.2),((WR .i64 (x4+1))),()) w5)
def F130.b7 (Q:QT) (C3:(NT×NT×Int×Unit)->WT):(NT×NT×Int×Int×Int×Int×Unit)->World->((NT×NT×Int×Int×Int×Int×Unit)->WT)->Prop:=fun s w C7=>∀ _:Nat->Value,F130.b7c Q C3 C7 s.1 s.2.1 s.2.2.1 s.2.2.2.1 s.2.2.2.2.1 s.2.2.2.2.2.1 w
def F130.l7 (Q:QT) (C3:(NT×NT×Int×Unit)->WT):(NT×NT×Int×Int×Int×Int×Unit)->WT:=fun s w=>∃ n,loopC (F130.b7 Q C3) n s w
def F130.b3c (Q:QT) (C3:(NT×NT×Int×Unit)->WT) (x0:NT) (x1:NT) (x4:Int) (w:World):Prop :=
 vIf (decide (x4 < 16))
 (jnC (F130.l7 Q C3) ((x0.1,x0.2),(x1.1,x1.2),x4,((WR .u32 x4)),x4,(0),()) w)
 (ldA 16 w x1.1 x1.2 fun a6 =>
 gd (a6.length == 16) <|
 st w x0.1 x0.2 a6 fun w7 =>
 ldA 16 w7 x0.1 x0.2 fun a8 =>
 Q (ofL a8) w7)
def F130.b3 (Q:QT):(NT×NT×Int×Unit)->World->((NT×NT×Int×Unit)->WT)->Prop:=fun s w C3=>∀ _:Nat->Value,F130.b3c Q C3 s.1 s.2.1 s.2.2.1 w
def F130.l3 (Q:QT):(NT×NT×Int×Unit)->WT:=fun s w=>∃ n,loopC (F130.b3 Q) n s w
def F130.vc  (w:World) (Q:QT):Prop :=
 nw w Z207 207 fun b1 w2 =>
 nw w2 Z207 207 fun b3 w4 =>
 jnC (F130.l3 Q) ((b1,0),(b3,0),(0),()) w4
def F130.an:Ann:=⟨[(3,[(0,.kL),(1,.kL),(4,.kI .i64)]),(7,[(0,.kL),(1,.kL),(2,.kI .i64),(3,.kI .u32),(4,.kI .i64),(9,.kI .i64)])],[]⟩
theorem F130.of  (w:World) {Q:QT} (h:F130.vc  w Q):Calls Tryz.prog 130 #[] w (fun e w'=>∃ v,e=.returned v/\Q v w'):=vcFn_of (A:=F130.an) noCount mixed h (by kernel_rfl)
def F65.vc (x0A:Option Addr) (x0n x0c:Nat) (w:World) (Q:QT):Prop :=
 Calls Tryz.prog 98 #[VI .u32 0,VS x0A x0n x0c] w fun e2 w1 =>
 ∃ i3:Int,e2=.returned (VI .u32 i3)/\(
 Q (VI .u32 i3) w1)
def F65.an:Ann:=⟨[],[]⟩
theorem F65.of (x0A:Option Addr) (x0n x0c:Nat) (w:World) {Q:QT} (h:F65.vc x0A x0n x0c w Q):Calls Tryz.prog 65 #[VS x0A x0n x0c] w (fun e w'=>∃ v,e=.returned v/\Q v w'):=vcFn_of (A:=F65.an) noCount mixed h (by kernel_rfl)
def F98.b4c (Q:QT) (C4:(NT×Int×ST×Int×Int×Unit)->WT) (x5:NT) (x6:Int) (x12:ST) (x13:Int) (x14:Int) (w:World):Prop :=
 vIf (decide (x14 < x13))
 (dr x12.1 fun b7 o8 =>
 gd (decide (0<=x14)) <|
 gd (decide (x14 < (x12.2.1:Int))) <|
 ldI .u8 w b7 (o8+(x14).toNat * 1) fun i9 =>
 gd (decide (0<=(iXor .u8 (iAnd .u8 (WR .u8 x6) 15) (iAnd .u8 i9 15)))) <|
 gd (decide ((iXor .u8 (iAnd .u8 (WR .u8 x6) 15) (iAnd .u8 i9 15)) < 16)) <|
 ldI .u32 w x5.1 (x5.2+((iXor .u8 (iAnd .u8 (WR .u8 x6) 15) (iAnd .u8 i9 15))).toNat * 1) fun i10 =>
 gd (decide (0<=(iXor .u8 (iAnd .u8 (WR .u8 (iXor .u32 (Int.fdiv x6 (2 ^ 4)) i10)) 15) (Int.fdiv i9 (2 ^ 4))))) <|
 gd (decide ((iXor .u8 (iAnd .u8 (WR .u8 (iXor .u32 (Int.fdiv x6 (2 ^ 4)) i10)) 15) (Int.fdiv i9 (2 ^ 4))) < 16)) <|
 ldI .u32 w x5.1 (x5.2+((iXor .u8 (iAnd .u8 (WR .u8 (iXor .u32 (Int.fdiv x6 (2 ^ 4)) i10)) 15) (Int.fdiv i9 (2 ^ 4)))).toNat * 1) fun i11 =>
 jnC C4 ((x5.1,x5.2),((iXor .u32 (Int.fdiv (iXor .u32 (Int.fdiv x6 (2 ^ 4)) i10) (2 ^ 4)) i11)),(x12.1,x12.2.1,x12.2.2),x13,((WR .i64 (x14+1))),()) w)
 (Q (VI .u32 (iXor .u32 4294967295 x6)) w)
def F98.b4 (Q:QT):(NT×Int×ST×Int×Int×Unit)->World->((NT×Int×ST×Int×Int×Unit)->WT)->Prop:=fun s w C4=>∀ _:Nat->Value,F98.b4c Q C4 s.1 s.2.1 s.2.2.1 s.2.2.2.1 s.2.2.2.2.1 w
def F98.l4 (Q:QT):(NT×Int×ST×Int×Int×Unit)->WT:=fun s w=>∃ n,loopC (F98.b4 Q) n s w
def F98.vc (x0:Int) (x1A:Option Addr) (x1n x1c:Nat) (w:World) (Q:QT):Prop :=
 Calls Tryz.prog 130 #[] w fun e2 w1 =>
 ∃ a3:List Value,e2=.returned (ofL a3)/\(
 nw w1 Z207 207 fun b4 w5 =>
 gd (a3.length == 16) <|
 st w5 b4 0 a3 fun w6 =>
 jnC (F98.l4 Q) ((b4,0),((iXor .u32 4294967295 x0)),(x1A,x1n,x1c),((x1n:Int)),(0),()) w6)
def F98.an:Ann:=⟨[(4,[(5,.kL),(6,.kI .u32),(12,.kSl),(13,.kI .i64),(14,.kI .i64)])],[]⟩
theorem F98.of (x0:Int) (x1A:Option Addr) (x1n x1c:Nat) (w:World) {Q:QT} (h:F98.vc x0 x1A x1n x1c w Q):Calls Tryz.prog 98 #[VI .u32 x0,VS x1A x1n x1c] w (fun e w'=>∃ v,e=.returned v/\Q v w'):=vcFn_of (A:=F98.an) noCount mixed h (by kernel_rfl)
def F40.vc (x0A:Option Addr) (x0n x0c:Nat) (w:World) (Q:QT):Prop :=
 Calls Tryz.prog 64 #[VS x0A x0n x0c,VI .i64 (WR .i64 ((x0n:Int) - 4)),VI .i64 4] w fun e2 w1 =>
 ∃ i3:Int,∃ t4:Bool,e2=.returned (VT #[VI .u64 i3,VB t4])/\(
 gd (decide (0<=(WR .i64 ((x0n:Int) - 4)))) <|
 gd (decide ((WR .i64 ((x0n:Int) - 4))<=(x0c:Int))) <|
 Calls Tryz.prog 65 #[VS (slA x0A x0c 0 1) ((WR .i64 ((x0n:Int) - 4))).toNat x0c] w1 fun e6 w5 =>
 ∃ i7:Int,e6=.returned (VI .u32 i7)/\(
 Q (VB ((WR .u32 i3) == i7)) w5))
def F40.an:Ann:=⟨[],[]⟩
theorem F40.of (x0A:Option Addr) (x0n x0c:Nat) (w:World) {Q:QT} (h:F40.vc x0A x0n x0c w Q):Calls Tryz.prog 40 #[VS x0A x0n x0c] w (fun e w'=>∃ v,e=.returned v/\Q v w'):=vcFn_of (A:=F40.an) noCount mixed h (by kernel_rfl)
def F38.k11c (Q:QT) (x2:NT) (x10:NT) (w:World):Prop :=
 ldA 5 w x10.1 x10.2 fun a28 =>
 gd (a28.length == 5) <|
 st w x2.1 x2.2 a28 fun w29 =>
 ldA 5 w29 x2.1 x2.2 fun a30 =>
 Q (VT #[ofL a30,VI .i64 0]) w29
def F38.k11 (Q:QT):(NT×NT×Unit)->WT:=fun s w=>∀ _:Nat->Value,F38.k11c Q s.1 s.2.1 w
def F38.k10c (Q:QT) (x2:NT) (x10:NT) (x43:Bool) (w:World):Prop :=
 vIf x43
 (gd (([VI .i64 0,VI .u64 0,VS none 0 0,VI .i64 0] ++ ([VI .i64 0] ++ [])).length == 5) <|
 st w x2.1 x2.2 ([VI .i64 0,VI .u64 0,VS none 0 0,VI .i64 0] ++ ([VI .i64 0] ++ [])) fun w26 =>
 ldA 5 w26 x2.1 x2.2 fun a27 =>
 Q (VT #[ofL a27,VI .i64 3]) w26)
 (jnC (F38.k11 Q) ((x2.1,x2.2),(x10.1,x10.2),()) w)
def F38.k10 (Q:QT):(NT×NT×Bool×Unit)->WT:=fun s w=>∀ _:Nat->Value,F38.k10c Q s.1 s.2.1 s.2.2.1 w
def F38.vc (x0A:Option Addr) (x0n x0c:Nat) (w:World) (Q:QT):Prop :=
 nw w Z99 99 fun b1 w2 =>
 vIf (decide ((x0n:Int) < 17))
 (gd (([VI .i64 0,VI .u64 0,VS none 0 0,VI .i64 0] ++ ([VI .i64 0] ++ [])).length == 5) <|
 st w2 b1 0 ([VI .i64 0,VI .u64 0,VS none 0 0,VI .i64 0] ++ ([VI .i64 0] ++ [])) fun w3 =>
 ldA 5 w3 b1 0 fun a4 =>
 Q (VT #[ofL a4,VI .i64 4]) w3)
 (Calls Tryz.prog 64 #[VS x0A x0n x0c,VI .i64 0,VI .i64 1] w2 fun e6 w5 =>
 ∃ i7:Int,∃ t8:Bool,e6=.returned (VT #[VI .u64 i7,VB t8])/\(
 Calls Tryz.prog 64 #[VS x0A x0n x0c,VI .i64 1,VI .i64 8] w5 fun e10 w9 =>
 ∃ i11:Int,∃ t12:Bool,e10=.returned (VT #[VI .u64 i11,VB t12])/\(
 Calls Tryz.prog 64 #[VS x0A x0n x0c,VI .i64 9,VI .i64 4] w9 fun e14 w13 =>
 ∃ i15:Int,∃ t16:Bool,e14=.returned (VT #[VI .u64 i15,VB t16])/\(
 gd (([VI .i64 (WR .i64 i7)] ++ ([VI .u64 i11] ++ ([VS none 0 0] ++ ([VI .i64 0] ++ [])))).length == 4) <|
 nw w13 Z99 99 fun b17 w18 =>
 gd ((([VI .i64 (WR .i64 i7)] ++ ([VI .u64 i11] ++ ([VS none 0 0] ++ ([VI .i64 0] ++ [])))) ++ ([VI .i64 (WR .i64 i15)] ++ [])).length == 5) <|
 st w18 b17 0 (([VI .i64 (WR .i64 i7)] ++ ([VI .u64 i11] ++ ([VS none 0 0] ++ ([VI .i64 0] ++ [])))) ++ ([VI .i64 (WR .i64 i15)] ++ [])) fun w19 =>
 gd (decide ((17:Int)<=(x0c:Int))) <|
 Calls Tryz.prog 40 #[VS (slA x0A x0c 0 1) 17 x0c] w19 fun e21 w20 =>
 ∃ t22:Bool,e21=.returned (VB t22)/\(
 vIf (!t22)
 (gd (([VI .i64 0,VI .u64 0,VS none 0 0,VI .i64 0] ++ ([VI .i64 0] ++ [])).length == 5) <|
 st w20 b1 0 ([VI .i64 0,VI .u64 0,VS none 0 0,VI .i64 0] ++ ([VI .i64 0] ++ [])) fun w23 =>
 ldA 5 w23 b1 0 fun a24 =>
 Q (VT #[ofL a24,VI .i64 5]) w23)
 (ldI .i64 w20 b17 0 fun i25 =>
 vIf (decide (i25 < 1))
 (jnC (F38.k10 Q) ((b1,0),(b17,0),true,()) w20)
 (ldI .i64 w20 b17 0 fun i31 =>
 vIf (decide (i31 > 8))
 (jnC (F38.k10 Q) ((b1,0),(b17,0),true,()) w20)
 (ldI .i64 w20 b17 (0+4) fun i32 =>
 jnC (F38.k10 Q) ((b1,0),(b17,0),(decide (i32 > 65536)),()) w20))))))))
def F38.an:Ann:=⟨[],[(10,[(2,.kL),(10,.kL),(43,.kB)]),(11,[(2,.kL),(10,.kL)])]⟩
theorem F38.of (x0A:Option Addr) (x0n x0c:Nat) (w:World) {Q:QT} (h:F38.vc x0A x0n x0c w Q):Calls Tryz.prog 38 #[VS x0A x0n x0c] w (fun e w'=>∃ v,e=.returned v/\Q v w'):=vcFn_of (A:=F38.an) noCount mixed h (by kernel_rfl)
def F21.k3c (Q:QT) (x0:ST) (x1:Int) (x4:NT) (w:World):Prop :=
 gd (decide (0<=x1)) <|
 gd (decide (x1<=(x0.2.1:Int))) <|
 Calls Tryz.prog 38 #[VS (slA x0.1 x0.2.2 (x1).toNat 1) (x0.2.1 - (x1).toNat) (x0.2.2 - (x1).toNat)] w fun e6 w5 =>
 ∃ a7:List Value,∃ i8:Int,e6=.returned (VT #[ofL a7,VI .i64 i8])/\(
 nw w5 Z99 99 fun b9 w10 =>
 gd (a7.length == 5) <|
 st w10 b9 0 a7 fun w11 =>
 vIf (i8 != 0)
 (gd (([VI .i64 0] ++ ([VI .u64 0] ++ ([VS none 0 0] ++ ([VI .i64 0] ++ [])))).length == 4) <|
 st w11 x4.1 x4.2 ([VI .i64 0] ++ ([VI .u64 0] ++ ([VS none 0 0] ++ ([VI .i64 0] ++ [])))) fun w12 =>
 ldA 4 w12 x4.1 x4.2 fun a13 =>
 Q (VT #[ofL a13,VI .i64 i8]) w12)
 (ldI .i64 w11 b9 (0+4) fun i14 =>
 Calls Tryz.prog 39 #[VI .i64 i14] w11 fun e16 w15 =>
 ∃ i17:Int,e16=.returned (VI .i64 i17)/\(
 vIf (decide ((((x0.2.1 - (x1).toNat):Nat):Int) < i17))
 (gd (([VI .i64 0] ++ ([VI .u64 0] ++ ([VS none 0 0] ++ ([VI .i64 0] ++ [])))).length == 4) <|
 st w15 x4.1 x4.2 ([VI .i64 0] ++ ([VI .u64 0] ++ ([VS none 0 0] ++ ([VI .i64 0] ++ [])))) fun w18 =>
 ldA 4 w18 x4.1 x4.2 fun a19 =>
 Q (VT #[ofL a19,VI .i64 4]) w18)
 (ldI .i64 w15 b9 (0+4) fun i20 =>
 Calls Tryz.prog 39 #[VI .i64 i20] w15 fun e22 w21 =>
 ∃ i23:Int,e22=.returned (VI .i64 i23)/\(
 gd (decide (0<=i23)) <|
 gd (decide (i23<=(((x0.2.2 - (x1).toNat):Nat):Int))) <|
 Calls Tryz.prog 40 #[VS (slA (slA x0.1 x0.2.2 (x1).toNat 1) (x0.2.2 - (x1).toNat) 0 1) (i23).toNat (x0.2.2 - (x1).toNat)] w21 fun e25 w24 =>
 ∃ t26:Bool,e25=.returned (VB t26)/\(
 vIf (!t26)
 (gd (([VI .i64 0] ++ ([VI .u64 0] ++ ([VS none 0 0] ++ ([VI .i64 0] ++ [])))).length == 4) <|
 st w24 x4.1 x4.2 ([VI .i64 0] ++ ([VI .u64 0] ++ ([VS none 0 0] ++ ([VI .i64 0] ++ [])))) fun w27 =>
 ldA 4 w27 x4.1 x4.2 fun a28 =>
 Q (VT #[ofL a28,VI .i64 5]) w27)
 (ldI .i64 w24 b9 (0+4) fun i29 =>
 gd (decide (0<=(WR .i64 (17+i29)))) <|
 gd (decide ((WR .i64 (17+i29))<=(((x0.2.2 - (x1).toNat):Nat):Int))) <|
 gd (decide ((17:Int)<=((((WR .i64 (17+i29))).toNat:Nat):Int))) <|
 Calls Tryz.prog 20 #[VS (slA (slA (slA x0.1 x0.2.2 (x1).toNat 1) (x0.2.2 - (x1).toNat) 0 1) (x0.2.2 - (x1).toNat) 17 1) (((WR .i64 (17+i29))).toNat - 17) ((x0.2.2 - (x1).toNat) - 17)] w24 fun e31 w30 =>
 ∃ (A32:Option Addr) (n33 c34:Nat),e31=.returned (VS A32 n33 c34)/\(
 st w30 b9 (0+2) [VS A32 n33 c34] fun w35 =>
 st w35 b9 (0+3) [VI .i64 (WR .i64 (x1+(((i23).toNat:Nat):Int)))] fun w36 =>
 ldA 4 w36 b9 0 fun a37 =>
 gd (a37.length == 4) <|
 st w36 x4.1 x4.2 a37 fun w38 =>
 ldA 4 w38 x4.1 x4.2 fun a39 =>
 Q (VT #[ofL a39,VI .i64 0]) w38))))))))
def F21.k3 (Q:QT):(ST×Int×NT×Unit)->WT:=fun s w=>∀ _:Nat->Value,F21.k3c Q s.1 s.2.1 s.2.2.1 w
def F21.k2c (Q:QT) (x0:ST) (x1:Int) (x4:NT) (x15:Bool) (w:World):Prop :=
 vIf x15
 (gd (([VI .i64 0] ++ ([VI .u64 0] ++ ([VS none 0 0] ++ ([VI .i64 0] ++ [])))).length == 4) <|
 st w x4.1 x4.2 ([VI .i64 0] ++ ([VI .u64 0] ++ ([VS none 0 0] ++ ([VI .i64 0] ++ [])))) fun w3 =>
 ldA 4 w3 x4.1 x4.2 fun a4 =>
 Q (VT #[ofL a4,VI .i64 2]) w3)
 (jnC (F21.k3 Q) ((x0.1,x0.2.1,x0.2.2),x1,(x4.1,x4.2),()) w)
def F21.k2 (Q:QT):(ST×Int×NT×Bool×Unit)->WT:=fun s w=>∀ _:Nat->Value,F21.k2c Q s.1 s.2.1 s.2.2.1 s.2.2.2.1 w
def F21.vc (x0A:Option Addr) (x0n x0c:Nat) (x1:Int) (w:World) (Q:QT):Prop :=
 nw w Z71 71 fun b1 w2 =>
 vIf (decide (x1 < 0))
 (jnC (F21.k2 Q) ((x0A,x0n,x0c),x1,(b1,0),true,()) w2)
 (jnC (F21.k2 Q) ((x0A,x0n,x0c),x1,(b1,0),(decide (x1 > (x0n:Int))),()) w2)
def F21.an:Ann:=⟨[],[(2,[(0,.kSl),(1,.kI .i64),(4,.kL),(15,.kB)]),(3,[(0,.kSl),(1,.kI .i64),(4,.kL)])]⟩
theorem F21.of (x0A:Option Addr) (x0n x0c:Nat) (x1:Int) (w:World) {Q:QT} (h:F21.vc x0A x0n x0c x1 w Q):Calls Tryz.prog 21 #[VS x0A x0n x0c,VI .i64 x1] w (fun e w'=>∃ v,e=.returned v/\Q v w'):=vcFn_of (A:=F21.an) noCount mixed h (by kernel_rfl)
def F39.vc (x0:Int) (w:World) (Q:QT):Prop :=
 Q (VI .i64 (WR .i64 ((WR .i64 (17+x0))+4))) w
def F39.an:Ann:=⟨[],[]⟩
theorem F39.of (x0:Int) (w:World) {Q:QT} (h:F39.vc x0 w Q):Calls Tryz.prog 39 #[VI .i64 x0] w (fun e w'=>∃ v,e=.returned v/\Q v w'):=vcFn_of (A:=F39.an) noCount mixed h (by kernel_rfl)
def F67.vc (x0:Int) (w:World) (Q:QT):Prop :=
 vIf (decide (x0 >= 97))
 (vIf (decide (x0<=122))
 (Q (VB true) w)
 (vIf (decide (x0 >= 48))
 (Q (VB (decide (x0<=57))) w)
 (Q (VB false) w)))
 (vIf (decide (x0 >= 48))
 (Q (VB (decide (x0<=57))) w)
 (Q (VB false) w))
def F67.an:Ann:=⟨[],[]⟩
theorem F67.of (x0:Int) (w:World) {Q:QT} (h:F67.vc x0 w Q):Calls Tryz.prog 67 #[VI .u8 x0] w (fun e w'=>∃ v,e=.returned v/\Q v w'):=vcFn_of (A:=F67.an) noCount mixed h (by kernel_rfl)
def F43.b4c (Q:QT) (C4:(ByteArray×Int×Int×Unit)->WT) (x0:ByteArray) (x19:Int) (x20:Int) (w:World):Prop :=
 vIf (decide (x20 < x19))
 (gd (decide (0<=x20)) <|
 gd (decide (x20 < (x0.size:Int))) <|
 Calls Tryz.prog 67 #[VI .u8 (byteAt x0 (x20).toNat)] w fun e5 w4 =>
 ∃ t6:Bool,e5=.returned (VB t6)/\(
 vIf (!t6)
 (vIf ((byteAt x0 (x20).toNat) != 46)
 (vIf ((byteAt x0 (x20).toNat) != 95)
 (vIf ((byteAt x0 (x20).toNat) != 45)
 (Q (VB false) w4)
 (jnC C4 (x0,x19,((WR .i64 (x20+1))),()) w4))
 (jnC C4 (x0,x19,((WR .i64 (x20+1))),()) w4))
 (jnC C4 (x0,x19,((WR .i64 (x20+1))),()) w4))
 (jnC C4 (x0,x19,((WR .i64 (x20+1))),()) w4)))
 (Q (VB true) w)
def F43.b4 (Q:QT):(ByteArray×Int×Int×Unit)->World->((ByteArray×Int×Int×Unit)->WT)->Prop:=fun s w C4=>∀ _:Nat->Value,F43.b4c Q C4 s.1 s.2.1 s.2.2.1 w
def F43.l4 (Q:QT):(ByteArray×Int×Int×Unit)->WT:=fun s w=>∃ n,loopC (F43.b4 Q) n s w
def F43.k3c (Q:QT) (x0:ByteArray) (w:World):Prop :=
 jnC (F43.l4 Q) (x0,((x0.size:Int)),(0),()) w
def F43.k3 (Q:QT):(ByteArray×Unit)->WT:=fun s w=>∀ _:Nat->Value,F43.k3c Q s.1 w
def F43.vc (x0:ByteArray) (w:World) (Q:QT):Prop :=
 vIf (x0.toList == (⟨#[]⟩:ByteArray).toList)
 (Q (VB false) w)
 (vIf (decide ((x0.size:Int) > 32))
 (Q (VB false) w)
 (gd (decide ((0:Int) < (x0.size:Int))) <|
 Calls Tryz.prog 67 #[VI .u8 (byteAt x0 0)] w fun e2 w1 =>
 ∃ t3:Bool,e2=.returned (VB t3)/\(
 vIf (!t3)
 (Q (VB false) w1)
 (jnC (F43.k3 Q) (x0,()) w1))))
def F43.an:Ann:=⟨[(4,[(0,.kS),(19,.kI .i64),(20,.kI .i64)])],[(3,[(0,.kS)])]⟩
theorem F43.of (x0:ByteArray) (w:World) {Q:QT} (h:F43.vc x0 w Q):Calls Tryz.prog 43 #[VG x0] w (fun e w'=>∃ v,e=.returned v/\Q v w'):=vcFn_of (A:=F43.an) noCount mixed h (by kernel_rfl)
def F42.vc (x0A:Option Addr) (x0n x0c:Nat) (x1:Int) (x2:Int) (w:World) (Q:QT):Prop :=
 Calls Tryz.prog 64 #[VS x0A x0n x0c,VI .i64 x1,VI .i64 x2] w fun e2 w1 =>
 ∃ i3:Int,∃ t4:Bool,e2=.returned (VT #[VI .u64 i3,VB t4])/\(
 vIf (decide (i3 > 4294967295))
 (Q (VI .i64 0) w1)
 (Q (VI .i64 (WR .i64 i3)) w1))
def F42.an:Ann:=⟨[],[]⟩
theorem F42.of (x0A:Option Addr) (x0n x0c:Nat) (x1:Int) (x2:Int) (w:World) {Q:QT} (h:F42.vc x0A x0n x0c x1 x2 w Q):Calls Tryz.prog 42 #[VS x0A x0n x0c,VI .i64 x1,VI .i64 x2] w (fun e w'=>∃ v,e=.returned v/\Q v w'):=vcFn_of (A:=F42.an) noCount mixed h (by kernel_rfl)
def F22.k14c (Q:QT) (x1:ST) (x2:NT) (x4:NT) (w:World):Prop :=
 cpy w 1 (some ⟨x2.1,(x2.2+2),none⟩) 32 (VS x1.1 x1.2.1 x1.2.2) fun n19 w20 =>
 ldA 38 w20 x2.1 x2.2 fun a21 =>
 gd (a21.length == 38) <|
 st w20 x4.1 x4.2 a21 fun w22 =>
 ldA 38 w22 x4.1 x4.2 fun a23 =>
 Q (VT #[ofL a23,VB ((x1.2.1:Int) == 32)]) w22
def F22.k14 (Q:QT):(ST×NT×NT×Unit)->WT:=fun s w=>∀ _:Nat->Value,F22.k14c Q s.1 s.2.1 s.2.2.1 w
def F22.k8c (Q:QT) (x1:ST) (x2:NT) (x4:NT) (w:World):Prop :=
 Calls Tryz.prog 41 #[VS x1.1 x1.2.1 x1.2.2,VI .i64 0] w fun e7 w6 =>
 ∃ s8:ByteArray,∃ i9:Int,∃ t10:Bool,e7=.returned (VT #[VG s8,VI .i64 i9,VB t10])/\(
 vIf (!t10)
 (ldA 38 w6 x2.1 x2.2 fun a11 =>
 gd (a11.length == 38) <|
 st w6 x4.1 x4.2 a11 fun w12 =>
 ldA 38 w12 x4.1 x4.2 fun a13 =>
 Q (VT #[ofL a13,VB false]) w12)
 (gd (decide (0<=i9)) <|
 gd (decide (i9<=(x1.2.1:Int))) <|
 st w6.drew x2.1 (x2.2+34) [VG s8] fun w14 =>
 ldI .i64 w14 x2.1 x2.2 fun i15 =>
 vIf (i15 == 4)
 (ldA 38 w14 x2.1 x2.2 fun a16 =>
 gd (a16.length == 38) <|
 st w14 x4.1 x4.2 a16 fun w17 =>
 ldA 38 w17 x4.1 x4.2 fun a18 =>
 Q (VT #[ofL a18,VB ((((x1.2.1 - (i9).toNat):Nat):Int) == 0)]) w17)
 (jnC (F22.k14 Q) (((slA x1.1 x1.2.2 (i9).toNat 1),(x1.2.1 - (i9).toNat),(x1.2.2 - (i9).toNat)),(x2.1,x2.2),(x4.1,x4.2),()) w14)))
def F22.k8 (Q:QT):(ST×NT×NT×Unit)->WT:=fun s w=>∀ _:Nat->Value,F22.k8c Q s.1 s.2.1 s.2.2.1 w
def F22.k16c (Q:QT) (x1:ST) (x2:NT) (x4:NT) (w:World):Prop :=
 cpy w 1 (some ⟨x2.1,(x2.2+2),none⟩) 32 (VS x1.1 x1.2.1 x1.2.2) fun n24 w25 =>
 gd (decide (0<=(n24:Int))) <|
 gd (decide ((n24:Int)<=(x1.2.1:Int))) <|
 Calls Tryz.prog 20 #[VS (slA x1.1 x1.2.2 ((n24:Int)).toNat 1) (x1.2.1 - ((n24:Int)).toNat) (x1.2.2 - ((n24:Int)).toNat)] w25 fun e27 w26 =>
 ∃ (A28:Option Addr) (n29 c30:Nat),e27=.returned (VS A28 n29 c30)/\(
 st w26 x2.1 (x2.2+35) [VS A28 n29 c30] fun w31 =>
 ldA 38 w31 x2.1 x2.2 fun a32 =>
 gd (a32.length == 38) <|
 st w31 x4.1 x4.2 a32 fun w33 =>
 ldA 38 w33 x4.1 x4.2 fun a34 =>
 Q (VT #[ofL a34,VB ((n24:Int) == 32)]) w33)
def F22.k16 (Q:QT):(ST×NT×NT×Unit)->WT:=fun s w=>∀ _:Nat->Value,F22.k16c Q s.1 s.2.1 s.2.2.1 w
def F22.k21c (Q:QT) (x1:ST) (x2:NT) (x4:NT) (w:World):Prop :=
 Calls Tryz.prog 42 #[VS x1.1 x1.2.1 x1.2.2,VI .i64 8,VI .i64 8] w fun e39 w38 =>
 ∃ i40:Int,e39=.returned (VI .i64 i40)/\(
 st w38 x2.1 (x2.2+36) [VI .i64 i40] fun w41 =>
 ldA 38 w41 x2.1 x2.2 fun a42 =>
 gd (a42.length == 38) <|
 st w41 x4.1 x4.2 a42 fun w43 =>
 ldA 38 w43 x4.1 x4.2 fun a44 =>
 Q (VT #[ofL a44,VB true]) w43)
def F22.k21 (Q:QT):(ST×NT×NT×Unit)->WT:=fun s w=>∀ _:Nat->Value,F22.k21c Q s.1 s.2.1 s.2.2.1 w
def F22.k20c (Q:QT) (x1:ST) (x2:NT) (x4:NT) (x71:Bool) (w:World):Prop :=
 vIf x71
 (ldA 38 w x2.1 x2.2 fun a35 =>
 gd (a35.length == 38) <|
 st w x4.1 x4.2 a35 fun w36 =>
 ldA 38 w36 x4.1 x4.2 fun a37 =>
 Q (VT #[ofL a37,VB false]) w36)
 (jnC (F22.k21 Q) ((x1.1,x1.2.1,x1.2.2),(x2.1,x2.2),(x4.1,x4.2),()) w)
def F22.k20 (Q:QT):(ST×NT×NT×Bool×Unit)->WT:=fun s w=>∀ _:Nat->Value,F22.k20c Q s.1 s.2.1 s.2.2.1 s.2.2.2.1 w
def F22.k19c (Q:QT) (x1:ST) (x2:NT) (x4:NT) (w:World):Prop :=
 vIf ((x1.2.1:Int) != 16)
 (jnC (F22.k20 Q) ((x1.1,x1.2.1,x1.2.2),(x2.1,x2.2),(x4.1,x4.2),true,()) w)
 (gd (decide ((8:Int)<=(x1.2.2:Int))) <|
 b2s w (slA x1.1 x1.2.2 0 1) 8 fun s45 =>
 jnC (F22.k20 Q) ((x1.1,x1.2.1,x1.2.2),(x2.1,x2.2),(x4.1,x4.2),(!(s45.toList == (⟨#[115,116,105,108,108,97,103,101]⟩:ByteArray).toList)),()) w)
def F22.k19 (Q:QT):(ST×NT×NT×Unit)->WT:=fun s w=>∀ _:Nat->Value,F22.k19c Q s.1 s.2.1 s.2.2.1 w
def F22.k23c (Q:QT) (x1:ST) (x2:NT) (x4:NT) (w:World):Prop :=
 Calls Tryz.prog 42 #[VS x1.1 x1.2.1 x1.2.2,VI .i64 0,VI .i64 4] w fun e47 w46 =>
 ∃ i48:Int,e47=.returned (VI .i64 i48)/\(
 Calls Tryz.prog 42 #[VS x1.1 x1.2.1 x1.2.2,VI .i64 4,VI .i64 4] w46 fun e50 w49 =>
 ∃ i51:Int,e50=.returned (VI .i64 i51)/\(
 st w49 x2.1 (x2.2+36) [VI .i64 i48] fun w52 =>
 st w52 x2.1 (x2.2+37) [VI .i64 i51] fun w53 =>
 ldA 38 w53 x2.1 x2.2 fun a54 =>
 gd (a54.length == 38) <|
 st w53 x4.1 x4.2 a54 fun w55 =>
 ldA 38 w55 x4.1 x4.2 fun a56 =>
 Q (VT #[ofL a56,VB ((x1.2.1:Int) == 8)]) w55))
def F22.k23 (Q:QT):(ST×NT×NT×Unit)->WT:=fun s w=>∀ _:Nat->Value,F22.k23c Q s.1 s.2.1 s.2.2.1 w
def F22.k4c (Q:QT) (x1:ST) (x2:NT) (x4:NT) (x11:Int) (w:World):Prop :=
 vIf (x11 == 5)
 (jnC (F22.k14 Q) ((x1.1,x1.2.1,x1.2.2),(x2.1,x2.2),(x4.1,x4.2),()) w)
 (vIf (x11 == 1)
 (vIf (x11 == 1)
 (jnC (F22.k16 Q) ((x1.1,x1.2.1,x1.2.2),(x2.1,x2.2),(x4.1,x4.2),()) w)
 (vIf (x11 == 7)
 (jnC (F22.k19 Q) ((x1.1,x1.2.1,x1.2.2),(x2.1,x2.2),(x4.1,x4.2),()) w)
 (jnC (F22.k23 Q) ((x1.1,x1.2.1,x1.2.2),(x2.1,x2.2),(x4.1,x4.2),()) w)))
 (vIf (x11 == 2)
 (jnC (F22.k16 Q) ((x1.1,x1.2.1,x1.2.2),(x2.1,x2.2),(x4.1,x4.2),()) w)
 (vIf (x11 == 7)
 (jnC (F22.k19 Q) ((x1.1,x1.2.1,x1.2.2),(x2.1,x2.2),(x4.1,x4.2),()) w)
 (jnC (F22.k23 Q) ((x1.1,x1.2.1,x1.2.2),(x2.1,x2.2),(x4.1,x4.2),()) w))))
def F22.k4 (Q:QT):(ST×NT×NT×Int×Unit)->WT:=fun s w=>∀ _:Nat->Value,F22.k4c Q s.1 s.2.1 s.2.2.1 s.2.2.2.1 w
def F22.vc (x0:List Value) (x1A:Option Addr) (x1n x1c:Nat) (w:World) (Q:QT):Prop :=
 nw w x0 34 fun b1 w2 =>
 nw w2 Z34 34 fun b3 w4 =>
 ldI .i64 w4 b1 0 fun i5 =>
 vIf (i5 == 3)
 (vIf (i5 == 3)
 (jnC (F22.k8 Q) ((x1A,x1n,x1c),(b1,0),(b3,0),()) w4)
 (jnC (F22.k4 Q) ((x1A,x1n,x1c),(b1,0),(b3,0),i5,()) w4))
 (vIf (i5 == 4)
 (jnC (F22.k8 Q) ((x1A,x1n,x1c),(b1,0),(b3,0),()) w4)
 (jnC (F22.k4 Q) ((x1A,x1n,x1c),(b1,0),(b3,0),i5,()) w4))
def F22.an:Ann:=⟨[],[(4,[(1,.kSl),(2,.kL),(4,.kL),(11,.kI .i64)]),(8,[(1,.kSl),(2,.kL),(4,.kL)]),(14,[(1,.kSl),(2,.kL),(4,.kL)]),(16,[(1,.kSl),(2,.kL),(4,.kL)]),(19,[(1,.kSl),(2,.kL),(4,.kL)]),(20,[(1,.kSl),(2,.kL),(4,.kL),(71,.kB)]),(21,[(1,.kSl),(2,.kL),(4,.kL)]),(23,[(1,.kSl),(2,.kL),(4,.kL)])]⟩
theorem F22.of (x0:List Value) (x1A:Option Addr) (x1n x1c:Nat) (w:World) {Q:QT} (h:F22.vc x0 x1A x1n x1c w Q):Calls Tryz.prog 22 #[ofL x0,VS x1A x1n x1c] w (fun e w'=>∃ v,e=.returned v/\Q v w'):=vcFn_of (A:=F22.an) noCount mixed h (by kernel_rfl)
def F23.k14c (Q:QT) (x1:NT) (x3:Int) (x5:Int) (x20:Bool) (w:World):Prop :=
 vIf x20
 (ldI .i64 w x1.1 (x1.2+36) fun i11 =>
 vIf (decide (i11 < 0))
 (Q (VI .i64 20) w)
 (ldI .i64 w x1.1 (x1.2+36) fun i12 =>
 vIf (decide (i12 > x3))
 (Q (VI .i64 20) w)
 (ldI .i64 w x1.1 (x1.2+37) fun i13 =>
 vIf (decide (i13 < 0))
 (Q (VI .i64 20) w)
 (ldI .i64 w x1.1 (x1.2+37) fun i14 =>
 vIf (decide (i14 > x3))
 (Q (VI .i64 20) w)
 (Q (VI .i64 0) w)))))
 (vIf (x5 == 7)
 (ldI .i64 w x1.1 (x1.2+36) fun i15 =>
 vIf (decide (i15 < 1))
 (Q (VI .i64 20) w)
 (ldI .i64 w x1.1 (x1.2+36) fun i16 =>
 vIf (decide (i16 > 99999999))
 (Q (VI .i64 20) w)
 (Q (VI .i64 0) w)))
 (vIf (x5 == 5)
 (Q (VI .i64 0) w)
 (Q (VI .i64 2) w)))
def F23.k14 (Q:QT):(NT×Int×Int×Bool×Unit)->WT:=fun s w=>∀ _:Nat->Value,F23.k14c Q s.1 s.2.1 s.2.2.1 s.2.2.2.1 w
def F23.k10c (Q:QT) (x1:NT) (x3:Int) (x5:Int) (x13:Bool) (w:World):Prop :=
 vIf x13
 (ldS w x1.1 (x1.2+34) fun s7 =>
 Calls Tryz.prog 43 #[VG s7] w fun e9 w8 =>
 ∃ t10:Bool,e9=.returned (VB t10)/\(
 vIf (!t10)
 (Q (VI .i64 12) w8)
 (Q (VI .i64 0) w8)))
 (vIf (x5 == 6)
 (jnC (F23.k14 Q) ((x1.1,x1.2),x3,x5,(x5 == 6),()) w)
 (jnC (F23.k14 Q) ((x1.1,x1.2),x3,x5,(x5 == 8),()) w))
def F23.k10 (Q:QT):(NT×Int×Int×Bool×Unit)->WT:=fun s w=>∀ _:Nat->Value,F23.k10c Q s.1 s.2.1 s.2.2.1 s.2.2.2.1 w
def F23.k6c (Q:QT) (x1:NT) (x3:Int) (x5:Int) (x6:Bool) (w:World):Prop :=
 vIf x6
 (ldSl w x1.1 (x1.2+35) fun A4 n5 c6 =>
 vIf (decide ((n5:Int) > 65504))
 (Q (VI .i64 18) w)
 (Q (VI .i64 0) w))
 (vIf (x5 == 3)
 (jnC (F23.k10 Q) ((x1.1,x1.2),x3,x5,(x5 == 3),()) w)
 (jnC (F23.k10 Q) ((x1.1,x1.2),x3,x5,(x5 == 4),()) w))
def F23.k6 (Q:QT):(NT×Int×Int×Bool×Unit)->WT:=fun s w=>∀ _:Nat->Value,F23.k6c Q s.1 s.2.1 s.2.2.1 s.2.2.2.1 w
def F23.vc (x0:List Value) (w:World) (Q:QT):Prop :=
 nw w x0 34 fun b1 w2 =>
 ldI .i64 w2 b1 0 fun i3 =>
 vIf (i3 == 1)
 (jnC (F23.k6 Q) ((b1,0),(4294967295),i3,(i3 == 1),()) w2)
 (jnC (F23.k6 Q) ((b1,0),(4294967295),i3,(i3 == 2),()) w2)
def F23.an:Ann:=⟨[],[(6,[(1,.kL),(3,.kI .i64),(5,.kI .i64),(6,.kB)]),(10,[(1,.kL),(3,.kI .i64),(5,.kI .i64),(13,.kB)]),(14,[(1,.kL),(3,.kI .i64),(5,.kI .i64),(20,.kB)])]⟩
theorem F23.of (x0:List Value) (w:World) {Q:QT} (h:F23.vc x0 w Q):Calls Tryz.prog 23 #[ofL x0] w (fun e w'=>∃ v,e=.returned v/\Q v w'):=vcFn_of (A:=F23.an) noCount mixed h (by kernel_rfl)
def F9.vc (x0A:Option Addr) (x0n x0c:Nat) (x1:Int) (w:World) (Q:QT):Prop :=
 nw w Z34 34 fun b1 w2 =>
 Calls Tryz.prog 21 #[VS x0A x0n x0c,VI .i64 x1] w2 fun e4 w3 =>
 ∃ a5:List Value,∃ i6:Int,e4=.returned (VT #[ofL a5,VI .i64 i6])/\(
 nw w3 Z71 71 fun b7 w8 =>
 gd (a5.length == 4) <|
 st w8 b7 0 a5 fun w9 =>
 vIf (i6 != 0)
 (gd (([VI .i64 0] ++ ([VI .u64 0] ++ ([VI .u8 0,VI .u8 0,VI .u8 0,VI .u8 0,VI .u8 0,VI .u8 0,VI .u8 0,VI .u8 0,VI .u8 0,VI .u8 0,VI .u8 0,VI .u8 0,VI .u8 0,VI .u8 0,VI .u8 0,VI .u8 0,VI .u8 0,VI .u8 0,VI .u8 0,VI .u8 0,VI .u8 0,VI .u8 0,VI .u8 0,VI .u8 0,VI .u8 0,VI .u8 0,VI .u8 0,VI .u8 0,VI .u8 0,VI .u8 0,VI .u8 0,VI .u8 0] ++ ([VG (⟨#[]⟩:ByteArray)] ++ ([VS none 0 0] ++ ([VI .i64 0] ++ ([VI .i64 0] ++ []))))))).length == 38) <|
 st w9 b1 0 ([VI .i64 0] ++ ([VI .u64 0] ++ ([VI .u8 0,VI .u8 0,VI .u8 0,VI .u8 0,VI .u8 0,VI .u8 0,VI .u8 0,VI .u8 0,VI .u8 0,VI .u8 0,VI .u8 0,VI .u8 0,VI .u8 0,VI .u8 0,VI .u8 0,VI .u8 0,VI .u8 0,VI .u8 0,VI .u8 0,VI .u8 0,VI .u8 0,VI .u8 0,VI .u8 0,VI .u8 0,VI .u8 0,VI .u8 0,VI .u8 0,VI .u8 0,VI .u8 0,VI .u8 0,VI .u8 0,VI .u8 0] ++ ([VG (⟨#[]⟩:ByteArray)] ++ ([VS none 0 0] ++ ([VI .i64 0] ++ ([VI .i64 0] ++ []))))))) fun w10 =>
 ldA 38 w10 b1 0 fun a11 =>
 Q (VT #[ofL a11,VI .i64 0,VI .i64 i6]) w10)
 (ldI .i64 w9 b7 0 fun i12 =>
 ldI .u64 w9 b7 (0+1) fun i13 =>
 ldSl w9 b7 (0+2) fun A14 n15 c16 =>
 Calls Tryz.prog 22 #[ofL ([VI .i64 i12] ++ ([VI .u64 i13] ++ ([VI .u8 0,VI .u8 0,VI .u8 0,VI .u8 0,VI .u8 0,VI .u8 0,VI .u8 0,VI .u8 0,VI .u8 0,VI .u8 0,VI .u8 0,VI .u8 0,VI .u8 0,VI .u8 0,VI .u8 0,VI .u8 0,VI .u8 0,VI .u8 0,VI .u8 0,VI .u8 0,VI .u8 0,VI .u8 0,VI .u8 0,VI .u8 0,VI .u8 0,VI .u8 0,VI .u8 0,VI .u8 0,VI .u8 0,VI .u8 0,VI .u8 0,VI .u8 0] ++ ([VG (⟨#[]⟩:ByteArray)] ++ ([VS none 0 0] ++ ([VI .i64 0] ++ ([VI .i64 0] ++ []))))))),VS A14 n15 c16] w9 fun e18 w17 =>
 ∃ a19:List Value,∃ t20:Bool,e18=.returned (VT #[ofL a19,VB t20])/\(
 nw w17 Z34 34 fun b21 w22 =>
 gd (a19.length == 38) <|
 st w22 b21 0 a19 fun w23 =>
 vIf (!t20)
 (gd (([VI .i64 0] ++ ([VI .u64 0] ++ ([VI .u8 0,VI .u8 0,VI .u8 0,VI .u8 0,VI .u8 0,VI .u8 0,VI .u8 0,VI .u8 0,VI .u8 0,VI .u8 0,VI .u8 0,VI .u8 0,VI .u8 0,VI .u8 0,VI .u8 0,VI .u8 0,VI .u8 0,VI .u8 0,VI .u8 0,VI .u8 0,VI .u8 0,VI .u8 0,VI .u8 0,VI .u8 0,VI .u8 0,VI .u8 0,VI .u8 0,VI .u8 0,VI .u8 0,VI .u8 0,VI .u8 0,VI .u8 0] ++ ([VG (⟨#[]⟩:ByteArray)] ++ ([VS none 0 0] ++ ([VI .i64 0] ++ ([VI .i64 0] ++ []))))))).length == 38) <|
 st w23 b1 0 ([VI .i64 0] ++ ([VI .u64 0] ++ ([VI .u8 0,VI .u8 0,VI .u8 0,VI .u8 0,VI .u8 0,VI .u8 0,VI .u8 0,VI .u8 0,VI .u8 0,VI .u8 0,VI .u8 0,VI .u8 0,VI .u8 0,VI .u8 0,VI .u8 0,VI .u8 0,VI .u8 0,VI .u8 0,VI .u8 0,VI .u8 0,VI .u8 0,VI .u8 0,VI .u8 0,VI .u8 0,VI .u8 0,VI .u8 0,VI .u8 0,VI .u8 0,VI .u8 0,VI .u8 0,VI .u8 0,VI .u8 0] ++ ([VG (⟨#[]⟩:ByteArray)] ++ ([VS none 0 0] ++ ([VI .i64 0] ++ ([VI .i64 0] ++ []))))))) fun w24 =>
 ldA 38 w24 b1 0 fun a25 =>
 Q (VT #[ofL a25,VI .i64 0,VI .i64 3]) w24)
 (ldA 38 w23 b21 0 fun a26 =>
 Calls Tryz.prog 23 #[ofL a26] w23 fun e28 w27 =>
 ∃ i29:Int,e28=.returned (VI .i64 i29)/\(
 vIf (i29 != 0)
 (gd (([VI .i64 0] ++ ([VI .u64 0] ++ ([VI .u8 0,VI .u8 0,VI .u8 0,VI .u8 0,VI .u8 0,VI .u8 0,VI .u8 0,VI .u8 0,VI .u8 0,VI .u8 0,VI .u8 0,VI .u8 0,VI .u8 0,VI .u8 0,VI .u8 0,VI .u8 0,VI .u8 0,VI .u8 0,VI .u8 0,VI .u8 0,VI .u8 0,VI .u8 0,VI .u8 0,VI .u8 0,VI .u8 0,VI .u8 0,VI .u8 0,VI .u8 0,VI .u8 0,VI .u8 0,VI .u8 0,VI .u8 0] ++ ([VG (⟨#[]⟩:ByteArray)] ++ ([VS none 0 0] ++ ([VI .i64 0] ++ ([VI .i64 0] ++ []))))))).length == 38) <|
 st w27 b1 0 ([VI .i64 0] ++ ([VI .u64 0] ++ ([VI .u8 0,VI .u8 0,VI .u8 0,VI .u8 0,VI .u8 0,VI .u8 0,VI .u8 0,VI .u8 0,VI .u8 0,VI .u8 0,VI .u8 0,VI .u8 0,VI .u8 0,VI .u8 0,VI .u8 0,VI .u8 0,VI .u8 0,VI .u8 0,VI .u8 0,VI .u8 0,VI .u8 0,VI .u8 0,VI .u8 0,VI .u8 0,VI .u8 0,VI .u8 0,VI .u8 0,VI .u8 0,VI .u8 0,VI .u8 0,VI .u8 0,VI .u8 0] ++ ([VG (⟨#[]⟩:ByteArray)] ++ ([VS none 0 0] ++ ([VI .i64 0] ++ ([VI .i64 0] ++ []))))))) fun w30 =>
 ldA 38 w30 b1 0 fun a31 =>
 Q (VT #[ofL a31,VI .i64 0,VI .i64 i29]) w30)
 (ldA 38 w27.drew b21 0 fun a32 =>
 ldI .i64 w27.drew b7 (0+3) fun i33 =>
 gd (a32.length == 38) <|
 st w27.drew b1 0 a32 fun w34 =>
 kp w27.drew b7 (0+3) 1 w34 <|
 ldA 38 w34 b1 0 fun a35 =>
 Q (VT #[ofL a35,VI .i64 i33,VI .i64 0]) w34))))))
def F9.an:Ann:=⟨[],[]⟩
theorem F9.of (x0A:Option Addr) (x0n x0c:Nat) (x1:Int) (w:World) {Q:QT} (h:F9.vc x0A x0n x0c x1 w Q):Calls Tryz.prog 9 #[VS x0A x0n x0c,VI .i64 x1] w (fun e w'=>∃ v,e=.returned v/\Q v w'):=vcFn_of (A:=F9.an) noCount mixed h (by kernel_rfl)
def F11.k5c (Q:QT) (x2:NT) (x4:NT) (x5:NT) (x13:Int) (w:World):Prop :=
 vIf (x13 == 5)
 (ldA 32 w x2.1 (x2.2+2) fun a23 =>
 gd (a23.length == 32) <|
 st w x5.1 (x5.2+2) a23 fun w24 =>
 ldA 39 w24 x5.1 x5.2 fun a25 =>
 gd (a25.length == 39) <|
 st w24 x4.1 x4.2 a25 fun w26 =>
 ldA 39 w26 x4.1 x4.2 fun a27 =>
 Q (ofL a27) w26)
 (vIf (x13 == 3)
 (ldA 32 w x2.1 (x2.2+2) fun a28 =>
 gd (a28.length == 32) <|
 st w x5.1 (x5.2+2) a28 fun w29 =>
 ldS w29 x2.1 (x2.2+34) fun s30 =>
 st w29 x5.1 (x5.2+34) [VG s30] fun w31 =>
 ldA 39 w31 x5.1 x5.2 fun a32 =>
 gd (a32.length == 39) <|
 st w31 x4.1 x4.2 a32 fun w33 =>
 ldA 39 w33 x4.1 x4.2 fun a34 =>
 Q (ofL a34) w33)
 (vIf (x13 == 4)
 (ldS w x2.1 (x2.2+34) fun s35 =>
 st w x5.1 (x5.2+34) [VG s35] fun w36 =>
 ldA 39 w36 x5.1 x5.2 fun a37 =>
 gd (a37.length == 39) <|
 st w36 x4.1 x4.2 a37 fun w38 =>
 ldA 39 w38 x4.1 x4.2 fun a39 =>
 Q (ofL a39) w38)
 (vIf (x13 == 6)
 (vIf (x13 == 6)
 (ldI .i64 w x2.1 (x2.2+37) fun i40 =>
 st w x5.1 (x5.2+35) [VI .i64 i40] fun w41 =>
 ldA 39 w41 x5.1 x5.2 fun a42 =>
 gd (a42.length == 39) <|
 st w41 x4.1 x4.2 a42 fun w43 =>
 ldA 39 w43 x4.1 x4.2 fun a44 =>
 Q (ofL a44) w43)
 (ldA 39 w x5.1 x5.2 fun a45 =>
 gd (a45.length == 39) <|
 st w x4.1 x4.2 a45 fun w46 =>
 ldA 39 w46 x4.1 x4.2 fun a47 =>
 Q (ofL a47) w46))
 (vIf (x13 == 8)
 (ldI .i64 w x2.1 (x2.2+37) fun i48 =>
 st w x5.1 (x5.2+35) [VI .i64 i48] fun w49 =>
 ldA 39 w49 x5.1 x5.2 fun a50 =>
 gd (a50.length == 39) <|
 st w49 x4.1 x4.2 a50 fun w51 =>
 ldA 39 w51 x4.1 x4.2 fun a52 =>
 Q (ofL a52) w51)
 (ldA 39 w x5.1 x5.2 fun a53 =>
 gd (a53.length == 39) <|
 st w x4.1 x4.2 a53 fun w54 =>
 ldA 39 w54 x4.1 x4.2 fun a55 =>
 Q (ofL a55) w54)))))
def F11.k5 (Q:QT):(NT×NT×NT×Int×Unit)->WT:=fun s w=>∀ _:Nat->Value,F11.k5c Q s.1 s.2.1 s.2.2.1 s.2.2.2.1 w
def F11.vc (x0:List Value) (x1:List Value) (w:World) (Q:QT):Prop :=
 nw w x0 34 fun b1 w2 =>
 nw w2 x1 26 fun b3 w4 =>
 nw w4 Z28 28 fun b5 w6 =>
 ldI .i64 w6 b1 0 fun i7 =>
 ldI .u64 w6 b1 (0+1) fun i8 =>
 ldA 3 w6 b3 0 fun a9 =>
 gd (a9.length == 3) <|
 nw w6 Z28 28 fun b10 w11 =>
 gd (([VI .i64 i7] ++ ([VI .u64 i8] ++ ([VI .u8 0,VI .u8 0,VI .u8 0,VI .u8 0,VI .u8 0,VI .u8 0,VI .u8 0,VI .u8 0,VI .u8 0,VI .u8 0,VI .u8 0,VI .u8 0,VI .u8 0,VI .u8 0,VI .u8 0,VI .u8 0,VI .u8 0,VI .u8 0,VI .u8 0,VI .u8 0,VI .u8 0,VI .u8 0,VI .u8 0,VI .u8 0,VI .u8 0,VI .u8 0,VI .u8 0,VI .u8 0,VI .u8 0,VI .u8 0,VI .u8 0,VI .u8 0] ++ ([VG (⟨#[]⟩:ByteArray)] ++ ([VI .i64 0] ++ (a9 ++ [])))))).length == 39) <|
 st w11 b10 0 ([VI .i64 i7] ++ ([VI .u64 i8] ++ ([VI .u8 0,VI .u8 0,VI .u8 0,VI .u8 0,VI .u8 0,VI .u8 0,VI .u8 0,VI .u8 0,VI .u8 0,VI .u8 0,VI .u8 0,VI .u8 0,VI .u8 0,VI .u8 0,VI .u8 0,VI .u8 0,VI .u8 0,VI .u8 0,VI .u8 0,VI .u8 0,VI .u8 0,VI .u8 0,VI .u8 0,VI .u8 0,VI .u8 0,VI .u8 0,VI .u8 0,VI .u8 0,VI .u8 0,VI .u8 0,VI .u8 0,VI .u8 0] ++ ([VG (⟨#[]⟩:ByteArray)] ++ ([VI .i64 0] ++ (a9 ++ [])))))) fun w12 =>
 ldI .i64 w12 b1 0 fun i13 =>
 vIf (i13 == 1)
 (vIf (i13 == 1)
 (ldSl w12 b1 (0+35) fun A14 n15 c16 =>
 st w12 b10 (0+35) [VI .i64 (n15:Int)] fun w17 =>
 ldA 32 w17 b1 (0+2) fun a18 =>
 gd (a18.length == 32) <|
 st w17 b10 (0+2) a18 fun w19 =>
 ldA 39 w19 b10 0 fun a20 =>
 gd (a20.length == 39) <|
 st w19 b5 0 a20 fun w21 =>
 ldA 39 w21 b5 0 fun a22 =>
 Q (ofL a22) w21)
 (jnC (F11.k5 Q) ((b1,0),(b5,0),(b10,0),i13,()) w12))
 (vIf (i13 == 2)
 (ldSl w12 b1 (0+35) fun A56 n57 c58 =>
 st w12 b10 (0+35) [VI .i64 (n57:Int)] fun w59 =>
 ldA 32 w59 b1 (0+2) fun a60 =>
 gd (a60.length == 32) <|
 st w59 b10 (0+2) a60 fun w61 =>
 ldA 39 w61 b10 0 fun a62 =>
 gd (a62.length == 39) <|
 st w61 b5 0 a62 fun w63 =>
 ldA 39 w63 b5 0 fun a64 =>
 Q (ofL a64) w63)
 (jnC (F11.k5 Q) ((b1,0),(b5,0),(b10,0),i13,()) w12))
def F11.an:Ann:=⟨[],[(5,[(2,.kL),(4,.kL),(5,.kL),(13,.kI .i64)])]⟩
theorem F11.of (x0:List Value) (x1:List Value) (w:World) {Q:QT} (h:F11.vc x0 x1 w Q):Calls Tryz.prog 11 #[ofL x0,ofL x1] w (fun e w'=>∃ v,e=.returned v/\Q v w'):=vcFn_of (A:=F11.an) noCount mixed h (by kernel_rfl)
def F71.vc (x0:Int) (w:World) (Q:QT):Prop :=
 vIf (decide (x0 >= 1))
 (Q (VB (decide (x0<=5))) w)
 (Q (VB false) w)
def F71.an:Ann:=⟨[],[]⟩
theorem F71.of (x0:Int) (w:World) {Q:QT} (h:F71.vc x0 w Q):Calls Tryz.prog 71 #[VI .i64 x0] w (fun e w'=>∃ v,e=.returned v/\Q v w'):=vcFn_of (A:=F71.an) noCount mixed h (by kernel_rfl)
def F104.k3c (Q:QT) (x0:ST) (x1:Int) (w:World):Prop :=
 vIf (decide ((WR .i64 (x1 - (WR .i64 ((x0.2.2:Int) - (x0.2.1:Int))))) > 0))
 (gd (decide (0<=(x0.2.2:Int))) <|
 gd (decide ((x0.2.2:Int)<=(x0.2.2:Int))) <|
 appZ w 1 1 [VI .u8 0] 5 (slA x0.1 x0.2.2 0 1) (((x0.2.2:Int)).toNat) x0.2.2 (WR .i64 (x1 - (WR .i64 ((x0.2.2:Int) - (x0.2.1:Int))))) fun A1 n2 c3 w4 =>
 gd (decide (0<=(x0.2.1:Int))) <|
 gd (decide ((x0.2.1:Int)<=(c3:Int))) <|
 Q (VS (slA A1 c3 0 1) ((x0.2.1:Int)).toNat c3) w4)
 (Q (VS x0.1 x0.2.1 x0.2.2) w)
def F104.k3 (Q:QT):(ST×Int×Unit)->WT:=fun s w=>∀ _:Nat->Value,F104.k3c Q s.1 s.2.1 w
def F104.vc (x0A:Option Addr) (x0n x0c:Nat) (x1:Int) (w:World) (Q:QT):Prop :=
 vIf (decide (x1 < 0))
 (False)
 (jnC (F104.k3 Q) ((x0A,x0n,x0c),x1,()) w)
def F104.an:Ann:=⟨[],[(3,[(0,.kSl),(1,.kI .i64)])]⟩
theorem F104.of (x0A:Option Addr) (x0n x0c:Nat) (x1:Int) (w:World) {Q:QT} (h:F104.vc x0A x0n x0c x1 w Q):Calls Tryz.prog 104 #[VS x0A x0n x0c,VI .i64 x1] w (fun e w'=>∃ v,e=.returned v/\Q v w'):=vcFn_of (A:=F104.an) noCount mixed h (by kernel_rfl)
def F74.b11c (Q:QT) (C11:(ST×ST×Int×Int×Unit)->WT) (x6:ST) (x25:ST) (x26:Int) (x27:Int) (w:World):Prop :=
 vIf (decide (x27 < x26))
 (dr x25.1 fun b11 o12 =>
 gd (decide (0<=x27)) <|
 gd (decide (x27 < (x25.2.1:Int))) <|
 ldSl w b11 (o12+(x27).toNat * 1) fun A13 n14 c15 =>
 app w 1 1 [VI .u8 0] 5 x6.1 x6.2.1 x6.2.2 (VS A13 n14 c15) fun A16 n17 c18 w19 =>
 jnC C11 ((A16,n17,c18),(x25.1,x25.2.1,x25.2.2),x26,((WR .i64 (x27+1))),()) w19)
 (Q (VS x6.1 x6.2.1 x6.2.2) w)
def F74.b11 (Q:QT):(ST×ST×Int×Int×Unit)->World->((ST×ST×Int×Int×Unit)->WT)->Prop:=fun s w C11=>∀ _:Nat->Value,F74.b11c Q C11 s.1 s.2.1 s.2.2.1 s.2.2.2.1 w
def F74.l11 (Q:QT):(ST×ST×Int×Int×Unit)->WT:=fun s w=>∃ n,loopC (F74.b11 Q) n s w
def F74.b3c (Q:QT) (C3:(ST×Int×ST×Int×Int×Unit)->WT) (x0:ST) (x3:Int) (x9:ST) (x10:Int) (x11:Int) (w:World):Prop :=
 vIf (decide (x11 < x10))
 (dr x9.1 fun b1 o2 =>
 gd (decide (0<=x11)) <|
 gd (decide (x11 < (x9.2.1:Int))) <|
 ldSl w b1 (o2+(x11).toNat * 1) fun A3 n4 c5 =>
 vIf (decide ((WR .i64 (x3+(n4:Int))) < 0))
 (False)
 (jnC C3 ((x0.1,x0.2.1,x0.2.2),((WR .i64 (x3+(n4:Int)))),(x9.1,x9.2.1,x9.2.2),x10,((WR .i64 (x11+1))),()) w))
 (Calls Tryz.prog 104 #[VS none 0 0,VI .i64 x3] w fun e7 w6 =>
 ∃ (A8:Option Addr) (n9 c10:Nat),e7=.returned (VS A8 n9 c10)/\(
 jnC (F74.l11 Q) ((A8,n9,c10),(x0.1,x0.2.1,x0.2.2),((x0.2.1:Int)),(0),()) w6))
def F74.b3 (Q:QT):(ST×Int×ST×Int×Int×Unit)->World->((ST×Int×ST×Int×Int×Unit)->WT)->Prop:=fun s w C3=>∀ _:Nat->Value,F74.b3c Q C3 s.1 s.2.1 s.2.2.1 s.2.2.2.1 s.2.2.2.2.1 w
def F74.l3 (Q:QT):(ST×Int×ST×Int×Int×Unit)->WT:=fun s w=>∃ n,loopC (F74.b3 Q) n s w
def F74.vc (x0A:Option Addr) (x0n x0c:Nat) (w:World) (Q:QT):Prop :=
 jnC (F74.l3 Q) ((x0A,x0n,x0c),(0),(x0A,x0n,x0c),((x0n:Int)),(0),()) w
def F74.an:Ann:=⟨[(3,[(0,.kSl),(3,.kI .i64),(9,.kSl),(10,.kI .i64),(11,.kI .i64)]),(11,[(6,.kSl),(25,.kSl),(26,.kI .i64),(27,.kI .i64)])],[]⟩
theorem F74.of (x0A:Option Addr) (x0n x0c:Nat) (w:World) {Q:QT} (h:F74.vc x0A x0n x0c w Q):Calls Tryz.prog 74 #[VS x0A x0n x0c] w (fun e w'=>∃ v,e=.returned v/\Q v w'):=vcFn_of (A:=F74.an) noCount mixed h (by kernel_rfl)
def F103.vc (x0A:Option Addr) (x0n x0c:Nat) (x1:Int) (w:World) (Q:QT):Prop :=
 gd (decide (0<=(x0n:Int))) <|
 gd (decide ((x0n:Int)<=(WR .i64 ((x0n:Int)+x1)))) <|
 gd (decide ((WR .i64 ((x0n:Int)+x1)) * 1<=281474976710656/\(WR .i64 ((x0n:Int)+x1))<=9223372036854775807)) <|
 nw w (zeros ((WR .i64 ((x0n:Int)+x1))).toNat [VI .u8 0]) 5 fun b1 w2 =>
 cpy w2 1 (some ⟨b1,0,none⟩) (((x0n:Int)).toNat) (VS x0A x0n x0c) fun n3 w4 =>
 Q (VS (some ⟨b1,0,none⟩) ((x0n:Int)).toNat ((WR .i64 ((x0n:Int)+x1))).toNat) w4
def F103.an:Ann:=⟨[],[]⟩
theorem F103.of (x0A:Option Addr) (x0n x0c:Nat) (x1:Int) (w:World) {Q:QT} (h:F103.vc x0A x0n x0c x1 w Q):Calls Tryz.prog 103 #[VS x0A x0n x0c,VI .i64 x1] w (fun e w'=>∃ v,e=.returned v/\Q v w'):=vcFn_of (A:=F103.an) noCount mixed h (by kernel_rfl)
def F75.b5c (Q:QT) (C5:(Int×ST×Int×Int×Unit)->WT) (x1:Int) (x7:ST) (x17:Int) (x18:Int) (w:World):Prop :=
 vIf (decide (x18 < x17))
 (nw w ([VI .u8 (WR .u8 x1)] ++ []) 5 fun b6 w7 =>
 app w7 1 1 [VI .u8 0] 5 x7.1 x7.2.1 x7.2.2 (VS (some ⟨b6,0,none⟩) 1 1) fun A8 n9 c10 w11 =>
 jnC C5 (((Int.fdiv x1 (2 ^ 8))),(A8,n9,c10),x17,((WR .i64 (x18+1))),()) w11)
 (Q (VS x7.1 x7.2.1 x7.2.2) w)
def F75.b5 (Q:QT):(Int×ST×Int×Int×Unit)->World->((Int×ST×Int×Int×Unit)->WT)->Prop:=fun s w C5=>∀ _:Nat->Value,F75.b5c Q C5 s.1 s.2.1 s.2.2.1 s.2.2.2.1 w
def F75.l5 (Q:QT):(Int×ST×Int×Int×Unit)->WT:=fun s w=>∃ n,loopC (F75.b5 Q) n s w
def F75.k4c (Q:QT) (x1:Int) (x2:Int) (x7:ST) (w:World):Prop :=
 jnC (F75.l5 Q) (x1,(x7.1,x7.2.1,x7.2.2),x2,(0),()) w
def F75.k4 (Q:QT):(Int×Int×ST×Unit)->WT:=fun s w=>∀ _:Nat->Value,F75.k4c Q s.1 s.2.1 s.2.2.1 w
def F75.vc (x0A:Option Addr) (x0n x0c:Nat) (x1:Int) (x2:Int) (w:World) (Q:QT):Prop :=
 Calls Tryz.prog 103 #[VS x0A x0n x0c,VI .i64 8] w fun e2 w1 =>
 ∃ (A3:Option Addr) (n4 c5:Nat),e2=.returned (VS A3 n4 c5)/\(
 vIf (decide (x2 < 1))
 (Q (VS A3 n4 c5) w1)
 (vIf (decide (x2 > 8))
 (Q (VS A3 n4 c5) w1)
 (jnC (F75.k4 Q) (x1,x2,(A3,n4,c5),()) w1)))
def F75.an:Ann:=⟨[(5,[(1,.kI .u64),(7,.kSl),(17,.kI .i64),(18,.kI .i64)])],[(4,[(1,.kI .u64),(2,.kI .i64),(7,.kSl)])]⟩
theorem F75.of (x0A:Option Addr) (x0n x0c:Nat) (x1:Int) (x2:Int) (w:World) {Q:QT} (h:F75.vc x0A x0n x0c x1 x2 w Q):Calls Tryz.prog 75 #[VS x0A x0n x0c,VI .u64 x1,VI .i64 x2] w (fun e w'=>∃ v,e=.returned v/\Q v w'):=vcFn_of (A:=F75.an) noCount mixed h (by kernel_rfl)
def F73.vc (x0A:Option Addr) (x0n x0c:Nat) (x1:ByteArray) (w:World) (Q:QT):Prop :=
 Calls Tryz.prog 103 #[VS x0A x0n x0c,VI .i64 (WR .i64 ((x1.size:Int)+1))] w fun e2 w1 =>
 ∃ (A3:Option Addr) (n4 c5:Nat),e2=.returned (VS A3 n4 c5)/\(
 vIf (decide ((x1.size:Int) > 255))
 (Q (VT #[VS A3 n4 c5,VB false]) w1)
 (nw w1 ([VI .u8 (WR .u8 (x1.size:Int))] ++ []) 5 fun b6 w7 =>
 app w7 1 1 [VI .u8 0] 5 A3 n4 c5 (VS (some ⟨b6,0,none⟩) 1 1) fun A8 n9 c10 w11 =>
 app w11 1 1 [VI .u8 0] 5 A8 n9 c10 (VG x1) fun A12 n13 c14 w15 =>
 Q (VT #[VS A12 n13 c14,VB true]) w15))
def F73.an:Ann:=⟨[],[]⟩
theorem F73.of (x0A:Option Addr) (x0n x0c:Nat) (x1:ByteArray) (w:World) {Q:QT} (h:F73.vc x0A x0n x0c x1 w Q):Calls Tryz.prog 73 #[VS x0A x0n x0c,VG x1] w (fun e w'=>∃ v,e=.returned v/\Q v w'):=vcFn_of (A:=F73.an) noCount mixed h (by kernel_rfl)
def F102.vc (x0A:Option Addr) (x0n x0c:Nat) (w:World) (Q:QT):Prop :=
 Calls Tryz.prog 65 #[VS x0A x0n x0c] w fun e2 w1 =>
 ∃ i3:Int,e2=.returned (VI .u32 i3)/\(
 Calls Tryz.prog 75 #[VS x0A x0n x0c,VI .u64 (WR .u64 i3),VI .i64 4] w1 fun e5 w4 =>
 ∃ (A6:Option Addr) (n7 c8:Nat),e5=.returned (VS A6 n7 c8)/\(
 Q (VS A6 n7 c8) w4))
def F102.an:Ann:=⟨[],[]⟩
theorem F102.of (x0A:Option Addr) (x0n x0c:Nat) (w:World) {Q:QT} (h:F102.vc x0A x0n x0c w Q):Calls Tryz.prog 102 #[VS x0A x0n x0c] w (fun e w'=>∃ v,e=.returned v/\Q v w'):=vcFn_of (A:=F102.an) noCount mixed h (by kernel_rfl)
def F72.vc (x0:Int) (x1:Int) (x2A:Option Addr) (x2n x2c:Nat) (w:World) (Q:QT):Prop :=
 Calls Tryz.prog 75 #[VS none 0 0,VI .u64 (WR .u64 x0),VI .i64 1] w fun e2 w1 =>
 ∃ (A3:Option Addr) (n4 c5:Nat),e2=.returned (VS A3 n4 c5)/\(
 Calls Tryz.prog 75 #[VS A3 n4 c5,VI .u64 x1,VI .i64 8] w1 fun e7 w6 =>
 ∃ (A8:Option Addr) (n9 c10:Nat),e7=.returned (VS A8 n9 c10)/\(
 Calls Tryz.prog 75 #[VS A8 n9 c10,VI .u64 (WR .u64 (x2n:Int)),VI .i64 4] w6 fun e12 w11 =>
 ∃ (A13:Option Addr) (n14 c15:Nat),e12=.returned (VS A13 n14 c15)/\(
 Calls Tryz.prog 102 #[VS A13 n14 c15] w11 fun e17 w16 =>
 ∃ (A18:Option Addr) (n19 c20:Nat),e17=.returned (VS A18 n19 c20)/\(
 app w16 1 1 [VI .u8 0] 5 A18 n19 c20 (VS x2A x2n x2c) fun A21 n22 c23 w24 =>
 Calls Tryz.prog 102 #[VS A21 n22 c23] w24 fun e26 w25 =>
 ∃ (A27:Option Addr) (n28 c29:Nat),e26=.returned (VS A27 n28 c29)/\(
 Q (VS A27 n28 c29) w25)))))
def F72.an:Ann:=⟨[],[]⟩
theorem F72.of (x0:Int) (x1:Int) (x2A:Option Addr) (x2n x2c:Nat) (w:World) {Q:QT} (h:F72.vc x0 x1 x2A x2n x2c w Q):Calls Tryz.prog 72 #[VI .i64 x0,VI .u64 x1,VS x2A x2n x2c] w (fun e w'=>∃ v,e=.returned v/\Q v w'):=vcFn_of (A:=F72.an) noCount mixed h (by kernel_rfl)
def F48.k12c (Q:QT) (x1:NT) (x3:ST) (w:World):Prop :=
 app w 1 1 [VI .u8 0] 5 x3.1 x3.2.1 x3.2.2 (VS (some ⟨x1.1,(x1.2+2),none⟩) 32 32) fun A12 n13 c14 w15 =>
 Q (VS A12 n13 c14) w15
def F48.k12 (Q:QT):(NT×ST×Unit)->WT:=fun s w=>∀ _:Nat->Value,F48.k12c Q s.1 s.2.1 w
def F48.k9c (Q:QT) (x1:NT) (x3:ST) (w:World):Prop :=
 ldS w x1.1 (x1.2+34) fun s4 =>
 Calls Tryz.prog 73 #[VS x3.1 x3.2.1 x3.2.2,VG s4] w fun e6 w5 =>
 ∃ (A7:Option Addr) (n8 c9:Nat),∃ t10:Bool,e6=.returned (VT #[VS A7 n8 c9,VB t10])/\(
 ldI .i64 w5 x1.1 x1.2 fun i11 =>
 vIf (i11 == 4)
 (Q (VS A7 n8 c9) w5)
 (jnC (F48.k12 Q) ((x1.1,x1.2),(A7,n8,c9),()) w5))
def F48.k9 (Q:QT):(NT×ST×Unit)->WT:=fun s w=>∀ _:Nat->Value,F48.k9c Q s.1 s.2.1 w
def F48.k13c (Q:QT) (x1:NT) (w:World):Prop :=
 ldSl w.drew x1.1 (x1.2+35) fun A16 n17 c18 =>
 nw w.drew ([VS (some ⟨x1.1,(x1.2+2),none⟩) 32 32] ++ ([VS A16 n17 c18] ++ [])) 32 fun b19 w20 =>
 Calls Tryz.prog 74 #[VS (some ⟨b19,0,none⟩) 2 2] w20 fun e22 w21 =>
 ∃ (A23:Option Addr) (n24 c25:Nat),e22=.returned (VS A23 n24 c25)/\(
 Q (VS A23 n24 c25) w21)
def F48.k13 (Q:QT):(NT×Unit)->WT:=fun s w=>∀ _:Nat->Value,F48.k13c Q s.1 w
def F48.k14c (Q:QT) (x1:NT) (w:World):Prop :=
 nw w ([VI .u8 115] ++ ([VI .u8 116] ++ ([VI .u8 105] ++ ([VI .u8 108] ++ ([VI .u8 108] ++ ([VI .u8 97] ++ ([VI .u8 103] ++ ([VI .u8 101] ++ [])))))))) 5 fun b26 w27 =>
 mkS w27 b26 fun w28 =>
 ldI .i64 w28 x1.1 (x1.2+36) fun i29 =>
 Calls Tryz.prog 75 #[VS (some ⟨b26,0,none⟩) 8 8,VI .u64 (WR .u64 i29),VI .i64 8] w28 fun e31 w30 =>
 ∃ (A32:Option Addr) (n33 c34:Nat),e31=.returned (VS A32 n33 c34)/\(
 Q (VS A32 n33 c34) w30)
def F48.k14 (Q:QT):(NT×Unit)->WT:=fun s w=>∀ _:Nat->Value,F48.k14c Q s.1 w
def F48.k15c (Q:QT) (x1:NT) (x3:ST) (w:World):Prop :=
 ldI .i64 w.drew x1.1 (x1.2+36) fun i35 =>
 ldI .i64 w.drew x1.1 (x1.2+37) fun i36 =>
 Calls Tryz.prog 75 #[VS x3.1 x3.2.1 x3.2.2,VI .u64 (WR .u64 i35),VI .i64 4] w.drew fun e38 w37 =>
 ∃ (A39:Option Addr) (n40 c41:Nat),e38=.returned (VS A39 n40 c41)/\(
 kp w.drew x1.1 (x1.2+37) 1 w37 <|
 Calls Tryz.prog 75 #[VS A39 n40 c41,VI .u64 (WR .u64 i36),VI .i64 4] w37 fun e43 w42 =>
 ∃ (A44:Option Addr) (n45 c46:Nat),e43=.returned (VS A44 n45 c46)/\(
 Q (VS A44 n45 c46) w42))
def F48.k15 (Q:QT):(NT×ST×Unit)->WT:=fun s w=>∀ _:Nat->Value,F48.k15c Q s.1 s.2.1 w
def F48.k5c (Q:QT) (x1:NT) (x3:ST) (x5:Int) (w:World):Prop :=
 vIf (x5 == 5)
 (jnC (F48.k12 Q) ((x1.1,x1.2),(x3.1,x3.2.1,x3.2.2),()) w)
 (vIf (x5 == 1)
 (vIf (x5 == 1)
 (jnC (F48.k13 Q) ((x1.1,x1.2),()) w)
 (vIf (x5 == 7)
 (jnC (F48.k14 Q) ((x1.1,x1.2),()) w)
 (jnC (F48.k15 Q) ((x1.1,x1.2),(x3.1,x3.2.1,x3.2.2),()) w)))
 (vIf (x5 == 2)
 (jnC (F48.k13 Q) ((x1.1,x1.2),()) w)
 (vIf (x5 == 7)
 (jnC (F48.k14 Q) ((x1.1,x1.2),()) w)
 (jnC (F48.k15 Q) ((x1.1,x1.2),(x3.1,x3.2.1,x3.2.2),()) w))))
def F48.k5 (Q:QT):(NT×ST×Int×Unit)->WT:=fun s w=>∀ _:Nat->Value,F48.k5c Q s.1 s.2.1 s.2.2.1 w
def F48.vc (x0:List Value) (w:World) (Q:QT):Prop :=
 nw w x0 34 fun b1 w2 =>
 ldI .i64 w2 b1 0 fun i3 =>
 vIf (i3 == 3)
 (vIf (i3 == 3)
 (jnC (F48.k9 Q) ((b1,0),(none,0,0),()) w2)
 (jnC (F48.k5 Q) ((b1,0),(none,0,0),i3,()) w2))
 (vIf (i3 == 4)
 (jnC (F48.k9 Q) ((b1,0),(none,0,0),()) w2)
 (jnC (F48.k5 Q) ((b1,0),(none,0,0),i3,()) w2))
def F48.an:Ann:=⟨[],[(5,[(1,.kL),(3,.kSl),(5,.kI .i64)]),(9,[(1,.kL),(3,.kSl)]),(12,[(1,.kL),(3,.kSl)]),(13,[(1,.kL)]),(14,[(1,.kL)]),(15,[(1,.kL),(3,.kSl)])]⟩
theorem F48.of (x0:List Value) (w:World) {Q:QT} (h:F48.vc x0 w Q):Calls Tryz.prog 48 #[ofL x0] w (fun e w'=>∃ v,e=.returned v/\Q v w'):=vcFn_of (A:=F48.an) noCount mixed h (by kernel_rfl)
def F46.vc (x0:List Value) (w:World) (Q:QT):Prop :=
 nw w x0 34 fun b1 w2 =>
 ldA 38 w2 b1 0 fun a3 =>
 Calls Tryz.prog 23 #[ofL a3] w2 fun e5 w4 =>
 ∃ i6:Int,e5=.returned (VI .i64 i6)/\(
 vIf (i6 != 0)
 (Q (VT #[VS none 0 0,VI .i64 i6]) w4)
 (ldI .i64 w4.drew b1 0 fun i7 =>
 ldI .u64 w4.drew b1 (0+1) fun i8 =>
 ldA 38 w4.drew b1 0 fun a9 =>
 Calls Tryz.prog 48 #[ofL a9] w4.drew fun e11 w10 =>
 ∃ (A12:Option Addr) (n13 c14:Nat),e11=.returned (VS A12 n13 c14)/\(
 kp w4.drew b1 (0+1) 1 w10 <|
 kp w4.drew b1 0 1 w10 <|
 Calls Tryz.prog 72 #[VI .i64 i7,VI .u64 i8,VS A12 n13 c14] w10 fun e16 w15 =>
 ∃ (A17:Option Addr) (n18 c19:Nat),e16=.returned (VS A17 n18 c19)/\(
 Q (VT #[VS A17 n18 c19,VI .i64 0]) w15))))
def F46.an:Ann:=⟨[],[]⟩
theorem F46.of (x0:List Value) (w:World) {Q:QT} (h:F46.vc x0 w Q):Calls Tryz.prog 46 #[ofL x0] w (fun e w'=>∃ v,e=.returned v/\Q v w'):=vcFn_of (A:=F46.an) noCount mixed h (by kernel_rfl)
def F27.vc (x0:List Value) (w:World) (Q:QT):Prop :=
 nw w x0 34 fun b1 w2 =>
 ldA 38 w2 b1 0 fun a3 =>
 Calls Tryz.prog 23 #[ofL a3] w2 fun e5 w4 =>
 ∃ i6:Int,e5=.returned (VI .i64 i6)/\(
 vIf (i6 != 0)
 (Q (VI .i64 0) w4)
 (ldA 38 w4 b1 0 fun a7 =>
 Calls Tryz.prog 48 #[ofL a7] w4 fun e9 w8 =>
 ∃ (A10:Option Addr) (n11 c12:Nat),e9=.returned (VS A10 n11 c12)/\(
 Calls Tryz.prog 39 #[VI .i64 (n11:Int)] w8 fun e14 w13 =>
 ∃ i15:Int,e14=.returned (VI .i64 i15)/\(
 Q (VI .i64 i15) w13))))
def F27.an:Ann:=⟨[],[]⟩
theorem F27.of (x0:List Value) (w:World) {Q:QT} (h:F27.vc x0 w Q):Calls Tryz.prog 27 #[ofL x0] w (fun e w'=>∃ v,e=.returned v/\Q v w'):=vcFn_of (A:=F27.an) noCount mixed h (by kernel_rfl)
def F77.vc (x0:Int) (x1:Int) (w:World) (Q:QT):Prop :=
 Calls Tryz.prog 46 #[ofL ([VI .i64 7] ++ ([VI .u64 x1] ++ ([VI .u8 0,VI .u8 0,VI .u8 0,VI .u8 0,VI .u8 0,VI .u8 0,VI .u8 0,VI .u8 0,VI .u8 0,VI .u8 0,VI .u8 0,VI .u8 0,VI .u8 0,VI .u8 0,VI .u8 0,VI .u8 0,VI .u8 0,VI .u8 0,VI .u8 0,VI .u8 0,VI .u8 0,VI .u8 0,VI .u8 0,VI .u8 0,VI .u8 0,VI .u8 0,VI .u8 0,VI .u8 0,VI .u8 0,VI .u8 0,VI .u8 0,VI .u8 0] ++ ([VG (⟨#[]⟩:ByteArray)] ++ ([VS none 0 0] ++ ([VI .i64 x0] ++ ([VI .i64 0] ++ [])))))))] w fun e2 w1 =>
 ∃ (A3:Option Addr) (n4 c5:Nat),∃ i6:Int,e2=.returned (VT #[VS A3 n4 c5,VI .i64 i6])/\(
 Q (VS A3 n4 c5) w1)
def F77.an:Ann:=⟨[],[]⟩
theorem F77.of (x0:Int) (x1:Int) (w:World) {Q:QT} (h:F77.vc x0 x1 w Q):Calls Tryz.prog 77 #[VI .i64 x0,VI .u64 x1] w (fun e w'=>∃ v,e=.returned v/\Q v w'):=vcFn_of (A:=F77.an) noCount mixed h (by kernel_rfl)
def F105.vc (x0:Int) (x1:Int) (x2:Int) (w:World) (Q:QT):Prop :=
 Calls Tryz.prog 46 #[ofL ([VI .i64 8] ++ ([VI .u64 x2] ++ ([VI .u8 0,VI .u8 0,VI .u8 0,VI .u8 0,VI .u8 0,VI .u8 0,VI .u8 0,VI .u8 0,VI .u8 0,VI .u8 0,VI .u8 0,VI .u8 0,VI .u8 0,VI .u8 0,VI .u8 0,VI .u8 0,VI .u8 0,VI .u8 0,VI .u8 0,VI .u8 0,VI .u8 0,VI .u8 0,VI .u8 0,VI .u8 0,VI .u8 0,VI .u8 0,VI .u8 0,VI .u8 0,VI .u8 0,VI .u8 0,VI .u8 0,VI .u8 0] ++ ([VG (⟨#[]⟩:ByteArray)] ++ ([VS none 0 0] ++ ([VI .i64 x0] ++ ([VI .i64 x1] ++ [])))))))] w fun e2 w1 =>
 ∃ (A3:Option Addr) (n4 c5:Nat),∃ i6:Int,e2=.returned (VT #[VS A3 n4 c5,VI .i64 i6])/\(
 Q (VS A3 n4 c5) w1)
def F105.an:Ann:=⟨[],[]⟩
theorem F105.of (x0:Int) (x1:Int) (x2:Int) (w:World) {Q:QT} (h:F105.vc x0 x1 x2 w Q):Calls Tryz.prog 105 #[VI .i64 x0,VI .i64 x1,VI .u64 x2] w (fun e w'=>∃ v,e=.returned v/\Q v w'):=vcFn_of (A:=F105.an) noCount mixed h (by kernel_rfl)
def F45.b10c (Q:QT) (C10:(ST×Int×Int×Unit)->WT) (x22:ST) (x23:Int) (x24:Int) (w:World):Prop :=
 vIf (decide (x24 < x23))
 (dr x22.1 fun b11 o12 =>
 gd (decide (0<=x24)) <|
 gd (decide (x24 < (x22.2.1:Int))) <|
 ldA 38 w b11 (o12+(x24).toNat * 38) fun a13 =>
 nw w Z34 34 fun b14 w15 =>
 gd (a13.length == 38) <|
 st w15 b14 0 a13 fun w16 =>
 ldA 38 w16 b14 0 fun a17 =>
 Calls Tryz.prog 23 #[ofL a17] w16 fun e19 w18 =>
 ∃ i20:Int,e19=.returned (VI .i64 i20)/\(
 vIf (i20 != 0)
 (Q (VI .i64 i20) w18)
 (jnC C10 ((x22.1,x22.2.1,x22.2.2),x23,((WR .i64 (x24+1))),()) w18)))
 (Q (VI .i64 0) w)
def F45.b10 (Q:QT):(ST×Int×Int×Unit)->World->((ST×Int×Int×Unit)->WT)->Prop:=fun s w C10=>∀ _:Nat->Value,F45.b10c Q C10 s.1 s.2.1 s.2.2.1 w
def F45.l10 (Q:QT):(ST×Int×Int×Unit)->WT:=fun s w=>∃ n,loopC (F45.b10 Q) n s w
def F45.b4c (Q:QT) (C4:(ST×ST×Int×Int×Unit)->WT) (x0:ST) (x11:ST) (x12:Int) (x13:Int) (w:World):Prop :=
 vIf (decide (x13 < x12))
 (dr x11.1 fun b1 o2 =>
 gd (decide (0<=x13)) <|
 gd (decide (x13 < (x11.2.1:Int))) <|
 ldA 38 w b1 (o2+(x13).toNat * 38) fun a3 =>
 nw w Z34 34 fun b4 w5 =>
 gd (a3.length == 38) <|
 st w5 b4 0 a3 fun w6 =>
 ldI .i64 w6 b4 0 fun i7 =>
 Calls Tryz.prog 71 #[VI .i64 i7] w6 fun e9 w8 =>
 ∃ t10:Bool,e9=.returned (VB t10)/\(
 vIf (!t10)
 (Q (VI .i64 2) w8)
 (jnC C4 ((x0.1,x0.2.1,x0.2.2),(x11.1,x11.2.1,x11.2.2),x12,((WR .i64 (x13+1))),()) w8)))
 (jnC (F45.l10 Q) ((x0.1,x0.2.1,x0.2.2),((x0.2.1:Int)),(0),()) w)
def F45.b4 (Q:QT):(ST×ST×Int×Int×Unit)->World->((ST×ST×Int×Int×Unit)->WT)->Prop:=fun s w C4=>∀ _:Nat->Value,F45.b4c Q C4 s.1 s.2.1 s.2.2.1 s.2.2.2.1 w
def F45.l4 (Q:QT):(ST×ST×Int×Int×Unit)->WT:=fun s w=>∃ n,loopC (F45.b4 Q) n s w
def F45.vc (x0A:Option Addr) (x0n x0c:Nat) (w:World) (Q:QT):Prop :=
 vIf ((x0n:Int) == 0)
 (Q (VI .i64 2) w)
 (jnC (F45.l4 Q) ((x0A,x0n,x0c),(x0A,x0n,x0c),((x0n:Int)),(0),()) w)
def F45.an:Ann:=⟨[(4,[(0,.kSl),(11,.kSl),(12,.kI .i64),(13,.kI .i64)]),(10,[(22,.kSl),(23,.kI .i64),(24,.kI .i64)])],[]⟩
theorem F45.of (x0A:Option Addr) (x0n x0c:Nat) (w:World) {Q:QT} (h:F45.vc x0A x0n x0c w Q):Calls Tryz.prog 45 #[VS x0A x0n x0c] w (fun e w'=>∃ v,e=.returned v/\Q v w'):=vcFn_of (A:=F45.an) noCount mixed h (by kernel_rfl)
def F47.vc (x0:Int) (x1:Int) (x2:Int) (w:World) (Q:QT):Prop :=
 nw w Z34 34 fun b1 w2 =>
 gd (([VI .i64 6] ++ ([VI .u64 x2] ++ ([VI .u8 0,VI .u8 0,VI .u8 0,VI .u8 0,VI .u8 0,VI .u8 0,VI .u8 0,VI .u8 0,VI .u8 0,VI .u8 0,VI .u8 0,VI .u8 0,VI .u8 0,VI .u8 0,VI .u8 0,VI .u8 0,VI .u8 0,VI .u8 0,VI .u8 0,VI .u8 0,VI .u8 0,VI .u8 0,VI .u8 0,VI .u8 0,VI .u8 0,VI .u8 0,VI .u8 0,VI .u8 0,VI .u8 0,VI .u8 0,VI .u8 0,VI .u8 0] ++ ([VG (⟨#[]⟩:ByteArray)] ++ ([VS none 0 0] ++ ([VI .i64 x0] ++ ([VI .i64 x1] ++ []))))))).length == 38) <|
 st w2 b1 0 ([VI .i64 6] ++ ([VI .u64 x2] ++ ([VI .u8 0,VI .u8 0,VI .u8 0,VI .u8 0,VI .u8 0,VI .u8 0,VI .u8 0,VI .u8 0,VI .u8 0,VI .u8 0,VI .u8 0,VI .u8 0,VI .u8 0,VI .u8 0,VI .u8 0,VI .u8 0,VI .u8 0,VI .u8 0,VI .u8 0,VI .u8 0,VI .u8 0,VI .u8 0,VI .u8 0,VI .u8 0,VI .u8 0,VI .u8 0,VI .u8 0,VI .u8 0,VI .u8 0,VI .u8 0,VI .u8 0,VI .u8 0] ++ ([VG (⟨#[]⟩:ByteArray)] ++ ([VS none 0 0] ++ ([VI .i64 x0] ++ ([VI .i64 x1] ++ []))))))) fun w3 =>
 ldA 38 w3 b1 0 fun a4 =>
 Q (ofL a4) w3
def F47.an:Ann:=⟨[],[]⟩
theorem F47.of (x0:Int) (x1:Int) (x2:Int) (w:World) {Q:QT} (h:F47.vc x0 x1 x2 w Q):Calls Tryz.prog 47 #[VI .i64 x0,VI .i64 x1,VI .u64 x2] w (fun e w'=>∃ v,e=.returned v/\Q v w'):=vcFn_of (A:=F47.an) noCount mixed h (by kernel_rfl)
def F26.b9c (Q:QT) (C9:(ST×ST×Int×ST×Int×Int×Unit)->WT) (x0:ST) (x8:ST) (x9:Int) (x30:ST) (x31:Int) (x32:Int) (w:World):Prop :=
 vIf (decide (x32 < x31))
 (dr x30.1 fun b4 o5 =>
 gd (decide (0<=x32)) <|
 gd (decide (x32 < (x30.2.1:Int))) <|
 ldA 38 w b4 (o5+(x32).toNat * 38) fun a6 =>
 nw w Z34 34 fun b7 w8 =>
 gd (a6.length == 38) <|
 st w8 b7 0 a6 fun w9 =>
 st w9 b7 (0+1) [VI .u64 x9] fun w10 =>
 ldA 38 w10 b7 0 fun a11 =>
 Calls Tryz.prog 46 #[ofL a11] w10 fun e13 w12 =>
 ∃ (A14:Option Addr) (n15 c16:Nat),∃ i17:Int,e13=.returned (VT #[VS A14 n15 c16,VI .i64 i17])/\(
 app w12 1 1 [VI .u8 0] 5 x8.1 x8.2.1 x8.2.2 (VS A14 n15 c16) fun A18 n19 c20 w21 =>
 jnC C9 ((x0.1,x0.2.1,x0.2.2),(A18,n19,c20),((WR .u64 (x9+1))),(x30.1,x30.2.1,x30.2.2),x31,((WR .i64 (x32+1))),()) w21))
 (Calls Tryz.prog 47 #[VI .i64 (x0.2.1:Int),VI .i64 (x8.2.1:Int),VI .u64 x9] w fun e23 w22 =>
 ∃ a24:List Value,e23=.returned (ofL a24)/\(
 Calls Tryz.prog 46 #[ofL a24] w22 fun e26 w25 =>
 ∃ (A27:Option Addr) (n28 c29:Nat),∃ i30:Int,e26=.returned (VT #[VS A27 n28 c29,VI .i64 i30])/\(
 app w25 1 1 [VI .u8 0] 5 x8.1 x8.2.1 x8.2.2 (VS A27 n28 c29) fun A31 n32 c33 w34 =>
 Q (VT #[VS A31 n32 c33,VI .u64 (WR .u64 (x9+1)),VI .i64 0]) w34)))
def F26.b9 (Q:QT):(ST×ST×Int×ST×Int×Int×Unit)->World->((ST×ST×Int×ST×Int×Int×Unit)->WT)->Prop:=fun s w C9=>∀ _:Nat->Value,F26.b9c Q C9 s.1 s.2.1 s.2.2.1 s.2.2.2.1 s.2.2.2.2.1 s.2.2.2.2.2.1 w
def F26.l9 (Q:QT):(ST×ST×Int×ST×Int×Int×Unit)->WT:=fun s w=>∃ n,loopC (F26.b9 Q) n s w
def F26.vc (x0A:Option Addr) (x0n x0c:Nat) (x1:Int) (w:World) (Q:QT):Prop :=
 Calls Tryz.prog 45 #[VS x0A x0n x0c] w fun e2 w1 =>
 ∃ i3:Int,e2=.returned (VI .i64 i3)/\(
 vIf (i3 != 0)
 (Q (VT #[VS none 0 0,VI .u64 x1,VI .i64 i3]) w1)
 (vIf (decide ((WR .u64 (x0n:Int)) >= (WR .u64 (18446744073709551615 - x1))))
 (Q (VT #[VS none 0 0,VI .u64 x1,VI .i64 20]) w1)
 (jnC (F26.l9 Q) ((x0A,x0n,x0c),(none,0,0),x1,(x0A,x0n,x0c),((x0n:Int)),(0),()) w1)))
def F26.an:Ann:=⟨[(9,[(0,.kSl),(8,.kSl),(9,.kI .u64),(30,.kSl),(31,.kI .i64),(32,.kI .i64)])],[]⟩
theorem F26.of (x0A:Option Addr) (x0n x0c:Nat) (x1:Int) (w:World) {Q:QT} (h:F26.vc x0A x0n x0c x1 w Q):Calls Tryz.prog 26 #[VS x0A x0n x0c,VI .u64 x1] w (fun e w'=>∃ v,e=.returned v/\Q v w'):=vcFn_of (A:=F26.an) noCount mixed h (by kernel_rfl)
def F78.k8c (Q:QT) (x0:Option Addr) (w:World):Prop :=
 dr x0 fun b9 o10 =>
 ldI .i64 w b9 (o10+15) fun i11 =>
 Q (VI .i64 i11) w
def F78.k8 (Q:QT):(Option Addr×Unit)->WT:=fun s w=>∀ _:Nat->Value,F78.k8c Q s.1 w
def F78.k5c (Q:QT) (C2:(Option Addr×ST×Int×Int×Unit)->WT) (x0:Option Addr) (x7:Int) (x8:ST) (x9:Int) (x10:Int) (w:World):Prop :=
 vIf (x7 != 0)
 (dr x0 fun b6 o7 =>
 st w b6 (o7+15) [VI .i64 x7] fun w8 =>
 jnC (F78.k8 Q) (x0,()) w8)
 (jnC C2 (x0,(x8.1,x8.2.1,x8.2.2),x9,((WR .i64 (x10+1))),()) w)
def F78.k5 (Q:QT) (C2:(Option Addr×ST×Int×Int×Unit)->WT):(Option Addr×Int×ST×Int×Int×Unit)->WT:=fun s w=>∀ _:Nat->Value,F78.k5c Q C2 s.1 s.2.1 s.2.2.1 s.2.2.2.1 s.2.2.2.2.1 w
def F78.b2c (Q:QT) (C2:(Option Addr×ST×Int×Int×Unit)->WT) (x0:Option Addr) (x8:ST) (x9:Int) (x10:Int) (w:World):Prop :=
 vIf (decide (x10 < x9))
 (dr x8.1 fun b1 o2 =>
 gd (decide (0<=x10)) <|
 gd (decide (x10 < (x8.2.1:Int))) <|
 ldV w b1 (o2+(x10).toNat * 1) fun v3 =>
 vcCallU Tryz.prog v3 [] w fun v4 w5 =>
 gd (SK.ok (SK.kI .i64) v4 && true) (jnC (F78.k5 Q C2) (x0,(SK.dec (SK.kI .i64) v4),(x8.1,x8.2.1,x8.2.2),x9,x10,()) w5))
 (jnC (F78.k8 Q) (x0,()) w)
def F78.b2 (Q:QT):(Option Addr×ST×Int×Int×Unit)->World->((Option Addr×ST×Int×Int×Unit)->WT)->Prop:=fun s w C2=>∀ _:Nat->Value,F78.b2c Q C2 s.1 s.2.1 s.2.2.1 s.2.2.2.1 w
def F78.l2 (Q:QT):(Option Addr×ST×Int×Int×Unit)->WT:=fun s w=>∃ n,loopC (F78.b2 Q) n s w
def F78.vc (x0:Option Addr) (x1A:Option Addr) (x1n x1c:Nat) (w:World) (Q:QT):Prop :=
 jnC (F78.l2 Q) (x0,(x1A,x1n,x1c),((x1n:Int)),(0),()) w
def F78.an:Ann:=⟨[(2,[(0,.kP),(8,.kSl),(9,.kI .i64),(10,.kI .i64)])],[(5,[(0,.kP),(7,.kI .i64),(8,.kSl),(9,.kI .i64),(10,.kI .i64)]),(8,[(0,.kP)])]⟩
theorem F78.of (x0:Option Addr) (x1A:Option Addr) (x1n x1c:Nat) (w:World) {Q:QT} (h:F78.vc x0 x1A x1n x1c w Q):Calls Tryz.prog 78 #[VP x0,VS x1A x1n x1c] w (fun e w'=>∃ v,e=.returned v/\Q v w'):=vcFn_of (A:=F78.an) noCount mixed h (by kernel_rfl)
def F35.k4c (Q:QT) (x0:Int) (x3:NT) (w:World):Prop :=
 gd (decide (0<=x0)) <|
 gd (decide (x0 < 4)) <|
 ldS w x3.1 (x3.2+(x0).toNat * 1) fun s4 =>
 Q (VG s4) w
def F35.k4 (Q:QT):(Int×NT×Unit)->WT:=fun s w=>∀ _:Nat->Value,F35.k4c Q s.1 s.2.1 w
def F35.vc (x0:Int) (w:World) (Q:QT):Prop :=
 nw w Z124 124 fun b1 w2 =>
 gd (([VG (⟨#[]⟩:ByteArray)] ++ ([VG (⟨#[115,101,103,45]⟩:ByteArray)] ++ ([VG (⟨#[104,105,110,116,45]⟩:ByteArray)] ++ ([VG (⟨#[112,111,105,110,116,45]⟩:ByteArray)] ++ [])))).length == 4) <|
 st w2 b1 0 ([VG (⟨#[]⟩:ByteArray)] ++ ([VG (⟨#[115,101,103,45]⟩:ByteArray)] ++ ([VG (⟨#[104,105,110,116,45]⟩:ByteArray)] ++ ([VG (⟨#[112,111,105,110,116,45]⟩:ByteArray)] ++ [])))) fun w3 =>
 vIf (decide (x0<=0))
 (Q (VG (⟨#[]⟩:ByteArray)) w3)
 (vIf (decide (x0 >= 4))
 (Q (VG (⟨#[]⟩:ByteArray)) w3)
 (jnC (F35.k4 Q) (x0,(b1,0),()) w3))
def F35.an:Ann:=⟨[],[(4,[(0,.kI .i64),(3,.kL)])]⟩
theorem F35.of (x0:Int) (w:World) {Q:QT} (h:F35.vc x0 w Q):Calls Tryz.prog 35 #[VI .i64 x0] w (fun e w'=>∃ v,e=.returned v/\Q v w'):=vcFn_of (A:=F35.an) noCount mixed h (by kernel_rfl)
def F19.k4c (Q:QT) (x1:Int) (x5:ByteArray) (w:World):Prop :=
 Calls Tryz.prog 36 #[VI .i64 x1] w fun e5 w4 =>
 ∃ s6:ByteArray,e5=.returned (VG s6)/\(
 Calls Tryz.prog 37 #[VG (⟨#[48]⟩:ByteArray),VI .i64 (WR .i64 (8 - (s6.size:Int)))] w4 fun e8 w7 =>
 ∃ s9:ByteArray,e8=.returned (VG s9)/\(
 gd (decide (x5.size+s9.size<=9223372036854775807)) <|
 gd (decide ((x5 ++ s9).size+s6.size<=9223372036854775807)) <|
 Q (VG ((x5 ++ s9) ++ s6)) w7))
def F19.k4 (Q:QT):(Int×ByteArray×Unit)->WT:=fun s w=>∀ _:Nat->Value,F19.k4c Q s.1 s.2.1 w
def F19.vc (x0:Int) (x1:Int) (w:World) (Q:QT):Prop :=
 Calls Tryz.prog 35 #[VI .i64 x0] w fun e2 w1 =>
 ∃ s3:ByteArray,e2=.returned (VG s3)/\(
 vIf (s3.toList == (⟨#[]⟩:ByteArray).toList)
 (Q (VG (⟨#[]⟩:ByteArray)) w1)
 (vIf (decide (x1 < 1))
 (Q (VG (⟨#[]⟩:ByteArray)) w1)
 (vIf (decide (x1 > 99999999))
 (Q (VG (⟨#[]⟩:ByteArray)) w1)
 (jnC (F19.k4 Q) (x1,s3,()) w1))))
def F19.an:Ann:=⟨[],[(4,[(1,.kI .i64),(5,.kS)])]⟩
theorem F19.of (x0:Int) (x1:Int) (w:World) {Q:QT} (h:F19.vc x0 x1 w Q):Calls Tryz.prog 19 #[VI .i64 x0,VI .i64 x1] w (fun e w'=>∃ v,e=.returned v/\Q v w'):=vcFn_of (A:=F19.an) noCount mixed h (by kernel_rfl)
def F52.vc (x0:Option Addr) (x1A:Option Addr) (x1n x1c:Nat) (w:World) (Q:QT):Prop :=
 nw w [VP x0] 43 fun b1 w2 =>
 nw w2 [VS x1A x1n x1c] 32 fun b3 w4 =>
 ldP w4 b1 0 fun p5 =>
 dr p5 fun b6 o7 =>
 ldI .i64 w4 b6 (o7+7) fun i8 =>
 Calls Tryz.prog 19 #[VI .i64 1,VI .i64 i8] w4 fun e10 w9 =>
 ∃ s11:ByteArray,e10=.returned (VG s11)/\(
 nw w9 [VG (⟨#[]⟩:ByteArray)] 9 fun b12 w13 =>
 st w13 b12 0 [VG s11] fun w14 =>
 ldP w14 b1 0 fun p15 =>
 nw w14 ([Value.func (.func 86) #[] #[VP (some ⟨b1,0,none⟩),VP (some ⟨b12,0,none⟩),VP (some ⟨b3,0,none⟩)]] ++ ([Value.func (.func 87) #[] #[VP (some ⟨b1,0,none⟩),VP (some ⟨b12,0,none⟩)]] ++ [])) 84 fun b16 w17 =>
 Calls Tryz.prog 78 #[VP p15,VS (some ⟨b16,0,none⟩) 2 2] w17 fun e19 w18 =>
 ∃ i20:Int,e19=.returned (VI .i64 i20)/\(
 Q (VI .i64 i20) w18))
def F52.an:Ann:=⟨[],[]⟩
theorem F52.of (x0:Option Addr) (x1A:Option Addr) (x1n x1c:Nat) (w:World) {Q:QT} (h:F52.vc x0 x1A x1n x1c w Q):Calls Tryz.prog 52 #[VP x0,VS x1A x1n x1c] w (fun e w'=>∃ v,e=.returned v/\Q v w'):=vcFn_of (A:=F52.an) noCount mixed h (by kernel_rfl)
def F86.vc (x0:Nat×Nat) (x1:Nat×Nat) (x2:Nat×Nat) (w:World) (Q:QT):Prop :=
 ldP w.drew x0.1 x0.2 fun p1 =>
 dr p1 fun b2 o3 =>
 ldP w.drew b2 o3 fun p4 =>
 ldS w.drew x1.1 x1.2 fun s5 =>
 ldSl w.drew x2.1 x2.2 fun A6 n7 c8 =>
 Calls Tryz.prog 82 #[VP p4,VG s5,VS A6 n7 c8] w.drew fun e10 w9 =>
 ∃ i11:Int,e10=.returned (VI .i64 i11)/\(
 Q (VI .i64 i11) w9)
def F86.an:Ann:=⟨[],[]⟩
theorem F86.of (x0:Nat×Nat) (x1:Nat×Nat) (x2:Nat×Nat) (w:World) {Q:QT} (h:F86.vc x0 x1 x2 w Q):Calls Tryz.prog 86 #[VP (some ⟨x0.1,x0.2,none⟩),VP (some ⟨x1.1,x1.2,none⟩),VP (some ⟨x2.1,x2.2,none⟩)] w (fun e w'=>∃ v,e=.returned v/\Q v w'):=vcFn_of (A:=F86.an) noCount mixed h (by kernel_rfl)
def F87.vc (x0:Nat×Nat) (x1:Nat×Nat) (w:World) (Q:QT):Prop :=
 ldP w.drew x0.1 x0.2 fun p1 =>
 dr p1 fun b2 o3 =>
 ldP w.drew b2 o3 fun p4 =>
 ldS w.drew x1.1 x1.2 fun s5 =>
 Calls Tryz.prog 84 #[VP p4,VG s5] w.drew fun e7 w6 =>
 ∃ i8:Int,e7=.returned (VI .i64 i8)/\(
 Q (VI .i64 i8) w6)
def F87.an:Ann:=⟨[],[]⟩
theorem F87.of (x0:Nat×Nat) (x1:Nat×Nat) (w:World) {Q:QT} (h:F87.vc x0 x1 w Q):Calls Tryz.prog 87 #[VP (some ⟨x0.1,x0.2,none⟩),VP (some ⟨x1.1,x1.2,none⟩)] w (fun e w'=>∃ v,e=.returned v/\Q v w'):=vcFn_of (A:=F87.an) noCount mixed h (by kernel_rfl)
def F25.vc (x0:Option Addr) (w:World) (Q:QT):Prop :=
 vIf x0.isNone
 (Q (VI .i64 1) w)
 (dr x0 fun b1 o2 =>
 ldI .i64 w b1 (o2+15) fun i3 =>
 Q (VI .i64 i3) w)
def F25.an:Ann:=⟨[],[]⟩
theorem F25.of (x0:Option Addr) (w:World) {Q:QT} (h:F25.vc x0 w Q):Calls Tryz.prog 25 #[VP x0] w (fun e w'=>∃ v,e=.returned v/\Q v w'):=vcFn_of (A:=F25.an) noCount mixed h (by kernel_rfl)
def F31.k4c (Q:QT) (x0:Option Addr) (w:World):Prop :=
 dr x0 fun b9 o10 =>
 ldSl w.drew b9 (o10+12) fun A11 n12 c13 =>
 dr x0 fun b14 o15 =>
 ldI .u64 w.drew b14 ((o15+7)+4) fun i16 =>
 Calls Tryz.prog 26 #[VS A11 n12 c13,VI .u64 i16] w.drew fun e18 w17 =>
 ∃ (A19:Option Addr) (n20 c21:Nat),∃ i22:Int,∃ i23:Int,e18=.returned (VT #[VS A19 n20 c21,VI .u64 i22,VI .i64 i23])/\(
 vIf (i23 != 0)
 (Q (VI .i64 i23) w17)
 (Calls Tryz.prog 52 #[VP x0,VS A19 n20 c21] w17 fun e25 w24 =>
 ∃ i26:Int,e25=.returned (VI .i64 i26)/\(
 vIf (i26 != 0)
 (Q (VI .i64 i26) w24)
 (dr x0 fun b27 o28 =>
 ldI .i64 w24 b27 ((o28+7)+1) fun i29 =>
 dr x0 fun b30 o31 =>
 st w24 b30 ((o31+7)+1) [VI .i64 (WR .i64 (i29+(n20:Int)))] fun w32 =>
 dr x0 fun b33 o34 =>
 ldI .i64 w32.drew b33 ((o34+7)+2) fun i35 =>
 dr x0 fun b36 o37 =>
 ldSl w32.drew b36 (o37+12) fun A38 n39 c40 =>
 dr x0 fun b41 o42 =>
 st w32.drew b41 ((o42+7)+2) [VI .i64 (WR .i64 (i35+(n39:Int)))] fun w43 =>
 dr x0 fun b44 o45 =>
 st w43 b44 ((o45+7)+4) [VI .u64 i22] fun w46 =>
 dr x0 fun b47 o48 =>
 st w46 b47 (o48+12) [VS none 0 0] fun w49 =>
 dr x0 fun b50 o51 =>
 st w49 b50 (o51+13) [VS none 0 0] fun w52 =>
 dr x0 fun b53 o54 =>
 st w52 b53 (o54+14) [VI .i64 0] fun w55 =>
 Q (VI .i64 0) w55))))
def F31.k4 (Q:QT):(Option Addr×Unit)->WT:=fun s w=>∀ _:Nat->Value,F31.k4c Q s.1 w
def F31.vc (x0:Option Addr) (w:World) (Q:QT):Prop :=
 Calls Tryz.prog 25 #[VP x0] w fun e2 w1 =>
 ∃ i3:Int,e2=.returned (VI .i64 i3)/\(
 vIf (i3 != 0)
 (Q (VI .i64 i3) w1)
 (dr x0 fun b4 o5 =>
 ldSl w1 b4 (o5+12) fun A6 n7 c8 =>
 vIf ((n7:Int) == 0)
 (Q (VI .i64 i3) w1)
 (jnC (F31.k4 Q) (x0,()) w1)))
def F31.an:Ann:=⟨[],[(4,[(0,.kP)])]⟩
theorem F31.of (x0:Option Addr) (w:World) {Q:QT} (h:F31.vc x0 w Q):Calls Tryz.prog 31 #[VP x0] w (fun e w'=>∃ v,e=.returned v/\Q v w'):=vcFn_of (A:=F31.an) noCount mixed h (by kernel_rfl)
def F76.k6c (Q:QT) (x0:Option Addr) (w:World):Prop :=
 dr x0 fun b10 o11 =>
 ldI .i64 w.drew b10 ((o11+7)+2) fun i12 =>
 dr x0 fun b13 o14 =>
 ldI .i64 w.drew b13 ((o14+7)+1) fun i15 =>
 dr x0 fun b16 o17 =>
 ldI .u64 w.drew b16 ((o17+7)+4) fun i18 =>
 Calls Tryz.prog 105 #[VI .i64 i12,VI .i64 i15,VI .u64 i18] w.drew fun e20 w19 =>
 ∃ (A21:Option Addr) (n22 c23:Nat),e20=.returned (VS A21 n22 c23)/\(
 Calls Tryz.prog 52 #[VP x0,VS A21 n22 c23] w19 fun e25 w24 =>
 ∃ i26:Int,e25=.returned (VI .i64 i26)/\(
 vIf (i26 != 0)
 (Q (VI .i64 i26) w24)
 (dr x0 fun b27 o28 =>
 ldI .i64 w24 b27 ((o28+7)+1) fun i29 =>
 dr x0 fun b30 o31 =>
 st w24 b30 ((o31+7)+1) [VI .i64 (WR .i64 (i29+(n22:Int)))] fun w32 =>
 dr x0 fun b33 o34 =>
 ldI .u64 w32 b33 ((o34+7)+4) fun i35 =>
 dr x0 fun b36 o37 =>
 st w32 b36 ((o37+7)+4) [VI .u64 (WR .u64 (i35+1))] fun w38 =>
 dr x0 fun b39 o40 =>
 st w38 b39 ((o40+7)+3) [VB true] fun w41 =>
 Q (VI .i64 0) w41)))
def F76.k6 (Q:QT):(Option Addr×Unit)->WT:=fun s w=>∀ _:Nat->Value,F76.k6c Q s.1 w
def F76.vc (x0:Option Addr) (w:World) (Q:QT):Prop :=
 Calls Tryz.prog 31 #[VP x0] w fun e2 w1 =>
 ∃ i3:Int,e2=.returned (VI .i64 i3)/\(
 vIf (i3 != 0)
 (Q (VI .i64 i3) w1)
 (dr x0 fun b4 o5 =>
 ldI .i64 w1 b4 (o5+7) fun i6 =>
 vIf (i6 == 0)
 (Q (VI .i64 0) w1)
 (dr x0 fun b7 o8 =>
 ldB w1 b7 ((o8+7)+3) fun t9 =>
 vIf t9
 (Q (VI .i64 0) w1)
 (jnC (F76.k6 Q) (x0,()) w1))))
def F76.an:Ann:=⟨[],[(6,[(0,.kP)])]⟩
theorem F76.of (x0:Option Addr) (w:World) {Q:QT} (h:F76.vc x0 w Q):Calls Tryz.prog 76 #[VP x0] w (fun e w'=>∃ v,e=.returned v/\Q v w'):=vcFn_of (A:=F76.an) noCount mixed h (by kernel_rfl)
def F50.vc (x0:Option Addr) (w:World) (Q:QT):Prop :=
 nw w [VP x0] 43 fun b1 w2 =>
 ldP w2 b1 0 fun p3 =>
 Calls Tryz.prog 76 #[VP p3] w2 fun e5 w4 =>
 ∃ i6:Int,e5=.returned (VI .i64 i6)/\(
 vIf (i6 != 0)
 (Q (VI .i64 i6) w4)
 (ldP w4 b1 0 fun p7 =>
 dr p7 fun b8 o9 =>
 ldI .i64 w4 b8 (o9+7) fun i10 =>
 Calls Tryz.prog 19 #[VI .i64 1,VI .i64 (WR .i64 (i10+1))] w4 fun e12 w11 =>
 ∃ s13:ByteArray,e12=.returned (VG s13)/\(
 nw w11 [VG (⟨#[]⟩:ByteArray)] 9 fun b14 w15 =>
 st w15 b14 0 [VG s13] fun w16 =>
 ldP w16 b1 0 fun p17 =>
 dr p17 fun b18 o19 =>
 ldI .u64 w16 b18 ((o19+7)+4) fun i20 =>
 Calls Tryz.prog 77 #[VI .i64 (WR .i64 (i10+1)),VI .u64 i20] w16 fun e22 w21 =>
 ∃ (A23:Option Addr) (n24 c25:Nat),e22=.returned (VS A23 n24 c25)/\(
 nw w21 [VS none 0 0] 32 fun b26 w27 =>
 st w27 b26 0 [VS A23 n24 c25] fun w28 =>
 ldP w28.drew b1 0 fun p29 =>
 ldP w28.drew b1 0 fun p30 =>
 dr p30 fun b31 o32 =>
 ldP w28.drew b31 o32 fun p33 =>
 nw w28.drew ([Value.func (.func 79) #[] #[VP (some ⟨b1,0,none⟩),VP (some ⟨b14,0,none⟩)]] ++ ([Value.func (.func 81) #[] #[VP (some ⟨b1,0,none⟩),VP (some ⟨b14,0,none⟩),VP (some ⟨b26,0,none⟩)]] ++ ([Value.func (.func 83) #[] #[VP (some ⟨b1,0,none⟩),VP (some ⟨b14,0,none⟩)]] ++ ([Value.func (.func 85) #[VP p33] #[]] ++ [])))) 84 fun b34 w35 =>
 kp w28.drew b1 0 1 w35 <|
 Calls Tryz.prog 78 #[VP p29,VS (some ⟨b34,0,none⟩) 4 4] w35 fun e37 w36 =>
 ∃ i38:Int,e37=.returned (VI .i64 i38)/\(
 vIf (i38 == 0)
 (ldP w36.drew b1 0 fun p39 =>
 ldSl w36.drew b26 0 fun A40 n41 c42 =>
 ldP w36.drew b1 0 fun p43 =>
 dr p43 fun b44 o45 =>
 ldI .u64 w36.drew b44 ((o45+7)+4) fun i46 =>
 dr p39 fun b47 o48 =>
 gd (([VI .i64 (WR .i64 (i10+1))] ++ ([VI .i64 (n41:Int)] ++ ([VI .i64 0] ++ ([VB false] ++ ([VI .u64 (WR .u64 (i46+1))] ++ []))))).length == 5) <|
 st w36.drew b47 (o48+7) ([VI .i64 (WR .i64 (i10+1))] ++ ([VI .i64 (n41:Int)] ++ ([VI .i64 0] ++ ([VB false] ++ ([VI .u64 (WR .u64 (i46+1))] ++ []))))) fun w49 =>
 Q (VI .i64 i38) w49)
 (Q (VI .i64 i38) w36))))))
def F50.an:Ann:=⟨[],[]⟩
theorem F50.of (x0:Option Addr) (w:World) {Q:QT} (h:F50.vc x0 w Q):Calls Tryz.prog 50 #[VP x0] w (fun e w'=>∃ v,e=.returned v/\Q v w'):=vcFn_of (A:=F50.an) noCount mixed h (by kernel_rfl)
def F79.vc (x0:Nat×Nat) (x1:Nat×Nat) (w:World) (Q:QT):Prop :=
 ldP w.drew x0.1 x0.2 fun p1 =>
 dr p1 fun b2 o3 =>
 ldP w.drew b2 o3 fun p4 =>
 ldS w.drew x1.1 x1.2 fun s5 =>
 Calls Tryz.prog 80 #[VP p4,VG s5] w.drew fun e7 w6 =>
 ∃ i8:Int,e7=.returned (VI .i64 i8)/\(
 Q (VI .i64 i8) w6)
def F79.an:Ann:=⟨[],[]⟩
theorem F79.of (x0:Nat×Nat) (x1:Nat×Nat) (w:World) {Q:QT} (h:F79.vc x0 x1 w Q):Calls Tryz.prog 79 #[VP (some ⟨x0.1,x0.2,none⟩),VP (some ⟨x1.1,x1.2,none⟩)] w (fun e w'=>∃ v,e=.returned v/\Q v w'):=vcFn_of (A:=F79.an) noCount mixed h (by kernel_rfl)
def F81.vc (x0:Nat×Nat) (x1:Nat×Nat) (x2:Nat×Nat) (w:World) (Q:QT):Prop :=
 ldP w.drew x0.1 x0.2 fun p1 =>
 dr p1 fun b2 o3 =>
 ldP w.drew b2 o3 fun p4 =>
 ldS w.drew x1.1 x1.2 fun s5 =>
 ldSl w.drew x2.1 x2.2 fun A6 n7 c8 =>
 Calls Tryz.prog 82 #[VP p4,VG s5,VS A6 n7 c8] w.drew fun e10 w9 =>
 ∃ i11:Int,e10=.returned (VI .i64 i11)/\(
 Q (VI .i64 i11) w9)
def F81.an:Ann:=⟨[],[]⟩
theorem F81.of (x0:Nat×Nat) (x1:Nat×Nat) (x2:Nat×Nat) (w:World) {Q:QT} (h:F81.vc x0 x1 x2 w Q):Calls Tryz.prog 81 #[VP (some ⟨x0.1,x0.2,none⟩),VP (some ⟨x1.1,x1.2,none⟩),VP (some ⟨x2.1,x2.2,none⟩)] w (fun e w'=>∃ v,e=.returned v/\Q v w'):=vcFn_of (A:=F81.an) noCount mixed h (by kernel_rfl)
def F83.vc (x0:Nat×Nat) (x1:Nat×Nat) (w:World) (Q:QT):Prop :=
 ldP w.drew x0.1 x0.2 fun p1 =>
 dr p1 fun b2 o3 =>
 ldP w.drew b2 o3 fun p4 =>
 ldS w.drew x1.1 x1.2 fun s5 =>
 Calls Tryz.prog 84 #[VP p4,VG s5] w.drew fun e7 w6 =>
 ∃ i8:Int,e7=.returned (VI .i64 i8)/\(
 Q (VI .i64 i8) w6)
def F83.an:Ann:=⟨[],[]⟩
theorem F83.of (x0:Nat×Nat) (x1:Nat×Nat) (w:World) {Q:QT} (h:F83.vc x0 x1 w Q):Calls Tryz.prog 83 #[VP (some ⟨x0.1,x0.2,none⟩),VP (some ⟨x1.1,x1.2,none⟩)] w (fun e w'=>∃ v,e=.returned v/\Q v w'):=vcFn_of (A:=F83.an) noCount mixed h (by kernel_rfl)
def F51.vc (x0:List Value) (x1:Int) (w:World) (Q:QT):Prop :=
 nw w x0 34 fun b1 w2 =>
 nw w2 Z34 34 fun b3 w4 =>
 ldSl w4 b1 (0+35) fun A5 n6 c7 =>
 Calls Tryz.prog 20 #[VS A5 n6 c7] w4 fun e9 w8 =>
 ∃ (A10:Option Addr) (n11 c12:Nat),e9=.returned (VS A10 n11 c12)/\(
 st w8 b1 (0+35) [VS A10 n11 c12] fun w13 =>
 st w13 b1 (0+1) [VI .u64 x1] fun w14 =>
 ldA 38 w14 b1 0 fun a15 =>
 gd (a15.length == 38) <|
 st w14 b3 0 a15 fun w16 =>
 ldA 38 w16 b3 0 fun a17 =>
 Q (ofL a17) w16)
def F51.an:Ann:=⟨[],[]⟩
theorem F51.of (x0:List Value) (x1:Int) (w:World) {Q:QT} (h:F51.vc x0 x1 w Q):Calls Tryz.prog 51 #[ofL x0,VI .u64 x1] w (fun e w'=>∃ v,e=.returned v/\Q v w'):=vcFn_of (A:=F51.an) noCount mixed h (by kernel_rfl)
def F30.b3c (Q:QT) (C3:(Option Addr×ST×ST×Int×Int×Unit)->WT) (x0:Option Addr) (x5:ST) (x10:ST) (x11:Int) (x12:Int) (w:World):Prop :=
 vIf (decide (x12 < x11))
 (dr x10.1 fun b1 o2 =>
 gd (decide (0<=x12)) <|
 gd (decide (x12 < (x10.2.1:Int))) <|
 ldA 38 w b1 (o2+(x12).toNat * 38) fun a3 =>
 nw w Z34 34 fun b4 w5 =>
 gd (a3.length == 38) <|
 st w5 b4 0 a3 fun w6 =>
 ldA 38 w6.drew b4 0 fun a7 =>
 dr x0 fun b8 o9 =>
 ldI .u64 w6.drew b8 ((o9+7)+4) fun i10 =>
 dr x0 fun b11 o12 =>
 ldSl w6.drew b11 (o12+12) fun A13 n14 c15 =>
 Calls Tryz.prog 51 #[ofL a7,VI .u64 (WR .u64 (i10+(WR .u64 (n14:Int))))] w6.drew fun e17 w16 =>
 ∃ a18:List Value,e17=.returned (ofL a18)/\(
 gd (a18.length == 38) <|
 st w16 b4 0 a18 fun w19 =>
 ldA 38 w19 b4 0 fun a20 =>
 Calls Tryz.prog 46 #[ofL a20] w19 fun e22 w21 =>
 ∃ (A23:Option Addr) (n24 c25:Nat),∃ i26:Int,e22=.returned (VT #[VS A23 n24 c25,VI .i64 i26])/\(
 ldA 38 w21.drew b4 0 fun a27 =>
 dr x0 fun b28 o29 =>
 ldI .i64 w21.drew b28 (o29+7) fun i30 =>
 dr x0 fun b31 o32 =>
 ldI .i64 w21.drew b31 ((o32+7)+1) fun i33 =>
 dr x0 fun b34 o35 =>
 ldSl w21.drew b34 (o35+13) fun A36 n37 c38 =>
 Calls Tryz.prog 11 #[ofL a27,ofL ([VI .i64 i30] ++ ([VI .i64 (WR .i64 (i33+(n37:Int)))] ++ ([VI .i64 (n24:Int)] ++ [])))] w21.drew fun e40 w39 =>
 ∃ a41:List Value,e40=.returned (ofL a41)/\(
 gd (a41.length == 39) <|
 nw w39 (a41 ++ []) 28 fun b42 w43 =>
 app w43 39 96 Z28 28 x5.1 x5.2.1 x5.2.2 (VS (some ⟨b42,0,none⟩) 1 1) fun A44 n45 c46 w47 =>
 dr x0 fun b48 o49 =>
 ldSl w47 b48 (o49+13) fun A50 n51 c52 =>
 app w47 1 1 [VI .u8 0] 5 A50 n51 c52 (VS A23 n24 c25) fun A53 n54 c55 w56 =>
 dr x0 fun b57 o58 =>
 st w56 b57 (o58+13) [VS A53 n54 c55] fun w59 =>
 dr x0 fun b60 o61 =>
 ldSl w59.drew b60 (o61+12) fun A62 n63 c64 =>
 ldA 38 w59.drew b4 0 fun a65 =>
 gd (a65.length == 38) <|
 nw w59.drew (a65 ++ []) 34 fun b66 w67 =>
 kp w59.drew b60 (o61+12) 1 w67 <|
 app w67 38 104 Z34 34 A62 n63 c64 (VS (some ⟨b66,0,none⟩) 1 1) fun A68 n69 c70 w71 =>
 dr x0 fun b72 o73 =>
 st w71 b72 (o73+12) [VS A68 n69 c70] fun w74 =>
 jnC C3 (x0,(A44,n45,c46),(x10.1,x10.2.1,x10.2.2),x11,((WR .i64 (x12+1))),()) w74))))
 (Q (VS x5.1 x5.2.1 x5.2.2) w)
def F30.b3 (Q:QT):(Option Addr×ST×ST×Int×Int×Unit)->World->((Option Addr×ST×ST×Int×Int×Unit)->WT)->Prop:=fun s w C3=>∀ _:Nat->Value,F30.b3c Q C3 s.1 s.2.1 s.2.2.1 s.2.2.2.1 s.2.2.2.2.1 w
def F30.l3 (Q:QT):(Option Addr×ST×ST×Int×Int×Unit)->WT:=fun s w=>∃ n,loopC (F30.b3 Q) n s w
def F30.vc (x0:Option Addr) (x1A:Option Addr) (x1n x1c:Nat) (w:World) (Q:QT):Prop :=
 jnC (F30.l3 Q) (x0,(none,0,0),(x1A,x1n,x1c),((x1n:Int)),(0),()) w
def F30.an:Ann:=⟨[(3,[(0,.kP),(5,.kSl),(10,.kSl),(11,.kI .i64),(12,.kI .i64)])],[]⟩
theorem F30.of (x0:Option Addr) (x1A:Option Addr) (x1n x1c:Nat) (w:World) {Q:QT} (h:F30.vc x0 x1A x1n x1c w Q):Calls Tryz.prog 30 #[VP x0,VS x1A x1n x1c] w (fun e w'=>∃ v,e=.returned v/\Q v w'):=vcFn_of (A:=F30.an) noCount mixed h (by kernel_rfl)
def F49.b3c (Q:QT) (C3:(Int×ST×Int×Int×Unit)->WT) (x3:Int) (x6:ST) (x7:Int) (x8:Int) (w:World):Prop :=
 vIf (decide (x8 < x7))
 (dr x6.1 fun b1 o2 =>
 gd (decide (0<=x8)) <|
 gd (decide (x8 < (x6.2.1:Int))) <|
 ldI .i64 w b1 (o2+(x8).toNat * 1) fun i3 =>
 Calls Tryz.prog 27 #[ofL ([VI .i64 i3] ++ ([VI .u64 0] ++ ([VI .u8 0,VI .u8 0,VI .u8 0,VI .u8 0,VI .u8 0,VI .u8 0,VI .u8 0,VI .u8 0,VI .u8 0,VI .u8 0,VI .u8 0,VI .u8 0,VI .u8 0,VI .u8 0,VI .u8 0,VI .u8 0,VI .u8 0,VI .u8 0,VI .u8 0,VI .u8 0,VI .u8 0,VI .u8 0,VI .u8 0,VI .u8 0,VI .u8 0,VI .u8 0,VI .u8 0,VI .u8 0,VI .u8 0,VI .u8 0,VI .u8 0,VI .u8 0] ++ ([VG (⟨#[]⟩:ByteArray)] ++ ([VS none 0 0] ++ ([VI .i64 1] ++ ([VI .i64 0] ++ [])))))))] w fun e5 w4 =>
 ∃ i6:Int,e5=.returned (VI .i64 i6)/\(
 jnC C3 (((WR .i64 (x3+i6))),(x6.1,x6.2.1,x6.2.2),x7,((WR .i64 (x8+1))),()) w4))
 (Q (VI .i64 x3) w)
def F49.b3 (Q:QT):(Int×ST×Int×Int×Unit)->World->((Int×ST×Int×Int×Unit)->WT)->Prop:=fun s w C3=>∀ _:Nat->Value,F49.b3c Q C3 s.1 s.2.1 s.2.2.1 s.2.2.2.1 w
def F49.l3 (Q:QT):(Int×ST×Int×Int×Unit)->WT:=fun s w=>∃ n,loopC (F49.b3 Q) n s w
def F49.vc (x0A:Option Addr) (x0n x0c:Nat) (w:World) (Q:QT):Prop :=
 jnC (F49.l3 Q) ((0),(x0A,x0n,x0c),((x0n:Int)),(0),()) w
def F49.an:Ann:=⟨[(3,[(3,.kI .i64),(6,.kSl),(7,.kI .i64),(8,.kI .i64)])],[]⟩
theorem F49.of (x0A:Option Addr) (x0n x0c:Nat) (w:World) {Q:QT} (h:F49.vc x0A x0n x0c w Q):Calls Tryz.prog 49 #[VS x0A x0n x0c] w (fun e w'=>∃ v,e=.returned v/\Q v w'):=vcFn_of (A:=F49.an) noCount mixed h (by kernel_rfl)
def F28.vc (x0:List Value) (w:World) (Q:QT):Prop :=
 nw w x0 57 fun b1 w2 =>
 ldI .i64 w2.drew b1 0 fun i3 =>
 nw w2.drew ([VI .i64 7] ++ ([VI .i64 6] ++ ([VI .i64 8] ++ []))) 3 fun b4 w5 =>
 kp w2.drew b1 0 1 w5 <|
 Calls Tryz.prog 49 #[VS (some ⟨b4,0,none⟩) 3 3] w5 fun e7 w6 =>
 ∃ i8:Int,e7=.returned (VI .i64 i8)/\(
 kp w2.drew b1 0 1 w6 <|
 Q (VI .i64 (WR .i64 (i3 - i8))) w6)
def F28.an:Ann:=⟨[],[]⟩
theorem F28.of (x0:List Value) (w:World) {Q:QT} (h:F28.vc x0 w Q):Calls Tryz.prog 28 #[ofL x0] w (fun e w'=>∃ v,e=.returned v/\Q v w'):=vcFn_of (A:=F28.an) noCount mixed h (by kernel_rfl)
def F29.k5c (Q:QT) (x0:Option Addr) (x52:Bool) (w:World):Prop :=
 vIf x52
 (Calls Tryz.prog 31 #[VP x0] w fun e27 w26 =>
 ∃ i28:Int,e27=.returned (VI .i64 i28)/\(
 Q (VI .i64 i28) w26))
 (Q (VI .i64 0) w)
def F29.k5 (Q:QT):(Option Addr×Bool×Unit)->WT:=fun s w=>∀ _:Nat->Value,F29.k5c Q s.1 s.2.1 w
def F29.k3c (Q:QT) (x0:Option Addr) (x1:Int) (x13:Bool) (w:World):Prop :=
 vIf x13
 (Calls Tryz.prog 50 #[VP x0] w fun e11 w10 =>
 ∃ i12:Int,e11=.returned (VI .i64 i12)/\(
 Q (VI .i64 i12) w10))
 (dr x0 fun b13 o14 =>
 ldSl w.drew b13 (o14+12) fun A15 n16 c17 =>
 vIf (decide ((n16:Int) > 0))
 (dr x0 fun b18 o19 =>
 ldSl w.drew b18 (o19+12) fun A20 n21 c22 =>
 dr x0 fun b23 o24 =>
 ldI .i64 w.drew b23 ((o24+1)+1) fun i25 =>
 jnC (F29.k5 Q) (x0,(decide ((WR .i64 ((n21:Int)+x1)) > i25)),()) w.drew)
 (jnC (F29.k5 Q) (x0,false,()) w.drew))
def F29.k3 (Q:QT):(Option Addr×Int×Bool×Unit)->WT:=fun s w=>∀ _:Nat->Value,F29.k3c Q s.1 s.2.1 s.2.2.1 w
def F29.vc (x0:Option Addr) (x1:Int) (x2:Int) (w:World) (Q:QT):Prop :=
 Calls Tryz.prog 27 #[ofL ([VI .i64 6] ++ ([VI .u64 0] ++ ([VI .u8 0,VI .u8 0,VI .u8 0,VI .u8 0,VI .u8 0,VI .u8 0,VI .u8 0,VI .u8 0,VI .u8 0,VI .u8 0,VI .u8 0,VI .u8 0,VI .u8 0,VI .u8 0,VI .u8 0,VI .u8 0,VI .u8 0,VI .u8 0,VI .u8 0,VI .u8 0,VI .u8 0,VI .u8 0,VI .u8 0,VI .u8 0,VI .u8 0,VI .u8 0,VI .u8 0,VI .u8 0,VI .u8 0,VI .u8 0,VI .u8 0,VI .u8 0] ++ ([VG (⟨#[]⟩:ByteArray)] ++ ([VS none 0 0] ++ ([VI .i64 0] ++ ([VI .i64 0] ++ [])))))))] w fun e2 w1 =>
 ∃ i3:Int,e2=.returned (VI .i64 i3)/\(
 Calls Tryz.prog 27 #[ofL ([VI .i64 8] ++ ([VI .u64 0] ++ ([VI .u8 0,VI .u8 0,VI .u8 0,VI .u8 0,VI .u8 0,VI .u8 0,VI .u8 0,VI .u8 0,VI .u8 0,VI .u8 0,VI .u8 0,VI .u8 0,VI .u8 0,VI .u8 0,VI .u8 0,VI .u8 0,VI .u8 0,VI .u8 0,VI .u8 0,VI .u8 0,VI .u8 0,VI .u8 0,VI .u8 0,VI .u8 0,VI .u8 0,VI .u8 0,VI .u8 0,VI .u8 0,VI .u8 0,VI .u8 0,VI .u8 0,VI .u8 0] ++ ([VG (⟨#[]⟩:ByteArray)] ++ ([VS none 0 0] ++ ([VI .i64 0] ++ ([VI .i64 0] ++ [])))))))] w1 fun e5 w4 =>
 ∃ i6:Int,e5=.returned (VI .i64 i6)/\(
 dr x0 fun b7 o8 =>
 ldI .i64 w4.drew b7 (o8+7) fun i9 =>
 vIf (i9 == 0)
 (jnC (F29.k3 Q) (x0,x1,true,()) w4.drew)
 (dr x0 fun b29 o30 =>
 ldB w4.drew b29 ((o30+7)+3) fun t31 =>
 vIf t31
 (jnC (F29.k3 Q) (x0,x1,true,()) w4.drew)
 (dr x0 fun b32 o33 =>
 ldI .i64 w4.drew b32 ((o33+7)+1) fun i34 =>
 dr x0 fun b35 o36 =>
 ldSl w4.drew b35 (o36+13) fun A37 n38 c39 =>
 dr x0 fun b40 o41 =>
 ldI .i64 w4.drew b40 (o41+1) fun i42 =>
 jnC (F29.k3 Q) (x0,x1,(decide ((WR .i64 ((WR .i64 ((WR .i64 (i34+(n38:Int)))+x2))+(WR .i64 (i3+i6)))) > i42)),()) w4.drew))))
def F29.an:Ann:=⟨[],[(3,[(0,.kP),(1,.kI .i64),(13,.kB)]),(5,[(0,.kP),(52,.kB)])]⟩
theorem F29.of (x0:Option Addr) (x1:Int) (x2:Int) (w:World) {Q:QT} (h:F29.vc x0 x1 x2 w Q):Calls Tryz.prog 29 #[VP x0,VI .i64 x1,VI .i64 x2] w (fun e w'=>∃ v,e=.returned v/\Q v w'):=vcFn_of (A:=F29.an) noCount mixed h (by kernel_rfl)
def F16.k24c (Q:QT) (x16:ST) (w:World):Prop :=
 Q (VT #[VS x16.1 x16.2.1 x16.2.2,VI .i64 0]) w
def F16.k24 (Q:QT):(ST×Unit)->WT:=fun s w=>∀ _:Nat->Value,F16.k24c Q s.1 w
def F16.b9c (Q:QT) (C9:(Option Addr×ST×Int×Int×ST×Int×Int×Unit)->WT) (x0:Option Addr) (x1:ST) (x2:Int) (x12:Int) (x32:ST) (x33:Int) (x34:Int) (w:World):Prop :=
 vIf (decide (x34 < x33))
 (dr x32.1 fun b11 o12 =>
 gd (decide (0<=x34)) <|
 gd (decide (x34 < (x32.2.1:Int))) <|
 ldA 38 w b11 (o12+(x34).toNat * 38) fun a13 =>
 nw w Z34 34 fun b14 w15 =>
 gd (a13.length == 38) <|
 st w15 b14 0 a13 fun w16 =>
 ldA 38 w16 b14 0 fun a17 =>
 Calls Tryz.prog 27 #[ofL a17] w16 fun e19 w18 =>
 ∃ i20:Int,e19=.returned (VI .i64 i20)/\(
 jnC C9 (x0,(x1.1,x1.2.1,x1.2.2),x2,((WR .i64 (x12+i20))),(x32.1,x32.2.1,x32.2.2),x33,((WR .i64 (x34+1))),()) w18))
 (dr x0 fun b21 o22 =>
 ldA 6 w b21 (o22+1) fun a23 =>
 Calls Tryz.prog 28 #[ofL a23] w fun e25 w24 =>
 ∃ i26:Int,e25=.returned (VI .i64 i26)/\(
 vIf (decide (x12 > i26))
 (Q (VT #[VS none 0 0,VI .i64 18]) w24)
 (Calls Tryz.prog 29 #[VP x0,VI .i64 (x1.2.1:Int),VI .i64 x12] w24 fun e28 w27 =>
 ∃ i29:Int,e28=.returned (VI .i64 i29)/\(
 vIf (i29 != 0)
 (Q (VT #[VS none 0 0,VI .i64 i29]) w27)
 (Calls Tryz.prog 30 #[VP x0,VS x1.1 x1.2.1 x1.2.2] w27 fun e31 w30 =>
 ∃ (A32:Option Addr) (n33 c34:Nat),e31=.returned (VS A32 n33 c34)/\(
 dr x0 fun b35 o36 =>
 ldI .i64 w30 b35 (o36+14) fun i37 =>
 dr x0 fun b38 o39 =>
 st w30 b38 (o39+14) [VI .i64 (WR .i64 (i37+x2))] fun w40 =>
 dr x0 fun b41 o42 =>
 ldSl w40.drew b41 (o42+12) fun A43 n44 c45 =>
 dr x0 fun b46 o47 =>
 ldI .i64 w40.drew b46 ((o47+1)+1) fun i48 =>
 vIf (decide ((n44:Int) >= i48))
 (Calls Tryz.prog 31 #[VP x0] w40.drew fun e50 w49 =>
 ∃ i51:Int,e50=.returned (VI .i64 i51)/\(
 vIf (i51 != 0)
 (Q (VT #[VS none 0 0,VI .i64 i51]) w49)
 (jnC (F16.k24 Q) ((A32,n33,c34),()) w49)))
 (jnC (F16.k24 Q) ((A32,n33,c34),()) w40.drew)))))))
def F16.b9 (Q:QT):(Option Addr×ST×Int×Int×ST×Int×Int×Unit)->World->((Option Addr×ST×Int×Int×ST×Int×Int×Unit)->WT)->Prop:=fun s w C9=>∀ _:Nat->Value,F16.b9c Q C9 s.1 s.2.1 s.2.2.1 s.2.2.2.1 s.2.2.2.2.1 s.2.2.2.2.2.1 s.2.2.2.2.2.2.1 w
def F16.l9 (Q:QT):(Option Addr×ST×Int×Int×ST×Int×Int×Unit)->WT:=fun s w=>∃ n,loopC (F16.b9 Q) n s w
def F16.vc (x0:Option Addr) (x1A:Option Addr) (x1n x1c:Nat) (x2:Int) (w:World) (Q:QT):Prop :=
 Calls Tryz.prog 25 #[VP x0] w fun e2 w1 =>
 ∃ i3:Int,e2=.returned (VI .i64 i3)/\(
 vIf (i3 != 0)
 (Q (VT #[VS none 0 0,VI .i64 i3]) w1)
 (Calls Tryz.prog 26 #[VS x1A x1n x1c,VI .u64 0] w1 fun e5 w4 =>
 ∃ (A6:Option Addr) (n7 c8:Nat),∃ i9:Int,∃ i10:Int,e5=.returned (VT #[VS A6 n7 c8,VI .u64 i9,VI .i64 i10])/\(
 vIf (i10 != 0)
 (Q (VT #[VS none 0 0,VI .i64 i10]) w4)
 (jnC (F16.l9 Q) (x0,(x1A,x1n,x1c),x2,(0),(x1A,x1n,x1c),((x1n:Int)),(0),()) w4))))
def F16.an:Ann:=⟨[(9,[(0,.kP),(1,.kSl),(2,.kI .i64),(12,.kI .i64),(32,.kSl),(33,.kI .i64),(34,.kI .i64)])],[(24,[(16,.kSl)])]⟩
theorem F16.of (x0:Option Addr) (x1A:Option Addr) (x1n x1c:Nat) (x2:Int) (w:World) {Q:QT} (h:F16.vc x0 x1A x1n x1c x2 w Q):Calls Tryz.prog 16 #[VP x0,VS x1A x1n x1c,VI .i64 x2] w (fun e w'=>∃ v,e=.returned v/\Q v w'):=vcFn_of (A:=F16.an) noCount mixed h (by kernel_rfl)
def F15.vc (x0:Option Addr) (x1:List Value) (x2:List Value) (w:World) (Q:QT):Prop :=
 nw w x1 57 fun b1 w2 =>
 nw w2 x2 59 fun b3 w4 =>
 ldA 6 w4 b1 0 fun a5 =>
 ldA 5 w4 b3 0 fun a6 =>
 gd (a5.length == 6) <|
 gd (a6.length == 5) <|
 nw w4 ([VP x0] ++ (a5 ++ (a6 ++ ([VS none 0 0] ++ ([VS none 0 0] ++ ([VI .i64 0] ++ ([VI .i64 0] ++ []))))))) 66 fun b7 w8 =>
 Q (VP (some ⟨b7,0,none⟩)) w8
def F15.an:Ann:=⟨[],[]⟩
theorem F15.of (x0:Option Addr) (x1:List Value) (x2:List Value) (w:World) {Q:QT} (h:F15.vc x0 x1 x2 w Q):Calls Tryz.prog 15 #[VP x0,ofL x1,ofL x2] w (fun e w'=>∃ v,e=.returned v/\Q v w'):=vcFn_of (A:=F15.an) noCount mixed h (by kernel_rfl)
def F8.k8c (Q:QT) (x0:Option Addr) (x3:NT) (x6:Int) (w:World):Prop :=
 dr x0 fun b38 o39 =>
 ldSl w.drew b38 (o39+13) fun A40 n41 c42 =>
 ldI .i64 w.drew x3.1 (x3.2+2) fun i43 =>
 gd (decide (0<=(WR .i64 (x6+i43)))) <|
 gd (decide ((WR .i64 (x6+i43))<=(c42:Int))) <|
 gd (decide (0<=x6)) <|
 gd (decide (x6<=((((WR .i64 (x6+i43))).toNat:Nat):Int))) <|
 Calls Tryz.prog 20 #[VS (slA A40 c42 (x6).toNat 1) (((WR .i64 (x6+i43))).toNat - (x6).toNat) (c42 - (x6).toNat)] w.drew fun e45 w44 =>
 ∃ (A46:Option Addr) (n47 c48:Nat),e45=.returned (VS A46 n47 c48)/\(
 Q (VT #[VS A46 n47 c48,VI .i64 0]) w44)
def F8.k8 (Q:QT):(Option Addr×NT×Int×Unit)->WT:=fun s w=>∀ _:Nat->Value,F8.k8c Q s.1 s.2.1 s.2.2.1 w
def F8.k5c (Q:QT) (x0:Option Addr) (x3:NT) (w:World):Prop :=
 ldI .i64 w.drew x3.1 (x3.2+1) fun i22 =>
 dr x0 fun b23 o24 =>
 ldI .i64 w.drew b23 ((o24+7)+1) fun i25 =>
 ldI .i64 w.drew.drew x3.1 (x3.2+2) fun i26 =>
 vIf (decide (i26 < 0))
 (Q (VT #[VS none 0 0,VI .i64 20]) w.drew.drew)
 (vIf (decide ((WR .i64 (i22 - i25)) < 0))
 (Q (VT #[VS none 0 0,VI .i64 20]) w.drew.drew)
 (dr x0 fun b27 o28 =>
 ldSl w.drew.drew b27 (o28+13) fun A29 n30 c31 =>
 vIf (decide ((WR .i64 (i22 - i25)) > (n30:Int)))
 (Q (VT #[VS none 0 0,VI .i64 20]) w.drew.drew)
 (ldI .i64 w.drew.drew x3.1 (x3.2+2) fun i32 =>
 dr x0 fun b33 o34 =>
 ldSl w.drew.drew b33 (o34+13) fun A35 n36 c37 =>
 vIf (decide (i32 > (WR .i64 ((n36:Int) - (WR .i64 (i22 - i25))))))
 (Q (VT #[VS none 0 0,VI .i64 20]) w.drew.drew)
 (jnC (F8.k8 Q) (x0,(x3.1,x3.2),((WR .i64 (i22 - i25))),()) w.drew.drew))))
def F8.k5 (Q:QT):(Option Addr×NT×Unit)->WT:=fun s w=>∀ _:Nat->Value,F8.k5c Q s.1 s.2.1 w
def F8.k4c (Q:QT) (x0:Option Addr) (x3:NT) (x26:Bool) (w:World):Prop :=
 vIf x26
 (dr x0 fun b7 o8 =>
 ldP w.drew b7 o8 fun p9 =>
 ldI .i64 w.drew x3.1 x3.2 fun i10 =>
 ldI .i64 w.drew x3.1 (x3.2+1) fun i11 =>
 ldI .i64 w.drew x3.1 (x3.2+2) fun i12 =>
 Calls Tryz.prog 19 #[VI .i64 1,VI .i64 i10] w.drew fun e14 w13 =>
 ∃ s15:ByteArray,e14=.returned (VG s15)/\(
 kp w.drew x3.1 (x3.2+2) 1 w13 <|
 kp w.drew x3.1 (x3.2+1) 1 w13 <|
 kp w.drew b7 o8 1 w13 <|
 Calls Tryz.prog 18 #[VP p9,VG s15,VI .i64 i11,VI .i64 i12] w13 fun e17 w16 =>
 ∃ (A18:Option Addr) (n19 c20:Nat),∃ i21:Int,e17=.returned (VT #[VS A18 n19 c20,VI .i64 i21])/\(
 Q (VT #[VS A18 n19 c20,VI .i64 i21]) w16)))
 (jnC (F8.k5 Q) (x0,(x3.1,x3.2),()) w)
def F8.k4 (Q:QT):(Option Addr×NT×Bool×Unit)->WT:=fun s w=>∀ _:Nat->Value,F8.k4c Q s.1 s.2.1 s.2.2.1 w
def F8.vc (x0:Option Addr) (x1:List Value) (w:World) (Q:QT):Prop :=
 nw w x1 26 fun b1 w2 =>
 vIf x0.isNone
 (Q (VT #[VS none 0 0,VI .i64 1]) w2)
 (ldI .i64 w2.drew b1 0 fun i3 =>
 dr x0 fun b4 o5 =>
 ldI .i64 w2.drew b4 (o5+7) fun i6 =>
 vIf (i3 != i6)
 (jnC (F8.k4 Q) (x0,(b1,0),true,()) w2.drew)
 (ldI .i64 w2.drew b1 (0+1) fun i49 =>
 dr x0 fun b50 o51 =>
 ldI .i64 w2.drew b50 ((o51+7)+1) fun i52 =>
 jnC (F8.k4 Q) (x0,(b1,0),(decide (i49 < i52)),()) w2.drew))
def F8.an:Ann:=⟨[],[(4,[(0,.kP),(3,.kL),(26,.kB)]),(5,[(0,.kP),(3,.kL)]),(8,[(0,.kP),(3,.kL),(6,.kI .i64)])]⟩
theorem F8.of (x0:Option Addr) (x1:List Value) (w:World) {Q:QT} (h:F8.vc x0 x1 w Q):Calls Tryz.prog 8 #[VP x0,ofL x1] w (fun e w'=>∃ v,e=.returned v/\Q v w'):=vcFn_of (A:=F8.an) noCount mixed h (by kernel_rfl)
def F132.vc (x0:Int) (x1:Int) (w:World) (Q:QT):Prop :=
 Calls Tryz.prog 148 #[VI .u32 x0,VI .i64 (WR .i64 (0 - x1))] w fun e2 w1 =>
 ∃ i3:Int,e2=.returned (VI .u32 i3)/\(
 Q (VI .u32 i3) w1)
def F132.an:Ann:=⟨[],[]⟩
theorem F132.of (x0:Int) (x1:Int) (w:World) {Q:QT} (h:F132.vc x0 x1 w Q):Calls Tryz.prog 132 #[VI .u32 x0,VI .i64 x1] w (fun e w'=>∃ v,e=.returned v/\Q v w'):=vcFn_of (A:=F132.an) noCount mixed h (by kernel_rfl)
def F148.vc (x0:Int) (x1:Int) (w:World) (Q:QT):Prop :=
 gd (decide (0<=(iAnd .u64 (WR .u64 x1) 31))) <|
 gd (decide (0<=(WR .u64 (32 - (iAnd .u64 (WR .u64 x1) 31))))) <|
 Q (VI .u32 (iOr .u32 (WR .u32 (x0 * 2 ^ (min ((iAnd .u64 (WR .u64 x1) 31)).toNat 32))) (Int.fdiv x0 (2 ^ (min ((WR .u64 (32 - (iAnd .u64 (WR .u64 x1) 31)))).toNat 32))))) w
def F148.an:Ann:=⟨[],[]⟩
theorem F148.of (x0:Int) (x1:Int) (w:World) {Q:QT} (h:F148.vc x0 x1 w Q):Calls Tryz.prog 148 #[VI .u32 x0,VI .i64 x1] w (fun e w'=>∃ v,e=.returned v/\Q v w'):=vcFn_of (A:=F148.an) noCount mixed h (by kernel_rfl)
def F131.b3c (Q:QT) (C3:(ST×NT×NT×Int×Unit)->WT) (x0:ST) (x2:NT) (x3:NT) (x10:Int) (w:World):Prop :=
 vIf (decide (x10 < 64))
 (vIf (decide (x10 < 16))
 (gd (decide (0<=(WR .i64 ((WR .i64 (4 * x10))+4)))) <|
 gd (decide ((WR .i64 ((WR .i64 (4 * x10))+4))<=(x0.2.2:Int))) <|
 gd (decide (0<=(WR .i64 (4 * x10)))) <|
 gd (decide ((WR .i64 (4 * x10))<=((((WR .i64 ((WR .i64 (4 * x10))+4))).toNat:Nat):Int))) <|
 dr (slA x0.1 x0.2.2 ((WR .i64 (4 * x10))).toNat 1) fun b5 o6 =>
 gd (decide ((0:Int) < (((((WR .i64 ((WR .i64 (4 * x10))+4))).toNat - ((WR .i64 (4 * x10))).toNat):Nat):Int))) <|
 ldI .u8 w.drew b5 o6 fun i7 =>
 dr (slA x0.1 x0.2.2 ((WR .i64 (4 * x10))).toNat 1) fun b8 o9 =>
 gd (decide ((1:Int) < (((((WR .i64 ((WR .i64 (4 * x10))+4))).toNat - ((WR .i64 (4 * x10))).toNat):Nat):Int))) <|
 ldI .u8 w.drew b8 (o9+1) fun i10 =>
 dr (slA x0.1 x0.2.2 ((WR .i64 (4 * x10))).toNat 1) fun b11 o12 =>
 gd (decide ((2:Int) < (((((WR .i64 ((WR .i64 (4 * x10))+4))).toNat - ((WR .i64 (4 * x10))).toNat):Nat):Int))) <|
 ldI .u8 w.drew b11 (o12+2) fun i13 =>
 dr (slA x0.1 x0.2.2 ((WR .i64 (4 * x10))).toNat 1) fun b14 o15 =>
 gd (decide ((3:Int) < (((((WR .i64 ((WR .i64 (4 * x10))+4))).toNat - ((WR .i64 (4 * x10))).toNat):Nat):Int))) <|
 ldI .u8 w.drew b14 (o15+3) fun i16 =>
 gd (decide (0<=x10)) <|
 gd (decide (x10 < 64)) <|
 st w.drew x3.1 (x3.2+(x10).toNat * 1) [VI .u32 (iOr .u32 (iOr .u32 (iOr .u32 (WR .u32 ((WR .u32 i7) * 2 ^ 24)) (WR .u32 ((WR .u32 i10) * 2 ^ 16))) (WR .u32 ((WR .u32 i13) * 2 ^ 8))) (WR .u32 i16))] fun w17 =>
 jnC C3 ((x0.1,x0.2.1,x0.2.2),(x2.1,x2.2),(x3.1,x3.2),((WR .i64 (x10+1))),()) w17)
 (gd (decide (0<=(WR .i64 (x10 - 15)))) <|
 gd (decide ((WR .i64 (x10 - 15)) < 64)) <|
 ldI .u32 w.drew x3.1 (x3.2+((WR .i64 (x10 - 15))).toNat * 1) fun i18 =>
 gd (decide (0<=(WR .i64 (x10 - 2)))) <|
 gd (decide ((WR .i64 (x10 - 2)) < 64)) <|
 ldI .u32 w.drew x3.1 (x3.2+((WR .i64 (x10 - 2))).toNat * 1) fun i19 =>
 Calls Tryz.prog 132 #[VI .u32 i18,VI .i64 7] w.drew fun e21 w20 =>
 ∃ i22:Int,e21=.returned (VI .u32 i22)/\(
 Calls Tryz.prog 132 #[VI .u32 i18,VI .i64 18] w20 fun e24 w23 =>
 ∃ i25:Int,e24=.returned (VI .u32 i25)/\(
 Calls Tryz.prog 132 #[VI .u32 i19,VI .i64 17] w23 fun e27 w26 =>
 ∃ i28:Int,e27=.returned (VI .u32 i28)/\(
 Calls Tryz.prog 132 #[VI .u32 i19,VI .i64 19] w26 fun e30 w29 =>
 ∃ i31:Int,e30=.returned (VI .u32 i31)/\(
 gd (decide (0<=(WR .i64 (x10 - 7)))) <|
 gd (decide ((WR .i64 (x10 - 7)) < 64)) <|
 ldI .u32 w29.drew x3.1 (x3.2+((WR .i64 (x10 - 7))).toNat * 1) fun i32 =>
 gd (decide (0<=(WR .i64 (x10 - 16)))) <|
 gd (decide ((WR .i64 (x10 - 16)) < 64)) <|
 ldI .u32 w29.drew x3.1 (x3.2+((WR .i64 (x10 - 16))).toNat * 1) fun i33 =>
 gd (decide (0<=x10)) <|
 gd (decide (x10 < 64)) <|
 st w29.drew x3.1 (x3.2+(x10).toNat * 1) [VI .u32 (WR .u32 ((WR .u32 ((WR .u32 ((iXor .u32 (iXor .u32 i28 i31) (Int.fdiv i19 (2 ^ 10)))+i32))+(iXor .u32 (iXor .u32 i22 i25) (Int.fdiv i18 (2 ^ 3)))))+i33))] fun w34 =>
 jnC C3 ((x0.1,x0.2.1,x0.2.2),(x2.1,x2.2),(x3.1,x3.2),((WR .i64 (x10+1))),()) w34))))))
 (ldA 64 w x3.1 x3.2 fun a35 =>
 gd (a35.length == 64) <|
 st w x2.1 x2.2 a35 fun w36 =>
 ldA 64 w36 x2.1 x2.2 fun a37 =>
 Q (ofL a37) w36)
def F131.b3 (Q:QT):(ST×NT×NT×Int×Unit)->World->((ST×NT×NT×Int×Unit)->WT)->Prop:=fun s w C3=>∀ _:Nat->Value,F131.b3c Q C3 s.1 s.2.1 s.2.2.1 s.2.2.2.1 w
def F131.l3 (Q:QT):(ST×NT×NT×Int×Unit)->WT:=fun s w=>∃ n,loopC (F131.b3 Q) n s w
def F131.vc (x0A:Option Addr) (x0n x0c:Nat) (w:World) (Q:QT):Prop :=
 nw w Z209 209 fun b1 w2 =>
 nw w2 Z209 209 fun b3 w4 =>
 jnC (F131.l3 Q) ((x0A,x0n,x0c),(b1,0),(b3,0),(0),()) w4
def F131.an:Ann:=⟨[(3,[(0,.kSl),(2,.kL),(3,.kL),(10,.kI .i64)])],[]⟩
theorem F131.of (x0A:Option Addr) (x0n x0c:Nat) (w:World) {Q:QT} (h:F131.vc x0A x0n x0c w Q):Calls Tryz.prog 131 #[VS x0A x0n x0c] w (fun e w'=>∃ v,e=.returned v/\Q v w'):=vcFn_of (A:=F131.an) noCount mixed h (by kernel_rfl)
def F100.b11c (Q:QT) (C11:(NT×NT×NT×Int×Unit)->WT) (x2:NT) (x4:NT) (x5:NT) (x97:Int) (w:World):Prop :=
 vIf (decide (x97 < 8))
 (gd (decide (0<=x97)) <|
 gd (decide (x97 < 8)) <|
 ldI .u32 w.drew x2.1 (x2.2+(x97).toNat * 1) fun i49 =>
 gd (decide (0<=x97)) <|
 gd (decide (x97 < 8)) <|
 ldI .u32 w.drew x5.1 (x5.2+(x97).toNat * 1) fun i50 =>
 gd (decide (0<=x97)) <|
 gd (decide (x97 < 8)) <|
 st w.drew x2.1 (x2.2+(x97).toNat * 1) [VI .u32 (WR .u32 (i49+i50))] fun w51 =>
 jnC C11 ((x2.1,x2.2),(x4.1,x4.2),(x5.1,x5.2),((WR .i64 (x97+1))),()) w51)
 (ldA 8 w x2.1 x2.2 fun a52 =>
 gd (a52.length == 8) <|
 st w x4.1 x4.2 a52 fun w53 =>
 ldA 8 w53 x4.1 x4.2 fun a54 =>
 Q (ofL a54) w53)
def F100.b11 (Q:QT):(NT×NT×NT×Int×Unit)->World->((NT×NT×NT×Int×Unit)->WT)->Prop:=fun s w C11=>∀ _:Nat->Value,F100.b11c Q C11 s.1 s.2.1 s.2.2.1 s.2.2.2.1 w
def F100.l11 (Q:QT):(NT×NT×NT×Int×Unit)->WT:=fun s w=>∃ n,loopC (F100.b11 Q) n s w
def F100.b3c (Q:QT) (C3:(NT×NT×NT×List Value×Int×Unit)->WT) (x2:NT) (x4:NT) (x5:NT) (x15:List Value) (x16:Int) (w:World):Prop :=
 vIf (decide (x16 < 64))
 (gd (decide (0<=x16)) <|
 gd (decide (x16 < 64)) <|
 gd (decide (((x16).toNat * 1) < x15.length)) <|
 ptI .u32 (nthV x15 ((x16).toNat * 1)) fun i12 =>
 ldI .u32 w.drew x5.1 x5.2 fun i13 =>
 ldI .u32 w.drew x5.1 (x5.2+4) fun i14 =>
 ldI .u32 w.drew.drew x5.1 (x5.2+7) fun i15 =>
 ldI .u32 w.drew.drew x5.1 (x5.2+5) fun i16 =>
 ldI .u32 w.drew.drew x5.1 (x5.2+6) fun i17 =>
 gd (decide (0<=x16)) <|
 gd (decide (x16 < 64)) <|
 ldI .u32 w.drew.drew 0 (0+(x16).toNat * 1) fun i18 =>
 Calls Tryz.prog 132 #[VI .u32 i14,VI .i64 6] w.drew.drew fun e20 w19 =>
 ∃ i21:Int,e20=.returned (VI .u32 i21)/\(
 kp w.drew.drew 0 (0+(x16).toNat * 1) 1 w19 <|
 kp w.drew.drew x5.1 (x5.2+6) 1 w19 <|
 kp w.drew.drew x5.1 (x5.2+5) 1 w19 <|
 kp w.drew.drew x5.1 (x5.2+7) 1 w19 <|
 Calls Tryz.prog 132 #[VI .u32 i14,VI .i64 11] w19 fun e23 w22 =>
 ∃ i24:Int,e23=.returned (VI .u32 i24)/\(
 kp w.drew.drew 0 (0+(x16).toNat * 1) 1 w22 <|
 kp w.drew.drew x5.1 (x5.2+6) 1 w22 <|
 kp w.drew.drew x5.1 (x5.2+5) 1 w22 <|
 kp w.drew.drew x5.1 (x5.2+7) 1 w22 <|
 Calls Tryz.prog 132 #[VI .u32 i14,VI .i64 25] w22 fun e26 w25 =>
 ∃ i27:Int,e26=.returned (VI .u32 i27)/\(
 kp w.drew.drew 0 (0+(x16).toNat * 1) 1 w25 <|
 kp w.drew.drew x5.1 (x5.2+6) 1 w25 <|
 kp w.drew.drew x5.1 (x5.2+5) 1 w25 <|
 kp w.drew.drew x5.1 (x5.2+7) 1 w25 <|
 ldI .u32 w25.drew x5.1 (x5.2+1) fun i28 =>
 ldI .u32 w25.drew x5.1 (x5.2+2) fun i29 =>
 ldI .u32 w25.drew x5.1 (x5.2+1) fun i30 =>
 ldI .u32 w25.drew x5.1 (x5.2+2) fun i31 =>
 Calls Tryz.prog 132 #[VI .u32 i13,VI .i64 2] w25.drew fun e33 w32 =>
 ∃ i34:Int,e33=.returned (VI .u32 i34)/\(
 kp w25.drew x5.1 (x5.2+2) 1 w32 <|
 kp w25.drew x5.1 (x5.2+1) 1 w32 <|
 kp w25.drew x5.1 (x5.2+2) 1 w32 <|
 kp w25.drew x5.1 (x5.2+1) 1 w32 <|
 Calls Tryz.prog 132 #[VI .u32 i13,VI .i64 13] w32 fun e36 w35 =>
 ∃ i37:Int,e36=.returned (VI .u32 i37)/\(
 kp w25.drew x5.1 (x5.2+2) 1 w35 <|
 kp w25.drew x5.1 (x5.2+1) 1 w35 <|
 kp w25.drew x5.1 (x5.2+2) 1 w35 <|
 kp w25.drew x5.1 (x5.2+1) 1 w35 <|
 Calls Tryz.prog 132 #[VI .u32 i13,VI .i64 22] w35 fun e39 w38 =>
 ∃ i40:Int,e39=.returned (VI .u32 i40)/\(
 kp w25.drew x5.1 (x5.2+2) 1 w38 <|
 kp w25.drew x5.1 (x5.2+1) 1 w38 <|
 kp w25.drew x5.1 (x5.2+2) 1 w38 <|
 kp w25.drew x5.1 (x5.2+1) 1 w38 <|
 ldI .u32 w38 x5.1 x5.2 fun i41 =>
 ldI .u32 w38 x5.1 (x5.2+1) fun i42 =>
 ldI .u32 w38 x5.1 (x5.2+2) fun i43 =>
 ldI .u32 w38 x5.1 (x5.2+3) fun i44 =>
 ldI .u32 w38 x5.1 (x5.2+4) fun i45 =>
 ldI .u32 w38 x5.1 (x5.2+5) fun i46 =>
 ldI .u32 w38 x5.1 (x5.2+6) fun i47 =>
 gd (([VI .u32 (WR .u32 ((WR .u32 ((WR .u32 ((WR .u32 ((WR .u32 (i15+(iXor .u32 (iXor .u32 i21 i24) i27)))+(iXor .u32 (iAnd .u32 i14 i16) (iAnd .u32 (iXor .u32 4294967295 i14) i17))))+i18))+i12))+(WR .u32 ((iXor .u32 (iXor .u32 i34 i37) i40)+(iXor .u32 (iXor .u32 (iAnd .u32 i13 i28) (iAnd .u32 i13 i29)) (iAnd .u32 i30 i31))))))] ++ ([VI .u32 i41] ++ ([VI .u32 i42] ++ ([VI .u32 i43] ++ ([VI .u32 (WR .u32 (i44+(WR .u32 ((WR .u32 ((WR .u32 ((WR .u32 (i15+(iXor .u32 (iXor .u32 i21 i24) i27)))+(iXor .u32 (iAnd .u32 i14 i16) (iAnd .u32 (iXor .u32 4294967295 i14) i17))))+i18))+i12))))] ++ ([VI .u32 i45] ++ ([VI .u32 i46] ++ ([VI .u32 i47] ++ [])))))))).length == 8) <|
 st w38 x5.1 x5.2 ([VI .u32 (WR .u32 ((WR .u32 ((WR .u32 ((WR .u32 ((WR .u32 (i15+(iXor .u32 (iXor .u32 i21 i24) i27)))+(iXor .u32 (iAnd .u32 i14 i16) (iAnd .u32 (iXor .u32 4294967295 i14) i17))))+i18))+i12))+(WR .u32 ((iXor .u32 (iXor .u32 i34 i37) i40)+(iXor .u32 (iXor .u32 (iAnd .u32 i13 i28) (iAnd .u32 i13 i29)) (iAnd .u32 i30 i31))))))] ++ ([VI .u32 i41] ++ ([VI .u32 i42] ++ ([VI .u32 i43] ++ ([VI .u32 (WR .u32 (i44+(WR .u32 ((WR .u32 ((WR .u32 ((WR .u32 (i15+(iXor .u32 (iXor .u32 i21 i24) i27)))+(iXor .u32 (iAnd .u32 i14 i16) (iAnd .u32 (iXor .u32 4294967295 i14) i17))))+i18))+i12))))] ++ ([VI .u32 i45] ++ ([VI .u32 i46] ++ ([VI .u32 i47] ++ [])))))))) fun w48 =>
 jnC C3 ((x2.1,x2.2),(x4.1,x4.2),(x5.1,x5.2),x15,((WR .i64 (x16+1))),()) w48)))))))
 (jnC (F100.l11 Q) ((x2.1,x2.2),(x4.1,x4.2),(x5.1,x5.2),(0),()) w)
def F100.b3 (Q:QT):(NT×NT×NT×List Value×Int×Unit)->World->((NT×NT×NT×List Value×Int×Unit)->WT)->Prop:=fun s w C3=>∀ _:Nat->Value,F100.b3c Q C3 s.1 s.2.1 s.2.2.1 s.2.2.2.1 s.2.2.2.2.1 w
def F100.l3 (Q:QT):(NT×NT×NT×List Value×Int×Unit)->WT:=fun s w=>∃ n,loopC (F100.b3 Q) n s w
def F100.vc (x0:List Value) (x1A:Option Addr) (x1n x1c:Nat) (w:World) (Q:QT):Prop :=
 nw w x0 171 fun b1 w2 =>
 nw w2 Z171 171 fun b3 w4 =>
 ldA 8 w4 b1 0 fun a5 =>
 nw w4 Z171 171 fun b6 w7 =>
 gd (a5.length == 8) <|
 st w7 b6 0 a5 fun w8 =>
 Calls Tryz.prog 131 #[VS x1A x1n x1c] w8 fun e10 w9 =>
 ∃ a11:List Value,e10=.returned (ofL a11)/\(
 jnC (F100.l3 Q) ((b1,0),(b3,0),(b6,0),a11,(0),()) w9)
def F100.an:Ann:=⟨[(3,[(2,.kL),(4,.kL),(5,.kL),(15,.kA),(16,.kI .i64)]),(11,[(2,.kL),(4,.kL),(5,.kL),(97,.kI .i64)])],[]⟩
theorem F100.of (x0:List Value) (x1A:Option Addr) (x1n x1c:Nat) (w:World) {Q:QT} (h:F100.vc x0 x1A x1n x1c w Q):Calls Tryz.prog 100 #[ofL x0,VS x1A x1n x1c] w (fun e w'=>∃ v,e=.returned v/\Q v w'):=vcFn_of (A:=F100.an) noCount mixed h (by kernel_rfl)
def F68.vc  (w:World) (Q:QT):Prop :=
 Calls Tryz.prog 99 #[] w fun e2 w1 =>
 ∃ a3:List Value,e2=.returned (ofL a3)/\(
 gd (a3.length == 8) <|
 nw w1 (a3 ++ ([VS none 0 0] ++ ([VI .i64 0] ++ []))) 174 fun b4 w5 =>
 Q (VP (some ⟨b4,0,none⟩)) w5)
def F68.an:Ann:=⟨[],[]⟩
theorem F68.of  (w:World) {Q:QT} (h:F68.vc  w Q):Calls Tryz.prog 68 #[] w (fun e w'=>∃ v,e=.returned v/\Q v w'):=vcFn_of (A:=F68.an) noCount mixed h (by kernel_rfl)
def F99.vc  (w:World) (Q:QT):Prop :=
 nw w Z171 171 fun b1 w2 =>
 gd (([VI .u32 1779033703] ++ ([VI .u32 3144134277] ++ ([VI .u32 1013904242] ++ ([VI .u32 2773480762] ++ ([VI .u32 1359893119] ++ ([VI .u32 2600822924] ++ ([VI .u32 528734635] ++ ([VI .u32 1541459225] ++ [])))))))).length == 8) <|
 st w2 b1 0 ([VI .u32 1779033703] ++ ([VI .u32 3144134277] ++ ([VI .u32 1013904242] ++ ([VI .u32 2773480762] ++ ([VI .u32 1359893119] ++ ([VI .u32 2600822924] ++ ([VI .u32 528734635] ++ ([VI .u32 1541459225] ++ [])))))))) fun w3 =>
 ldA 8 w3 b1 0 fun a4 =>
 Q (ofL a4) w3
def F99.an:Ann:=⟨[],[]⟩
theorem F99.of  (w:World) {Q:QT} (h:F99.vc  w Q):Calls Tryz.prog 99 #[] w (fun e w'=>∃ v,e=.returned v/\Q v w'):=vcFn_of (A:=F99.an) noCount mixed h (by kernel_rfl)
def F69.b3c (Q:QT) (C3:(Option Addr×ST×Unit)->WT) (x0:Option Addr) (x4:ST) (w:World):Prop :=
 vIf (decide ((x4.2.1:Int) >= 64))
 (dr x0 fun b26 o27 =>
 ldA 8 w.drew b26 o27 fun a28 =>
 gd (decide ((64:Int)<=(x4.2.2:Int))) <|
 Calls Tryz.prog 100 #[ofL a28,VS (slA x4.1 x4.2.2 0 1) 64 x4.2.2] w.drew fun e30 w29 =>
 ∃ a31:List Value,e30=.returned (ofL a31)/\(
 dr x0 fun b32 o33 =>
 gd (a31.length == 8) <|
 st w29 b32 o33 a31 fun w34 =>
 gd (decide ((64:Int)<=(x4.2.1:Int))) <|
 jnC C3 (x0,((slA x4.1 x4.2.2 64 1),(x4.2.1 - 64),(x4.2.2 - 64)),()) w34))
 (app w 1 1 [VI .u8 0] 5 none 0 0 (VS x4.1 x4.2.1 x4.2.2) fun A35 n36 c37 w38 =>
 dr x0 fun b39 o40 =>
 st w38 b39 (o40+8) [VS A35 n36 c37] fun w41 =>
 Q (VT #[]) w41)
def F69.b3 (Q:QT):(Option Addr×ST×Unit)->World->((Option Addr×ST×Unit)->WT)->Prop:=fun s w C3=>∀ _:Nat->Value,F69.b3c Q C3 s.1 s.2.1 w
def F69.l3 (Q:QT):(Option Addr×ST×Unit)->WT:=fun s w=>∃ n,loopC (F69.b3 Q) n s w
def F69.vc (x0:Option Addr) (x1A:Option Addr) (x1n x1c:Nat) (w:World) (Q:QT):Prop :=
 vIf x0.isNone
 (Q (VT #[]) w)
 (dr x0 fun b1 o2 =>
 ldI .i64 w b1 (o2+9) fun i3 =>
 dr x0 fun b4 o5 =>
 st w b4 (o5+9) [VI .i64 (WR .i64 (i3+(x1n:Int)))] fun w6 =>
 dr x0 fun b7 o8 =>
 ldSl w6.drew b7 (o8+8) fun A9 n10 c11 =>
 dr x0 fun b12 o13 =>
 ldSl w6.drew b12 (o13+8) fun A14 n15 c16 =>
 dr x0 fun b17 o18 =>
 ldSl w6.drew b17 (o18+8) fun A19 n20 c21 =>
 gd (decide (0<=(n20:Int))) <|
 gd (decide ((n20:Int)<=(c11:Int))) <|
 gd (decide (0<=(n15:Int))) <|
 gd (decide ((n15:Int)<=((((n20:Int)).toNat:Nat):Int))) <|
 app w6.drew 1 1 [VI .u8 0] 5 (slA A9 ((n20:Int)).toNat 0 1) (((n15:Int)).toNat) (((n20:Int)).toNat) (VS x1A x1n x1c) fun A22 n23 c24 w25 =>
 jnC (F69.l3 Q) (x0,(A22,n23,c24),()) w25)
def F69.an:Ann:=⟨[(3,[(0,.kP),(4,.kSl)])],[]⟩
theorem F69.of (x0:Option Addr) (x1A:Option Addr) (x1n x1c:Nat) (w:World) {Q:QT} (h:F69.vc x0 x1A x1n x1c w Q):Calls Tryz.prog 69 #[VP x0,VS x1A x1n x1c] w (fun e w'=>∃ v,e=.returned v/\Q v w'):=vcFn_of (A:=F69.an) noCount mixed h (by kernel_rfl)
def F101.b6c (Q:QT) (C6:(ST×Int×Int×Unit)->WT) (x3:ST) (x4:Int) (x5:Int) (w:World):Prop :=
 vIf (decide (x5 >= 0))
 (gd (decide (0<=x5)) <|
 nw w ([VI .u8 (WR .u8 (Int.fdiv x4 (2 ^ (min (x5).toNat 64))))] ++ []) 5 fun b31 w32 =>
 app w32 1 1 [VI .u8 0] 5 x3.1 x3.2.1 x3.2.2 (VS (some ⟨b31,0,none⟩) 1 1) fun A33 n34 c35 w36 =>
 jnC C6 ((A33,n34,c35),x4,((WR .i64 (x5 - 8))),()) w36)
 (Q (VS x3.1 x3.2.1 x3.2.2) w)
def F101.b6 (Q:QT):(ST×Int×Int×Unit)->World->((ST×Int×Int×Unit)->WT)->Prop:=fun s w C6=>∀ _:Nat->Value,F101.b6c Q C6 s.1 s.2.1 s.2.2.1 w
def F101.l6 (Q:QT):(ST×Int×Int×Unit)->WT:=fun s w=>∃ n,loopC (F101.b6 Q) n s w
def F101.b2c (Q:QT) (C2:(Option Addr×ST×Unit)->WT) (x0:Option Addr) (x3:ST) (w:World):Prop :=
 vIf ((Int.tmod (x3.2.1:Int) 64) != 56)
 (nw w ([VI .u8 0] ++ []) 5 fun b22 w23 =>
 app w23 1 1 [VI .u8 0] 5 x3.1 x3.2.1 x3.2.2 (VS (some ⟨b22,0,none⟩) 1 1) fun A24 n25 c26 w27 =>
 jnC C2 (x0,(A24,n25,c26),()) w27)
 (dr x0 fun b28 o29 =>
 ldI .i64 w b28 (o29+9) fun i30 =>
 jnC (F101.l6 Q) ((x3.1,x3.2.1,x3.2.2),((WR .u64 ((WR .u64 i30) * 8))),(56),()) w)
def F101.b2 (Q:QT):(Option Addr×ST×Unit)->World->((Option Addr×ST×Unit)->WT)->Prop:=fun s w C2=>∀ _:Nat->Value,F101.b2c Q C2 s.1 s.2.1 w
def F101.l2 (Q:QT):(Option Addr×ST×Unit)->WT:=fun s w=>∃ n,loopC (F101.b2 Q) n s w
def F101.vc (x0:Option Addr) (w:World) (Q:QT):Prop :=
 dr x0 fun b1 o2 =>
 ldSl w.drew b1 (o2+8) fun A3 n4 c5 =>
 dr x0 fun b6 o7 =>
 ldSl w.drew b6 (o7+8) fun A8 n9 c10 =>
 dr x0 fun b11 o12 =>
 ldSl w.drew b11 (o12+8) fun A13 n14 c15 =>
 gd (decide (0<=(n14:Int))) <|
 gd (decide ((n14:Int)<=(c5:Int))) <|
 gd (decide (0<=(n9:Int))) <|
 gd (decide ((n9:Int)<=((((n14:Int)).toNat:Nat):Int))) <|
 nw w.drew ([VI .u8 128] ++ []) 5 fun b16 w17 =>
 kp w.drew b11 (o12+8) 1 w17 <|
 kp w.drew b6 (o7+8) 1 w17 <|
 kp w.drew b1 (o2+8) 1 w17 <|
 app w17 1 1 [VI .u8 0] 5 (slA A3 ((n14:Int)).toNat 0 1) (((n9:Int)).toNat) (((n14:Int)).toNat) (VS (some ⟨b16,0,none⟩) 1 1) fun A18 n19 c20 w21 =>
 jnC (F101.l2 Q) (x0,(A18,n19,c20),()) w21
def F101.an:Ann:=⟨[(2,[(0,.kP),(3,.kSl)]),(6,[(3,.kSl),(4,.kI .u64),(5,.kI .i64)])],[]⟩
theorem F101.of (x0:Option Addr) (w:World) {Q:QT} (h:F101.vc x0 w Q):Calls Tryz.prog 101 #[VP x0] w (fun e w'=>∃ v,e=.returned v/\Q v w'):=vcFn_of (A:=F101.an) noCount mixed h (by kernel_rfl)
def F70.b10c (Q:QT) (C10:(NT×NT×List Value×Int×Unit)->WT) (x2:NT) (x3:NT) (x26:List Value) (x27:Int) (w:World):Prop :=
 vIf (decide (x27 < 8))
 (gd (decide (0<=x27)) <|
 gd (decide (x27 < 8)) <|
 gd (decide (((x27).toNat * 1) < x26.length)) <|
 ptI .u32 (nthV x26 ((x27).toNat * 1)) fun i25 =>
 gd (decide (0<=(WR .i64 (4 * x27)))) <|
 gd (decide ((WR .i64 (4 * x27)) < 32)) <|
 st w x3.1 (x3.2+((WR .i64 (4 * x27))).toNat * 1) [VI .u8 (WR .u8 (Int.fdiv i25 (2 ^ 24)))] fun w26 =>
 gd (decide (0<=(WR .i64 ((WR .i64 (4 * x27))+1)))) <|
 gd (decide ((WR .i64 ((WR .i64 (4 * x27))+1)) < 32)) <|
 st w26 x3.1 (x3.2+((WR .i64 ((WR .i64 (4 * x27))+1))).toNat * 1) [VI .u8 (WR .u8 (Int.fdiv i25 (2 ^ 16)))] fun w27 =>
 gd (decide (0<=(WR .i64 ((WR .i64 (4 * x27))+2)))) <|
 gd (decide ((WR .i64 ((WR .i64 (4 * x27))+2)) < 32)) <|
 st w27 x3.1 (x3.2+((WR .i64 ((WR .i64 (4 * x27))+2))).toNat * 1) [VI .u8 (WR .u8 (Int.fdiv i25 (2 ^ 8)))] fun w28 =>
 gd (decide (0<=(WR .i64 ((WR .i64 (4 * x27))+3)))) <|
 gd (decide ((WR .i64 ((WR .i64 (4 * x27))+3)) < 32)) <|
 st w28 x3.1 (x3.2+((WR .i64 ((WR .i64 (4 * x27))+3))).toNat * 1) [VI .u8 (WR .u8 i25)] fun w29 =>
 jnC C10 ((x2.1,x2.2),(x3.1,x3.2),x26,((WR .i64 (x27+1))),()) w29)
 (ldA 32 w x3.1 x3.2 fun a30 =>
 gd (a30.length == 32) <|
 st w x2.1 x2.2 a30 fun w31 =>
 ldA 32 w31 x2.1 x2.2 fun a32 =>
 Q (ofL a32) w31)
def F70.b10 (Q:QT):(NT×NT×List Value×Int×Unit)->World->((NT×NT×List Value×Int×Unit)->WT)->Prop:=fun s w C10=>∀ _:Nat->Value,F70.b10c Q C10 s.1 s.2.1 s.2.2.1 s.2.2.2.1 w
def F70.l10 (Q:QT):(NT×NT×List Value×Int×Unit)->WT:=fun s w=>∃ n,loopC (F70.b10 Q) n s w
def F70.b6c (Q:QT) (C6:(NT×NT×NT×ST×Unit)->WT) (x2:NT) (x3:NT) (x4:NT) (x5:ST) (w:World):Prop :=
 vIf (decide ((x5.2.1:Int) > 0))
 (ldA 8 w.drew x4.1 x4.2 fun a19 =>
 gd (decide ((64:Int)<=(x5.2.2:Int))) <|
 Calls Tryz.prog 100 #[ofL a19,VS (slA x5.1 x5.2.2 0 1) 64 x5.2.2] w.drew fun e21 w20 =>
 ∃ a22:List Value,e21=.returned (ofL a22)/\(
 gd (a22.length == 8) <|
 st w20 x4.1 x4.2 a22 fun w23 =>
 gd (decide ((64:Int)<=(x5.2.1:Int))) <|
 jnC C6 ((x2.1,x2.2),(x3.1,x3.2),(x4.1,x4.2),((slA x5.1 x5.2.2 64 1),(x5.2.1 - 64),(x5.2.2 - 64)),()) w23))
 (ldA 8 w x4.1 x4.2 fun a24 =>
 jnC (F70.l10 Q) ((x2.1,x2.2),(x3.1,x3.2),a24,(0),()) w)
def F70.b6 (Q:QT):(NT×NT×NT×ST×Unit)->World->((NT×NT×NT×ST×Unit)->WT)->Prop:=fun s w C6=>∀ _:Nat->Value,F70.b6c Q C6 s.1 s.2.1 s.2.2.1 s.2.2.2.1 w
def F70.l6 (Q:QT):(NT×NT×NT×ST×Unit)->WT:=fun s w=>∃ n,loopC (F70.b6 Q) n s w
def F70.vc (x0:Option Addr) (w:World) (Q:QT):Prop :=
 nw w Z24 24 fun b1 w2 =>
 nw w2 Z24 24 fun b3 w4 =>
 vIf x0.isNone
 (ldA 32 w4 b3 0 fun a5 =>
 gd (a5.length == 32) <|
 st w4 b1 0 a5 fun w6 =>
 ldA 32 w6 b1 0 fun a7 =>
 Q (ofL a7) w6)
 (dr x0 fun b8 o9 =>
 ldA 8 w4 b8 o9 fun a10 =>
 nw w4 Z171 171 fun b11 w12 =>
 gd (a10.length == 8) <|
 st w12 b11 0 a10 fun w13 =>
 Calls Tryz.prog 101 #[VP x0] w13 fun e15 w14 =>
 ∃ (A16:Option Addr) (n17 c18:Nat),e15=.returned (VS A16 n17 c18)/\(
 jnC (F70.l6 Q) ((b1,0),(b3,0),(b11,0),(A16,n17,c18),()) w14))
def F70.an:Ann:=⟨[(6,[(2,.kL),(3,.kL),(4,.kL),(5,.kSl)]),(10,[(2,.kL),(3,.kL),(26,.kA),(27,.kI .i64)])],[]⟩
theorem F70.of (x0:Option Addr) (w:World) {Q:QT} (h:F70.vc x0 w Q):Calls Tryz.prog 70 #[VP x0] w (fun e w'=>∃ v,e=.returned v/\Q v w'):=vcFn_of (A:=F70.an) noCount mixed h (by kernel_rfl)
def F44.vc (x0A:Option Addr) (x0n x0c:Nat) (w:World) (Q:QT):Prop :=
 nw w Z24 24 fun b1 w2 =>
 Calls Tryz.prog 68 #[] w2 fun e4 w3 =>
 ∃ p5:Option Addr,e4=.returned (VP p5)/\(
 Calls Tryz.prog 69 #[VP p5,VS x0A x0n x0c] w3 fun e7 w6 =>
 e7=.returned (VT #[])/\(
 Calls Tryz.prog 70 #[VP p5] w6 fun e9 w8 =>
 ∃ a10:List Value,e9=.returned (ofL a10)/\(
 gd (a10.length == 32) <|
 st w8 b1 0 a10 fun w11 =>
 ldA 32 w11 b1 0 fun a12 =>
 Q (ofL a12) w11)))
def F44.an:Ann:=⟨[],[]⟩
theorem F44.of (x0A:Option Addr) (x0n x0c:Nat) (w:World) {Q:QT} (h:F44.vc x0A x0n x0c w Q):Calls Tryz.prog 44 #[VS x0A x0n x0c] w (fun e w'=>∃ v,e=.returned v/\Q v w'):=vcFn_of (A:=F44.an) noCount mixed h (by kernel_rfl)
def F3.vc (x0:List Value) (x1:List Value) (w:World) (Q:QT):Prop :=
 nw w x0 28 fun b1 w2 =>
 nw w2 x1 31 fun b3 w4 =>
 ldA 39 w4 b1 0 fun a5 =>
 Calls Tryz.prog 4 #[VP none,ofL a5] w4 fun e7 w6 =>
 ∃ a8:List Value,∃ i9:Int,e7=.returned (VT #[ofL a8,VI .i64 i9])/\(
 nw w6 Z34 34 fun b10 w11 =>
 gd (a8.length == 38) <|
 st w11 b10 0 a8 fun w12 =>
 ldA 38 w12 b3 0 fun a13 =>
 Calls Tryz.prog 5 #[VP none,ofL a13] w12 fun e15 w14 =>
 ∃ (A16:Option Addr) (n17 c18:Nat),∃ i19:Int,e15=.returned (VT #[VS A16 n17 c18,VI .i64 i19])/\(
 ldA 38 w14 b10 0 fun a20 =>
 Calls Tryz.prog 6 #[ofL a20,ofL ([VI .i64 0] ++ ([VI .u64 0] ++ ([VI .u8 0,VI .u8 0,VI .u8 0,VI .u8 0,VI .u8 0,VI .u8 0,VI .u8 0,VI .u8 0,VI .u8 0,VI .u8 0,VI .u8 0,VI .u8 0,VI .u8 0,VI .u8 0,VI .u8 0,VI .u8 0,VI .u8 0,VI .u8 0,VI .u8 0,VI .u8 0,VI .u8 0,VI .u8 0,VI .u8 0,VI .u8 0,VI .u8 0,VI .u8 0,VI .u8 0,VI .u8 0,VI .u8 0,VI .u8 0,VI .u8 0,VI .u8 0] ++ ([VG (⟨#[]⟩:ByteArray)] ++ ([VS none 0 0] ++ ([VI .i64 0] ++ ([VI .i64 0] ++ [])))))))] w14 fun e22 w21 =>
 ∃ t23:Bool,e22=.returned (VB t23)/\(
 vIf t23
 (vIf (i9 == 1)
 (vIf ((n17:Int) == 0)
 (vIf (i19 == 1)
 (Calls Tryz.prog 7 #[] w21 fun e25 w24 =>
 ∃ t26:Bool,e25=.returned (VB t26)/\(
 Q (VB t26) w24))
 (Q (VB false) w21))
 (Q (VB false) w21))
 (Q (VB false) w21))
 (Q (VB false) w21))))
def F3.an:Ann:=⟨[],[]⟩
theorem F3.of (x0:List Value) (x1:List Value) (w:World) {Q:QT} (h:F3.vc x0 x1 w Q):Calls Tryz.prog 3 #[ofL x0,ofL x1] w (fun e w'=>∃ v,e=.returned v/\Q v w'):=vcFn_of (A:=F3.an) noCount mixed h (by kernel_rfl)
def F7.k6c (Q:QT) (x2:Option Addr) (x3:ST) (w:World):Prop :=
 dr x3.1 fun b24 o25 =>
 gd (decide ((0:Int) < (x3.2.1:Int))) <|
 ldA 32 w.drew b24 (o25+2) fun a26 =>
 dr x3.1 fun b27 o28 =>
 gd (decide ((0:Int) < (x3.2.1:Int))) <|
 ldA 3 w.drew b27 (o28+36) fun a29 =>
 gd (a26.length == 32) <|
 gd (a29.length == 3) <|
 Calls Tryz.prog 5 #[VP x2,ofL (a26 ++ ([VI .i64 1] ++ ([VI .i64 2] ++ (a29 ++ ([VS none 0 0] ++ [])))))] w.drew fun e31 w30 =>
 ∃ (A32:Option Addr) (n33 c34:Nat),∃ i35:Int,e31=.returned (VT #[VS A32 n33 c34,VI .i64 i35])/\(
 vIf (i35 == 0)
 (b2s w30 A32 n33 fun s36 =>
 Q (VB (s36.toList == (⟨#[120,121]⟩:ByteArray).toList)) w30)
 (Q (VB false) w30))
def F7.k6 (Q:QT):(Option Addr×ST×Unit)->WT:=fun s w=>∀ _:Nat->Value,F7.k6c Q s.1 s.2.1 w
def F7.vc  (w:World) (Q:QT):Prop :=
 Calls Tryz.prog 14 #[ofL ([VI .i64 9000] ++ ([VI .i64 9] ++ []))] w fun e2 w1 =>
 ∃ p3:Option Addr,e2=.returned (VP p3)/\(
 Calls Tryz.prog 15 #[VP p3,ofL ([VI .i64 1024] ++ ([VI .i64 4] ++ ([VI .i64 0] ++ ([VI .i64 0] ++ ([VI .i64 0] ++ ([Value.float .f64 0] ++ [])))))),ofL ([VI .i64 0] ++ ([VI .i64 0] ++ ([VI .i64 0] ++ ([VB false] ++ ([VI .u64 0] ++ [])))))] w1 fun e5 w4 =>
 ∃ p6:Option Addr,e5=.returned (VP p6)/\(
 nw w4 ([VI .u8 120] ++ ([VI .u8 121] ++ [])) 5 fun b7 w8 =>
 mkS w8 b7 fun w9 =>
 Calls Tryz.prog 17 #[VS (some ⟨b7,0,none⟩) 2 2] w9 fun e11 w10 =>
 ∃ a12:List Value,e11=.returned (ofL a12)/\(
 nw w10 ([VI .u8 120] ++ ([VI .u8 121] ++ [])) 5 fun b13 w14 =>
 mkS w14 b13 fun w15 =>
 gd (a12.length == 32) <|
 gd (([VI .i64 1] ++ ([VI .u64 0] ++ (a12 ++ ([VG (⟨#[]⟩:ByteArray)] ++ ([VS (some ⟨b13,0,none⟩) 2 2] ++ ([VI .i64 0] ++ ([VI .i64 0] ++ []))))))).length == 38) <|
 nw w15 (([VI .i64 1] ++ ([VI .u64 0] ++ (a12 ++ ([VG (⟨#[]⟩:ByteArray)] ++ ([VS (some ⟨b13,0,none⟩) 2 2] ++ ([VI .i64 0] ++ ([VI .i64 0] ++ []))))))) ++ []) 34 fun b16 w17 =>
 Calls Tryz.prog 16 #[VP p6,VS (some ⟨b16,0,none⟩) 1 1,VI .i64 1] w17 fun e19 w18 =>
 ∃ (A20:Option Addr) (n21 c22:Nat),∃ i23:Int,e19=.returned (VT #[VS A20 n21 c22,VI .i64 i23])/\(
 vIf (i23 != 0)
 (Q (VB false) w18)
 (vIf ((n21:Int) != 1)
 (Q (VB false) w18)
 (jnC (F7.k6 Q) (p6,(A20,n21,c22),()) w18))))))
def F7.an:Ann:=⟨[],[(6,[(2,.kP),(3,.kSl)])]⟩
theorem F7.of  (w:World) {Q:QT} (h:F7.vc  w Q):Calls Tryz.prog 7 #[] w (fun e w'=>∃ v,e=.returned v/\Q v w'):=vcFn_of (A:=F7.an) noCount mixed h (by kernel_rfl)
def F4.k12c (Q:QT) (x4:NT) (x8:NT) (w:World):Prop :=
 ldA 38 w x8.1 x8.2 fun a28 =>
 gd (a28.length == 38) <|
 st w x4.1 x4.2 a28 fun w29 =>
 ldA 38 w29 x4.1 x4.2 fun a30 =>
 Q (VT #[ofL a30,VI .i64 0]) w29
def F4.k12 (Q:QT):(NT×NT×Unit)->WT:=fun s w=>∀ _:Nat->Value,F4.k12c Q s.1 s.2.1 w
def F4.k11c (Q:QT) (x4:NT) (x8:NT) (x54:Bool) (w:World):Prop :=
 vIf x54
 (gd (([VI .i64 0] ++ ([VI .u64 0] ++ ([VI .u8 0,VI .u8 0,VI .u8 0,VI .u8 0,VI .u8 0,VI .u8 0,VI .u8 0,VI .u8 0,VI .u8 0,VI .u8 0,VI .u8 0,VI .u8 0,VI .u8 0,VI .u8 0,VI .u8 0,VI .u8 0,VI .u8 0,VI .u8 0,VI .u8 0,VI .u8 0,VI .u8 0,VI .u8 0,VI .u8 0,VI .u8 0,VI .u8 0,VI .u8 0,VI .u8 0,VI .u8 0,VI .u8 0,VI .u8 0,VI .u8 0,VI .u8 0] ++ ([VG (⟨#[]⟩:ByteArray)] ++ ([VS none 0 0] ++ ([VI .i64 0] ++ ([VI .i64 0] ++ []))))))).length == 38) <|
 st w x4.1 x4.2 ([VI .i64 0] ++ ([VI .u64 0] ++ ([VI .u8 0,VI .u8 0,VI .u8 0,VI .u8 0,VI .u8 0,VI .u8 0,VI .u8 0,VI .u8 0,VI .u8 0,VI .u8 0,VI .u8 0,VI .u8 0,VI .u8 0,VI .u8 0,VI .u8 0,VI .u8 0,VI .u8 0,VI .u8 0,VI .u8 0,VI .u8 0,VI .u8 0,VI .u8 0,VI .u8 0,VI .u8 0,VI .u8 0,VI .u8 0,VI .u8 0,VI .u8 0,VI .u8 0,VI .u8 0,VI .u8 0,VI .u8 0] ++ ([VG (⟨#[]⟩:ByteArray)] ++ ([VS none 0 0] ++ ([VI .i64 0] ++ ([VI .i64 0] ++ []))))))) fun w26 =>
 ldA 38 w26 x4.1 x4.2 fun a27 =>
 Q (VT #[ofL a27,VI .i64 19]) w26)
 (jnC (F4.k12 Q) ((x4.1,x4.2),(x8.1,x8.2),()) w)
def F4.k11 (Q:QT):(NT×NT×Bool×Unit)->WT:=fun s w=>∀ _:Nat->Value,F4.k11c Q s.1 s.2.1 s.2.2.1 w
def F4.vc (x0:Option Addr) (x1:List Value) (w:World) (Q:QT):Prop :=
 nw w x1 28 fun b1 w2 =>
 nw w2 Z34 34 fun b3 w4 =>
 vIf x0.isNone
 (gd (([VI .i64 0] ++ ([VI .u64 0] ++ ([VI .u8 0,VI .u8 0,VI .u8 0,VI .u8 0,VI .u8 0,VI .u8 0,VI .u8 0,VI .u8 0,VI .u8 0,VI .u8 0,VI .u8 0,VI .u8 0,VI .u8 0,VI .u8 0,VI .u8 0,VI .u8 0,VI .u8 0,VI .u8 0,VI .u8 0,VI .u8 0,VI .u8 0,VI .u8 0,VI .u8 0,VI .u8 0,VI .u8 0,VI .u8 0,VI .u8 0,VI .u8 0,VI .u8 0,VI .u8 0,VI .u8 0,VI .u8 0] ++ ([VG (⟨#[]⟩:ByteArray)] ++ ([VS none 0 0] ++ ([VI .i64 0] ++ ([VI .i64 0] ++ []))))))).length == 38) <|
 st w4 b3 0 ([VI .i64 0] ++ ([VI .u64 0] ++ ([VI .u8 0,VI .u8 0,VI .u8 0,VI .u8 0,VI .u8 0,VI .u8 0,VI .u8 0,VI .u8 0,VI .u8 0,VI .u8 0,VI .u8 0,VI .u8 0,VI .u8 0,VI .u8 0,VI .u8 0,VI .u8 0,VI .u8 0,VI .u8 0,VI .u8 0,VI .u8 0,VI .u8 0,VI .u8 0,VI .u8 0,VI .u8 0,VI .u8 0,VI .u8 0,VI .u8 0,VI .u8 0,VI .u8 0,VI .u8 0,VI .u8 0,VI .u8 0] ++ ([VG (⟨#[]⟩:ByteArray)] ++ ([VS none 0 0] ++ ([VI .i64 0] ++ ([VI .i64 0] ++ []))))))) fun w5 =>
 ldA 38 w5 b3 0 fun a6 =>
 Q (VT #[ofL a6,VI .i64 1]) w5)
 (ldA 3 w4 b1 (0+36) fun a7 =>
 Calls Tryz.prog 8 #[VP x0,ofL a7] w4 fun e9 w8 =>
 ∃ (A10:Option Addr) (n11 c12:Nat),∃ i13:Int,e9=.returned (VT #[VS A10 n11 c12,VI .i64 i13])/\(
 vIf (i13 == 11)
 (gd (([VI .i64 0] ++ ([VI .u64 0] ++ ([VI .u8 0,VI .u8 0,VI .u8 0,VI .u8 0,VI .u8 0,VI .u8 0,VI .u8 0,VI .u8 0,VI .u8 0,VI .u8 0,VI .u8 0,VI .u8 0,VI .u8 0,VI .u8 0,VI .u8 0,VI .u8 0,VI .u8 0,VI .u8 0,VI .u8 0,VI .u8 0,VI .u8 0,VI .u8 0,VI .u8 0,VI .u8 0,VI .u8 0,VI .u8 0,VI .u8 0,VI .u8 0,VI .u8 0,VI .u8 0,VI .u8 0,VI .u8 0] ++ ([VG (⟨#[]⟩:ByteArray)] ++ ([VS none 0 0] ++ ([VI .i64 0] ++ ([VI .i64 0] ++ []))))))).length == 38) <|
 st w8 b3 0 ([VI .i64 0] ++ ([VI .u64 0] ++ ([VI .u8 0,VI .u8 0,VI .u8 0,VI .u8 0,VI .u8 0,VI .u8 0,VI .u8 0,VI .u8 0,VI .u8 0,VI .u8 0,VI .u8 0,VI .u8 0,VI .u8 0,VI .u8 0,VI .u8 0,VI .u8 0,VI .u8 0,VI .u8 0,VI .u8 0,VI .u8 0,VI .u8 0,VI .u8 0,VI .u8 0,VI .u8 0,VI .u8 0,VI .u8 0,VI .u8 0,VI .u8 0,VI .u8 0,VI .u8 0,VI .u8 0,VI .u8 0] ++ ([VG (⟨#[]⟩:ByteArray)] ++ ([VS none 0 0] ++ ([VI .i64 0] ++ ([VI .i64 0] ++ []))))))) fun w14 =>
 ldA 38 w14 b3 0 fun a15 =>
 Q (VT #[ofL a15,VI .i64 i13]) w14)
 (vIf (i13 != 0)
 (gd (([VI .i64 0] ++ ([VI .u64 0] ++ ([VI .u8 0,VI .u8 0,VI .u8 0,VI .u8 0,VI .u8 0,VI .u8 0,VI .u8 0,VI .u8 0,VI .u8 0,VI .u8 0,VI .u8 0,VI .u8 0,VI .u8 0,VI .u8 0,VI .u8 0,VI .u8 0,VI .u8 0,VI .u8 0,VI .u8 0,VI .u8 0,VI .u8 0,VI .u8 0,VI .u8 0,VI .u8 0,VI .u8 0,VI .u8 0,VI .u8 0,VI .u8 0,VI .u8 0,VI .u8 0,VI .u8 0,VI .u8 0] ++ ([VG (⟨#[]⟩:ByteArray)] ++ ([VS none 0 0] ++ ([VI .i64 0] ++ ([VI .i64 0] ++ []))))))).length == 38) <|
 st w8 b3 0 ([VI .i64 0] ++ ([VI .u64 0] ++ ([VI .u8 0,VI .u8 0,VI .u8 0,VI .u8 0,VI .u8 0,VI .u8 0,VI .u8 0,VI .u8 0,VI .u8 0,VI .u8 0,VI .u8 0,VI .u8 0,VI .u8 0,VI .u8 0,VI .u8 0,VI .u8 0,VI .u8 0,VI .u8 0,VI .u8 0,VI .u8 0,VI .u8 0,VI .u8 0,VI .u8 0,VI .u8 0,VI .u8 0,VI .u8 0,VI .u8 0,VI .u8 0,VI .u8 0,VI .u8 0,VI .u8 0,VI .u8 0] ++ ([VG (⟨#[]⟩:ByteArray)] ++ ([VS none 0 0] ++ ([VI .i64 0] ++ ([VI .i64 0] ++ []))))))) fun w16 =>
 ldA 38 w16 b3 0 fun a17 =>
 Q (VT #[ofL a17,VI .i64 19]) w16)
 (Calls Tryz.prog 9 #[VS A10 n11 c12,VI .i64 0] w8 fun e19 w18 =>
 ∃ a20:List Value,∃ i21:Int,∃ i22:Int,e19=.returned (VT #[ofL a20,VI .i64 i21,VI .i64 i22])/\(
 nw w18 Z34 34 fun b23 w24 =>
 gd (a20.length == 38) <|
 st w24 b23 0 a20 fun w25 =>
 vIf (i22 != 0)
 (jnC (F4.k11 Q) ((b3,0),(b23,0),true,()) w25)
 (vIf (i21 != (n11:Int))
 (jnC (F4.k11 Q) ((b3,0),(b23,0),true,()) w25)
 (Calls Tryz.prog 10 #[VP (some ⟨b23,0,none⟩),VP (some ⟨b1,0,none⟩)] w25 fun e32 w31 =>
 ∃ t33:Bool,e32=.returned (VB t33)/\(
 vIf (!t33)
 (jnC (F4.k11 Q) ((b3,0),(b23,0),true,()) w31)
 (ldA 38 w31 b23 0 fun a34 =>
 Calls Tryz.prog 12 #[ofL a34] w31 fun e36 w35 =>
 ∃ t37:Bool,e36=.returned (VB t37)/\(
 jnC (F4.k11 Q) ((b3,0),(b23,0),(!t37),()) w35))))))))))
def F4.an:Ann:=⟨[],[(11,[(4,.kL),(8,.kL),(54,.kB)]),(12,[(4,.kL),(8,.kL)])]⟩
theorem F4.of (x0:Option Addr) (x1:List Value) (w:World) {Q:QT} (h:F4.vc x0 x1 w Q):Calls Tryz.prog 4 #[VP x0,ofL x1] w (fun e w'=>∃ v,e=.returned v/\Q v w'):=vcFn_of (A:=F4.an) noCount mixed h (by kernel_rfl)
def F5.k5c (Q:QT) (x0:Option Addr) (x3:NT) (w:World):Prop :=
 ldI .i64 w x3.1 (x3.2+32) fun i5 =>
 ldA 32 w x3.1 x3.2 fun a6 =>
 ldI .i64 w x3.1 (x3.2+33) fun i7 =>
 ldA 3 w x3.1 (x3.2+34) fun a8 =>
 gd (a6.length == 32) <|
 gd (a8.length == 3) <|
 Calls Tryz.prog 4 #[VP x0,ofL ([VI .i64 i5] ++ ([VI .u64 0] ++ (a6 ++ ([VG (⟨#[]⟩:ByteArray)] ++ ([VI .i64 i7] ++ (a8 ++ []))))))] w fun e10 w9 =>
 ∃ a11:List Value,∃ i12:Int,e10=.returned (VT #[ofL a11,VI .i64 i12])/\(
 nw w9 Z34 34 fun b13 w14 =>
 gd (a11.length == 38) <|
 st w14 b13 0 a11 fun w15 =>
 ldSl w15 b13 (0+35) fun A16 n17 c18 =>
 Q (VT #[VS A16 n17 c18,VI .i64 i12]) w15)
def F5.k5 (Q:QT):(Option Addr×NT×Unit)->WT:=fun s w=>∀ _:Nat->Value,F5.k5c Q s.1 s.2.1 w
def F5.vc (x0:Option Addr) (x1:List Value) (w:World) (Q:QT):Prop :=
 nw w x1 31 fun b1 w2 =>
 vIf x0.isNone
 (Q (VT #[VS none 0 0,VI .i64 1]) w2)
 (ldI .i64 w2 b1 (0+32) fun i3 =>
 vIf (i3 != 1)
 (ldI .i64 w2 b1 (0+32) fun i4 =>
 vIf (i4 != 2)
 (Q (VT #[VS none 0 0,VI .i64 6]) w2)
 (jnC (F5.k5 Q) (x0,(b1,0),()) w2))
 (jnC (F5.k5 Q) (x0,(b1,0),()) w2))
def F5.an:Ann:=⟨[],[(5,[(0,.kP),(3,.kL)])]⟩
theorem F5.of (x0:Option Addr) (x1:List Value) (w:World) {Q:QT} (h:F5.vc x0 x1 w Q):Calls Tryz.prog 5 #[VP x0,ofL x1] w (fun e w'=>∃ v,e=.returned v/\Q v w'):=vcFn_of (A:=F5.an) noCount mixed h (by kernel_rfl)
def F10.vc (x0:Nat×Nat) (x1:Nat×Nat) (w:World) (Q:QT):Prop :=
 ldA 38 w x0.1 x0.2 fun a1 =>
 ldA 3 w x1.1 (x1.2+36) fun a2 =>
 Calls Tryz.prog 11 #[ofL a1,ofL a2] w fun e4 w3 =>
 ∃ a5:List Value,e4=.returned (ofL a5)/\(
 nw w3 Z28 28 fun b6 w7 =>
 gd (a5.length == 39) <|
 st w7 b6 0 a5 fun w8 =>
 ldI .u64 w8 x1.1 (x1.2+1) fun i9 =>
 st w8 b6 (0+1) [VI .u64 i9] fun w10 =>
 ldA 39 w10 b6 0 fun a11 =>
 ldA 39 w10 x1.1 x1.2 fun a12 =>
 eqPl PK27 a11 a12 fun t13 =>
 Q (VB t13) w10)
def F10.an:Ann:=⟨[],[]⟩
theorem F10.of (x0:Nat×Nat) (x1:Nat×Nat) (w:World) {Q:QT} (h:F10.vc x0 x1 w Q):Calls Tryz.prog 10 #[VP (some ⟨x0.1,x0.2,none⟩),VP (some ⟨x1.1,x1.2,none⟩)] w (fun e w'=>∃ v,e=.returned v/\Q v w'):=vcFn_of (A:=F10.an) noCount mixed h (by kernel_rfl)
def F12.vc (x0:List Value) (w:World) (Q:QT):Prop :=
 nw w x0 34 fun b1 w2 =>
 ldI .i64 w2.drew b1 0 fun i3 =>
 vIf (i3 != 1)
 (ldI .i64 w2.drew b1 0 fun i4 =>
 vIf (i4 != 2)
 (Q (VB true) w2.drew)
 (ldSl w2.drew b1 (0+35) fun A5 n6 c7 =>
 ldA 32 w2.drew b1 (0+2) fun a8 =>
 Calls Tryz.prog 24 #[VS A5 n6 c7] w2.drew fun e10 w9 =>
 ∃ a11:List Value,e10=.returned (ofL a11)/\(
 kp w2.drew b1 (0+2) 32 w9 <|
 eqAB 32 a11 a8 fun t12 =>
 Q (VB t12) w9)))
 (ldSl w2.drew b1 (0+35) fun A13 n14 c15 =>
 ldA 32 w2.drew b1 (0+2) fun a16 =>
 Calls Tryz.prog 24 #[VS A13 n14 c15] w2.drew fun e18 w17 =>
 ∃ a19:List Value,e18=.returned (ofL a19)/\(
 kp w2.drew b1 (0+2) 32 w17 <|
 eqAB 32 a19 a16 fun t20 =>
 Q (VB t20) w17))
def F12.an:Ann:=⟨[],[]⟩
theorem F12.of (x0:List Value) (w:World) {Q:QT} (h:F12.vc x0 w Q):Calls Tryz.prog 12 #[ofL x0] w (fun e w'=>∃ v,e=.returned v/\Q v w'):=vcFn_of (A:=F12.an) noCount mixed h (by kernel_rfl)
def F24.vc (x0A:Option Addr) (x0n x0c:Nat) (w:World) (Q:QT):Prop :=
 nw w Z24 24 fun b1 w2 =>
 Calls Tryz.prog 44 #[VS x0A x0n x0c] w2 fun e4 w3 =>
 ∃ a5:List Value,e4=.returned (ofL a5)/\(
 gd (a5.length == 32) <|
 st w3 b1 0 a5 fun w6 =>
 ldA 32 w6 b1 0 fun a7 =>
 Q (ofL a7) w6)
def F24.an:Ann:=⟨[],[]⟩
theorem F24.of (x0A:Option Addr) (x0n x0c:Nat) (w:World) {Q:QT} (h:F24.vc x0A x0n x0c w Q):Calls Tryz.prog 24 #[VS x0A x0n x0c] w (fun e w'=>∃ v,e=.returned v/\Q v w'):=vcFn_of (A:=F24.an) noCount mixed h (by kernel_rfl)
def F17.vc (x0A:Option Addr) (x0n x0c:Nat) (w:World) (Q:QT):Prop :=
 nw w Z24 24 fun b1 w2 =>
 Calls Tryz.prog 32 #[] w2 fun e4 w3 =>
 ∃ (A5:Option Addr) (n6 c7:Nat),∃ (A8:Option Addr) (n9 c10:Nat),e4=.returned (VT #[VS A5 n6 c7,VS A8 n9 c10])/\(
 Calls Tryz.prog 33 #[VS x0A x0n x0c,VS A5 n6 c7,VS A8 n9 c10] w3 fun e12 w11 =>
 ∃ a13:List Value,e12=.returned (ofL a13)/\(
 gd (a13.length == 32) <|
 st w11 b1 0 a13 fun w14 =>
 ldA 32 w14 b1 0 fun a15 =>
 Q (ofL a15) w14))
def F17.an:Ann:=⟨[],[]⟩
theorem F17.of (x0A:Option Addr) (x0n x0c:Nat) (w:World) {Q:QT} (h:F17.vc x0A x0n x0c w Q):Calls Tryz.prog 17 #[VS x0A x0n x0c] w (fun e w'=>∃ v,e=.returned v/\Q v w'):=vcFn_of (A:=F17.an) noCount mixed h (by kernel_rfl)
def F32.vc  (w:World) (Q:QT):Prop :=
 nw w ([VI .u32 1116352408] ++ ([VI .u32 1899447441] ++ ([VI .u32 3049323471] ++ ([VI .u32 3921009573] ++ ([VI .u32 961987163] ++ ([VI .u32 1508970993] ++ ([VI .u32 2453635748] ++ ([VI .u32 2870763221] ++ ([VI .u32 3624381080] ++ ([VI .u32 310598401] ++ ([VI .u32 607225278] ++ ([VI .u32 1426881987] ++ ([VI .u32 1925078388] ++ ([VI .u32 2162078206] ++ ([VI .u32 2614888103] ++ ([VI .u32 3248222580] ++ ([VI .u32 3835390401] ++ ([VI .u32 4022224774] ++ ([VI .u32 264347078] ++ ([VI .u32 604807628] ++ ([VI .u32 770255983] ++ ([VI .u32 1249150122] ++ ([VI .u32 1555081692] ++ ([VI .u32 1996064986] ++ ([VI .u32 2554220882] ++ ([VI .u32 2821834349] ++ ([VI .u32 2952996808] ++ ([VI .u32 3210313671] ++ ([VI .u32 3336571891] ++ ([VI .u32 3584528711] ++ ([VI .u32 113926993] ++ ([VI .u32 338241895] ++ ([VI .u32 666307205] ++ ([VI .u32 773529912] ++ ([VI .u32 1294757372] ++ ([VI .u32 1396182291] ++ ([VI .u32 1695183700] ++ ([VI .u32 1986661051] ++ ([VI .u32 2177026350] ++ ([VI .u32 2456956037] ++ ([VI .u32 2730485921] ++ ([VI .u32 2820302411] ++ ([VI .u32 3259730800] ++ ([VI .u32 3345764771] ++ ([VI .u32 3516065817] ++ ([VI .u32 3600352804] ++ ([VI .u32 4094571909] ++ ([VI .u32 275423344] ++ ([VI .u32 430227734] ++ ([VI .u32 506948616] ++ ([VI .u32 659060556] ++ ([VI .u32 883997877] ++ ([VI .u32 958139571] ++ ([VI .u32 1322822218] ++ ([VI .u32 1537002063] ++ ([VI .u32 1747873779] ++ ([VI .u32 1955562222] ++ ([VI .u32 2024104815] ++ ([VI .u32 2227730452] ++ ([VI .u32 2361852424] ++ ([VI .u32 2428436474] ++ ([VI .u32 2756734187] ++ ([VI .u32 3204031479] ++ ([VI .u32 3329325298] ++ [])))))))))))))))))))))))))))))))))))))))))))))))))))))))))))))))) 115 fun b1 w2 =>
 nw w2 ([VI .u32 1779033703] ++ ([VI .u32 3144134277] ++ ([VI .u32 1013904242] ++ ([VI .u32 2773480762] ++ ([VI .u32 1359893119] ++ ([VI .u32 2600822924] ++ ([VI .u32 528734635] ++ ([VI .u32 1541459225] ++ [])))))))) 115 fun b3 w4 =>
 Q (VT #[VS (some ⟨b1,0,none⟩) 64 64,VS (some ⟨b3,0,none⟩) 8 8]) w4
def F32.an:Ann:=⟨[],[]⟩
theorem F32.of  (w:World) {Q:QT} (h:F32.vc  w Q):Calls Tryz.prog 32 #[] w (fun e w'=>∃ v,e=.returned v/\Q v w'):=vcFn_of (A:=F32.an) noCount mixed h (by kernel_rfl)
def F33.b31c (Q:QT) (C3:(ST×ST×NT×ST×Int×Unit)->WT) (C31:(ST×ST×NT×ST×Int×ST×Int×Unit)->WT) (x1:ST) (x2:ST) (x6:NT) (x7:ST) (x8:Int) (x15:ST) (x23:Int) (w:World):Prop :=
 vIf (decide (x23 < 8))
 (dr x2.1 fun b159 o160 =>
 gd (decide (0<=x23)) <|
 gd (decide (x23 < (x2.2.1:Int))) <|
 ldI .u32 w.drew b159 (o160+(x23).toNat * 1) fun i161 =>
 dr x15.1 fun b162 o163 =>
 gd (decide (0<=x23)) <|
 gd (decide (x23 < (x15.2.1:Int))) <|
 ldI .u32 w.drew b162 (o163+(x23).toNat * 1) fun i164 =>
 dr x2.1 fun b165 o166 =>
 gd (decide (0<=x23)) <|
 gd (decide (x23 < (x2.2.1:Int))) <|
 st w.drew b165 (o166+(x23).toNat * 1) [VI .u32 (WR .u32 (i161+i164))] fun w167 =>
 jnC C31 ((x1.1,x1.2.1,x1.2.2),(x2.1,x2.2.1,x2.2.2),(x6.1,x6.2),(x7.1,x7.2.1,x7.2.2),x8,(x15.1,x15.2.1,x15.2.2),((WR .i64 (x23+1))),()) w167)
 (jnC C3 ((x1.1,x1.2.1,x1.2.2),(x2.1,x2.2.1,x2.2.2),(x6.1,x6.2),(x7.1,x7.2.1,x7.2.2),((WR .i64 (x8+64))),()) w)
def F33.b31 (Q:QT) (C3:(ST×ST×NT×ST×Int×Unit)->WT):(ST×ST×NT×ST×Int×ST×Int×Unit)->World->((ST×ST×NT×ST×Int×ST×Int×Unit)->WT)->Prop:=fun s w C31=>∀ _:Nat->Value,F33.b31c Q C3 C31 s.1 s.2.1 s.2.2.1 s.2.2.2.1 s.2.2.2.2.1 s.2.2.2.2.2.1 s.2.2.2.2.2.2.1 w
def F33.l31 (Q:QT) (C3:(ST×ST×NT×ST×Int×Unit)->WT):(ST×ST×NT×ST×Int×ST×Int×Unit)->WT:=fun s w=>∃ n,loopC (F33.b31 Q C3) n s w
def F33.b19c (Q:QT) (C3:(ST×ST×NT×ST×Int×Unit)->WT) (C19:(ST×ST×NT×ST×Int×ST×ST×Int×Unit)->WT) (x1:ST) (x2:ST) (x6:NT) (x7:ST) (x8:Int) (x9:ST) (x15:ST) (x16:Int) (w:World):Prop :=
 vIf (decide (x16 < 64))
 (dr x15.1 fun b72 o73 =>
 gd (decide ((4:Int) < (x15.2.1:Int))) <|
 ldI .u32 w.drew b72 (o73+4) fun i74 =>
 dr x15.1 fun b75 o76 =>
 gd (decide ((4:Int) < (x15.2.1:Int))) <|
 ldI .u32 w.drew b75 (o76+4) fun i77 =>
 dr x15.1 fun b78 o79 =>
 gd (decide ((4:Int) < (x15.2.1:Int))) <|
 ldI .u32 w.drew b78 (o79+4) fun i80 =>
 Calls Tryz.prog 54 #[VI .u32 i74,VI .u64 6] w.drew fun e82 w81 =>
 ∃ i83:Int,e82=.returned (VI .u32 i83)/\(
 kp w.drew b78 (o79+4) 1 w81 <|
 kp w.drew b75 (o76+4) 1 w81 <|
 Calls Tryz.prog 54 #[VI .u32 i77,VI .u64 11] w81 fun e85 w84 =>
 ∃ i86:Int,e85=.returned (VI .u32 i86)/\(
 kp w.drew b78 (o79+4) 1 w84 <|
 Calls Tryz.prog 54 #[VI .u32 i80,VI .u64 25] w84 fun e88 w87 =>
 ∃ i89:Int,e88=.returned (VI .u32 i89)/\(
 dr x15.1 fun b90 o91 =>
 gd (decide ((4:Int) < (x15.2.1:Int))) <|
 ldI .u32 w87.drew b90 (o91+4) fun i92 =>
 dr x15.1 fun b93 o94 =>
 gd (decide ((5:Int) < (x15.2.1:Int))) <|
 ldI .u32 w87.drew b93 (o94+5) fun i95 =>
 dr x15.1 fun b96 o97 =>
 gd (decide ((4:Int) < (x15.2.1:Int))) <|
 ldI .u32 w87.drew b96 (o97+4) fun i98 =>
 dr x15.1 fun b99 o100 =>
 gd (decide ((6:Int) < (x15.2.1:Int))) <|
 ldI .u32 w87.drew b99 (o100+6) fun i101 =>
 dr x15.1 fun b102 o103 =>
 gd (decide ((7:Int) < (x15.2.1:Int))) <|
 ldI .u32 w87.drew.drew b102 (o103+7) fun i104 =>
 dr x1.1 fun b105 o106 =>
 gd (decide (0<=x16)) <|
 gd (decide (x16 < (x1.2.1:Int))) <|
 ldI .u32 w87.drew.drew b105 (o106+(x16).toNat * 1) fun i107 =>
 dr x9.1 fun b108 o109 =>
 gd (decide (0<=x16)) <|
 gd (decide (x16 < (x9.2.1:Int))) <|
 ldI .u32 w87.drew.drew b108 (o109+(x16).toNat * 1) fun i110 =>
 dr x15.1 fun b111 o112 =>
 gd (decide ((0:Int) < (x15.2.1:Int))) <|
 ldI .u32 w87.drew.drew.drew b111 o112 fun i113 =>
 dr x15.1 fun b114 o115 =>
 gd (decide ((0:Int) < (x15.2.1:Int))) <|
 ldI .u32 w87.drew.drew.drew b114 o115 fun i116 =>
 dr x15.1 fun b117 o118 =>
 gd (decide ((0:Int) < (x15.2.1:Int))) <|
 ldI .u32 w87.drew.drew.drew b117 o118 fun i119 =>
 Calls Tryz.prog 54 #[VI .u32 i113,VI .u64 2] w87.drew.drew.drew fun e121 w120 =>
 ∃ i122:Int,e121=.returned (VI .u32 i122)/\(
 kp w87.drew.drew.drew b117 o118 1 w120 <|
 kp w87.drew.drew.drew b114 o115 1 w120 <|
 Calls Tryz.prog 54 #[VI .u32 i116,VI .u64 13] w120 fun e124 w123 =>
 ∃ i125:Int,e124=.returned (VI .u32 i125)/\(
 kp w87.drew.drew.drew b117 o118 1 w123 <|
 Calls Tryz.prog 54 #[VI .u32 i119,VI .u64 22] w123 fun e127 w126 =>
 ∃ i128:Int,e127=.returned (VI .u32 i128)/\(
 dr x15.1 fun b129 o130 =>
 gd (decide ((0:Int) < (x15.2.1:Int))) <|
 ldI .u32 w126.drew b129 o130 fun i131 =>
 dr x15.1 fun b132 o133 =>
 gd (decide ((1:Int) < (x15.2.1:Int))) <|
 ldI .u32 w126.drew b132 (o133+1) fun i134 =>
 dr x15.1 fun b135 o136 =>
 gd (decide ((0:Int) < (x15.2.1:Int))) <|
 ldI .u32 w126.drew b135 o136 fun i137 =>
 dr x15.1 fun b138 o139 =>
 gd (decide ((2:Int) < (x15.2.1:Int))) <|
 ldI .u32 w126.drew b138 (o139+2) fun i140 =>
 dr x15.1 fun b141 o142 =>
 gd (decide ((1:Int) < (x15.2.1:Int))) <|
 ldI .u32 w126.drew b141 (o142+1) fun i143 =>
 dr x15.1 fun b144 o145 =>
 gd (decide ((2:Int) < (x15.2.1:Int))) <|
 ldI .u32 w126.drew b144 (o145+2) fun i146 =>
 nw w126.drew ([VI .u32 (WR .u32 ((WR .u32 ((WR .u32 ((WR .u32 ((WR .u32 ((WR .u32 (i104+(iXor .u32 (iXor .u32 i83 i86) i89)))+(iXor .u32 (iAnd .u32 i92 i95) (iAnd .u32 (iXor .u32 4294967295 i98) i101))))+i107))+i110))+(iXor .u32 (iXor .u32 i122 i125) i128)))+(iXor .u32 (iXor .u32 (iAnd .u32 i131 i134) (iAnd .u32 i137 i140)) (iAnd .u32 i143 i146))))] ++ []) 115 fun b147 w148 =>
 gd (decide ((7:Int)<=(x15.2.2:Int))) <|
 app w148 1 4 [VI .u32 0] 115 (some ⟨b147,0,none⟩) 1 1 (VS (slA x15.1 x15.2.2 0 1) 7 x15.2.2) fun A149 n150 c151 w152 =>
 dr A149 fun b153 o154 =>
 gd (decide ((4:Int) < (n150:Int))) <|
 ldI .u32 w152 b153 (o154+4) fun i155 =>
 dr A149 fun b156 o157 =>
 gd (decide ((4:Int) < (n150:Int))) <|
 st w152 b156 (o157+4) [VI .u32 (WR .u32 (i155+(WR .u32 ((WR .u32 ((WR .u32 ((WR .u32 (i104+(iXor .u32 (iXor .u32 i83 i86) i89)))+(iXor .u32 (iAnd .u32 i92 i95) (iAnd .u32 (iXor .u32 4294967295 i98) i101))))+i107))+i110))))] fun w158 =>
 jnC C19 ((x1.1,x1.2.1,x1.2.2),(x2.1,x2.2.1,x2.2.2),(x6.1,x6.2),(x7.1,x7.2.1,x7.2.2),x8,(x9.1,x9.2.1,x9.2.2),(A149,n150,c151),((WR .i64 (x16+1))),()) w158)))))))
 (jnC (F33.l31 Q C3) ((x1.1,x1.2.1,x1.2.2),(x2.1,x2.2.1,x2.2.2),(x6.1,x6.2),(x7.1,x7.2.1,x7.2.2),x8,(x15.1,x15.2.1,x15.2.2),(0),()) w)
def F33.b19 (Q:QT) (C3:(ST×ST×NT×ST×Int×Unit)->WT):(ST×ST×NT×ST×Int×ST×ST×Int×Unit)->World->((ST×ST×NT×ST×Int×ST×ST×Int×Unit)->WT)->Prop:=fun s w C19=>∀ _:Nat->Value,F33.b19c Q C3 C19 s.1 s.2.1 s.2.2.1 s.2.2.2.1 s.2.2.2.2.1 s.2.2.2.2.2.1 s.2.2.2.2.2.2.1 s.2.2.2.2.2.2.2.1 w
def F33.l19 (Q:QT) (C3:(ST×ST×NT×ST×Int×Unit)->WT):(ST×ST×NT×ST×Int×ST×ST×Int×Unit)->WT:=fun s w=>∃ n,loopC (F33.b19 Q C3) n s w
def F33.b12c (Q:QT) (C3:(ST×ST×NT×ST×Int×Unit)->WT) (C12:(ST×ST×NT×ST×Int×ST×Int×Unit)->WT) (x1:ST) (x2:ST) (x6:NT) (x7:ST) (x8:Int) (x9:ST) (x12:Int) (w:World):Prop :=
 vIf (decide (x12 < 64))
 (dr x9.1 fun b26 o27 =>
 gd (decide (0<=(WR .i64 (x12 - 15)))) <|
 gd (decide ((WR .i64 (x12 - 15)) < (x9.2.1:Int))) <|
 ldI .u32 w.drew b26 (o27+((WR .i64 (x12 - 15))).toNat * 1) fun i28 =>
 dr x9.1 fun b29 o30 =>
 gd (decide (0<=(WR .i64 (x12 - 15)))) <|
 gd (decide ((WR .i64 (x12 - 15)) < (x9.2.1:Int))) <|
 ldI .u32 w.drew b29 (o30+((WR .i64 (x12 - 15))).toNat * 1) fun i31 =>
 dr x9.1 fun b32 o33 =>
 gd (decide (0<=(WR .i64 (x12 - 15)))) <|
 gd (decide ((WR .i64 (x12 - 15)) < (x9.2.1:Int))) <|
 ldI .u32 w.drew b32 (o33+((WR .i64 (x12 - 15))).toNat * 1) fun i34 =>
 Calls Tryz.prog 54 #[VI .u32 i28,VI .u64 7] w.drew fun e36 w35 =>
 ∃ i37:Int,e36=.returned (VI .u32 i37)/\(
 kp w.drew b32 (o33+((WR .i64 (x12 - 15))).toNat * 1) 1 w35 <|
 kp w.drew b29 (o30+((WR .i64 (x12 - 15))).toNat * 1) 1 w35 <|
 Calls Tryz.prog 54 #[VI .u32 i31,VI .u64 18] w35 fun e39 w38 =>
 ∃ i40:Int,e39=.returned (VI .u32 i40)/\(
 kp w.drew b32 (o33+((WR .i64 (x12 - 15))).toNat * 1) 1 w38 <|
 dr x9.1 fun b41 o42 =>
 gd (decide (0<=(WR .i64 (x12 - 2)))) <|
 gd (decide ((WR .i64 (x12 - 2)) < (x9.2.1:Int))) <|
 ldI .u32 w38.drew b41 (o42+((WR .i64 (x12 - 2))).toNat * 1) fun i43 =>
 dr x9.1 fun b44 o45 =>
 gd (decide (0<=(WR .i64 (x12 - 2)))) <|
 gd (decide ((WR .i64 (x12 - 2)) < (x9.2.1:Int))) <|
 ldI .u32 w38.drew b44 (o45+((WR .i64 (x12 - 2))).toNat * 1) fun i46 =>
 dr x9.1 fun b47 o48 =>
 gd (decide (0<=(WR .i64 (x12 - 2)))) <|
 gd (decide ((WR .i64 (x12 - 2)) < (x9.2.1:Int))) <|
 ldI .u32 w38.drew b47 (o48+((WR .i64 (x12 - 2))).toNat * 1) fun i49 =>
 Calls Tryz.prog 54 #[VI .u32 i43,VI .u64 17] w38.drew fun e51 w50 =>
 ∃ i52:Int,e51=.returned (VI .u32 i52)/\(
 kp w38.drew b47 (o48+((WR .i64 (x12 - 2))).toNat * 1) 1 w50 <|
 kp w38.drew b44 (o45+((WR .i64 (x12 - 2))).toNat * 1) 1 w50 <|
 Calls Tryz.prog 54 #[VI .u32 i46,VI .u64 19] w50 fun e54 w53 =>
 ∃ i55:Int,e54=.returned (VI .u32 i55)/\(
 kp w38.drew b47 (o48+((WR .i64 (x12 - 2))).toNat * 1) 1 w53 <|
 dr x9.1 fun b56 o57 =>
 gd (decide (0<=(WR .i64 (x12 - 16)))) <|
 gd (decide ((WR .i64 (x12 - 16)) < (x9.2.1:Int))) <|
 ldI .u32 w53.drew b56 (o57+((WR .i64 (x12 - 16))).toNat * 1) fun i58 =>
 dr x9.1 fun b59 o60 =>
 gd (decide (0<=(WR .i64 (x12 - 7)))) <|
 gd (decide ((WR .i64 (x12 - 7)) < (x9.2.1:Int))) <|
 ldI .u32 w53.drew b59 (o60+((WR .i64 (x12 - 7))).toNat * 1) fun i61 =>
 nw w53.drew ([VI .u32 (WR .u32 ((WR .u32 ((WR .u32 (i58+(iXor .u32 (iXor .u32 i37 i40) (Int.fdiv i34 (2 ^ 3)))))+i61))+(iXor .u32 (iXor .u32 i52 i55) (Int.fdiv i49 (2 ^ 10)))))] ++ []) 115 fun b62 w63 =>
 app w63 1 4 [VI .u32 0] 115 x9.1 x9.2.1 x9.2.2 (VS (some ⟨b62,0,none⟩) 1 1) fun A64 n65 c66 w67 =>
 jnC C12 ((x1.1,x1.2.1,x1.2.2),(x2.1,x2.2.1,x2.2.2),(x6.1,x6.2),(x7.1,x7.2.1,x7.2.2),x8,(A64,n65,c66),((WR .i64 (x12+1))),()) w67)))))
 (app w 1 4 [VI .u32 0] 115 none 0 0 (VS x2.1 x2.2.1 x2.2.2) fun A68 n69 c70 w71 =>
 jnC (F33.l19 Q C3) ((x1.1,x1.2.1,x1.2.2),(x2.1,x2.2.1,x2.2.2),(x6.1,x6.2),(x7.1,x7.2.1,x7.2.2),x8,(x9.1,x9.2.1,x9.2.2),(A68,n69,c70),(0),()) w71)
def F33.b12 (Q:QT) (C3:(ST×ST×NT×ST×Int×Unit)->WT):(ST×ST×NT×ST×Int×ST×Int×Unit)->World->((ST×ST×NT×ST×Int×ST×Int×Unit)->WT)->Prop:=fun s w C12=>∀ _:Nat->Value,F33.b12c Q C3 C12 s.1 s.2.1 s.2.2.1 s.2.2.2.1 s.2.2.2.2.1 s.2.2.2.2.2.1 s.2.2.2.2.2.2.1 w
def F33.l12 (Q:QT) (C3:(ST×ST×NT×ST×Int×Unit)->WT):(ST×ST×NT×ST×Int×ST×Int×Unit)->WT:=fun s w=>∃ n,loopC (F33.b12 Q C3) n s w
def F33.b7c (Q:QT) (C3:(ST×ST×NT×ST×Int×Unit)->WT) (C7:(ST×ST×NT×ST×Int×ST×Int×Unit)->WT) (x1:ST) (x2:ST) (x6:NT) (x7:ST) (x8:Int) (x9:ST) (x10:Int) (w:World):Prop :=
 vIf (decide (x10 < 16))
 (dr x7.1 fun b8 o9 =>
 gd (decide (0<=(WR .i64 (x8+(WR .i64 (4 * x10)))))) <|
 gd (decide ((WR .i64 (x8+(WR .i64 (4 * x10)))) < (x7.2.1:Int))) <|
 ldI .u8 w.drew b8 (o9+((WR .i64 (x8+(WR .i64 (4 * x10))))).toNat * 1) fun i10 =>
 dr x7.1 fun b11 o12 =>
 gd (decide (0<=(WR .i64 ((WR .i64 (x8+(WR .i64 (4 * x10))))+1)))) <|
 gd (decide ((WR .i64 ((WR .i64 (x8+(WR .i64 (4 * x10))))+1)) < (x7.2.1:Int))) <|
 ldI .u8 w.drew b11 (o12+((WR .i64 ((WR .i64 (x8+(WR .i64 (4 * x10))))+1))).toNat * 1) fun i13 =>
 dr x7.1 fun b14 o15 =>
 gd (decide (0<=(WR .i64 ((WR .i64 (x8+(WR .i64 (4 * x10))))+2)))) <|
 gd (decide ((WR .i64 ((WR .i64 (x8+(WR .i64 (4 * x10))))+2)) < (x7.2.1:Int))) <|
 ldI .u8 w.drew b14 (o15+((WR .i64 ((WR .i64 (x8+(WR .i64 (4 * x10))))+2))).toNat * 1) fun i16 =>
 dr x7.1 fun b17 o18 =>
 gd (decide (0<=(WR .i64 ((WR .i64 (x8+(WR .i64 (4 * x10))))+3)))) <|
 gd (decide ((WR .i64 ((WR .i64 (x8+(WR .i64 (4 * x10))))+3)) < (x7.2.1:Int))) <|
 ldI .u8 w.drew b17 (o18+((WR .i64 ((WR .i64 (x8+(WR .i64 (4 * x10))))+3))).toNat * 1) fun i19 =>
 nw w.drew ([VI .u32 (WR .u32 ((WR .u32 ((WR .u32 ((WR .u32 ((WR .u32 i10) * 16777216))+(WR .u32 ((WR .u32 i13) * 65536))))+(WR .u32 ((WR .u32 i16) * 256))))+(WR .u32 i19)))] ++ []) 115 fun b20 w21 =>
 app w21 1 4 [VI .u32 0] 115 x9.1 x9.2.1 x9.2.2 (VS (some ⟨b20,0,none⟩) 1 1) fun A22 n23 c24 w25 =>
 jnC C7 ((x1.1,x1.2.1,x1.2.2),(x2.1,x2.2.1,x2.2.2),(x6.1,x6.2),(x7.1,x7.2.1,x7.2.2),x8,(A22,n23,c24),((WR .i64 (x10+1))),()) w25)
 (jnC (F33.l12 Q C3) ((x1.1,x1.2.1,x1.2.2),(x2.1,x2.2.1,x2.2.2),(x6.1,x6.2),(x7.1,x7.2.1,x7.2.2),x8,(x9.1,x9.2.1,x9.2.2),(16),()) w)
def F33.b7 (Q:QT) (C3:(ST×ST×NT×ST×Int×Unit)->WT):(ST×ST×NT×ST×Int×ST×Int×Unit)->World->((ST×ST×NT×ST×Int×ST×Int×Unit)->WT)->Prop:=fun s w C7=>∀ _:Nat->Value,F33.b7c Q C3 C7 s.1 s.2.1 s.2.2.1 s.2.2.2.1 s.2.2.2.2.1 s.2.2.2.2.2.1 s.2.2.2.2.2.2.1 w
def F33.l7 (Q:QT) (C3:(ST×ST×NT×ST×Int×Unit)->WT):(ST×ST×NT×ST×Int×ST×Int×Unit)->WT:=fun s w=>∃ n,loopC (F33.b7 Q C3) n s w
def F33.b36c (Q:QT) (C36:(ST×NT×NT×Int×Unit)->WT) (x2:ST) (x6:NT) (x24:NT) (x25:Int) (w:World):Prop :=
 vIf (decide (x25 < 32))
 (dr x2.1 fun b170 o171 =>
 gd (decide (0<=(WR .i64 (Int.tdiv x25 4)))) <|
 gd (decide ((WR .i64 (Int.tdiv x25 4)) < (x2.2.1:Int))) <|
 ldI .u32 w b170 (o171+((WR .i64 (Int.tdiv x25 4))).toNat * 1) fun i172 =>
 gd (decide (0<=(WR .u64 (WR .i64 (24 - (WR .i64 (8 * (Int.tmod x25 4)))))))) <|
 gd (decide (0<=x25)) <|
 gd (decide (x25 < 32)) <|
 st w x24.1 (x24.2+(x25).toNat * 1) [VI .u8 (WR .u8 (Int.fdiv i172 (2 ^ (min ((WR .u64 (WR .i64 (24 - (WR .i64 (8 * (Int.tmod x25 4))))))).toNat 32))))] fun w173 =>
 jnC C36 ((x2.1,x2.2.1,x2.2.2),(x6.1,x6.2),(x24.1,x24.2),((WR .i64 (x25+1))),()) w173)
 (ldA 32 w x24.1 x24.2 fun a174 =>
 gd (a174.length == 32) <|
 st w x6.1 x6.2 a174 fun w175 =>
 ldA 32 w175 x6.1 x6.2 fun a176 =>
 Q (ofL a176) w175)
def F33.b36 (Q:QT):(ST×NT×NT×Int×Unit)->World->((ST×NT×NT×Int×Unit)->WT)->Prop:=fun s w C36=>∀ _:Nat->Value,F33.b36c Q C36 s.1 s.2.1 s.2.2.1 s.2.2.2.1 w
def F33.l36 (Q:QT):(ST×NT×NT×Int×Unit)->WT:=fun s w=>∃ n,loopC (F33.b36 Q) n s w
def F33.b3c (Q:QT) (C3:(ST×ST×NT×ST×Int×Unit)->WT) (x1:ST) (x2:ST) (x6:NT) (x7:ST) (x8:Int) (w:World):Prop :=
 vIf (decide (x8 < (x7.2.1:Int)))
 (jnC (F33.l7 Q C3) ((x1.1,x1.2.1,x1.2.2),(x2.1,x2.2.1,x2.2.2),(x6.1,x6.2),(x7.1,x7.2.1,x7.2.2),x8,(none,0,0),(0),()) w)
 (nw w Z24 24 fun b168 w169 =>
 jnC (F33.l36 Q) ((x2.1,x2.2.1,x2.2.2),(x6.1,x6.2),(b168,0),(0),()) w169)
def F33.b3 (Q:QT):(ST×ST×NT×ST×Int×Unit)->World->((ST×ST×NT×ST×Int×Unit)->WT)->Prop:=fun s w C3=>∀ _:Nat->Value,F33.b3c Q C3 s.1 s.2.1 s.2.2.1 s.2.2.2.1 s.2.2.2.2.1 w
def F33.l3 (Q:QT):(ST×ST×NT×ST×Int×Unit)->WT:=fun s w=>∃ n,loopC (F33.b3 Q) n s w
def F33.vc (x0A:Option Addr) (x0n x0c:Nat) (x1A:Option Addr) (x1n x1c:Nat) (x2A:Option Addr) (x2n x2c:Nat) (w:World) (Q:QT):Prop :=
 nw w Z24 24 fun b1 w2 =>
 Calls Tryz.prog 53 #[VS x0A x0n x0c] w2 fun e4 w3 =>
 ∃ (A5:Option Addr) (n6 c7:Nat),e4=.returned (VS A5 n6 c7)/\(
 jnC (F33.l3 Q) ((x1A,x1n,x1c),(x2A,x2n,x2c),(b1,0),(A5,n6,c7),(0),()) w3)
def F33.an:Ann:=⟨[(3,[(1,.kSl),(2,.kSl),(6,.kL),(7,.kSl),(8,.kI .i64)]),(7,[(1,.kSl),(2,.kSl),(6,.kL),(7,.kSl),(8,.kI .i64),(9,.kSl),(10,.kI .i64)]),(12,[(1,.kSl),(2,.kSl),(6,.kL),(7,.kSl),(8,.kI .i64),(9,.kSl),(12,.kI .i64)]),(19,[(1,.kSl),(2,.kSl),(6,.kL),(7,.kSl),(8,.kI .i64),(9,.kSl),(15,.kSl),(16,.kI .i64)]),(31,[(1,.kSl),(2,.kSl),(6,.kL),(7,.kSl),(8,.kI .i64),(15,.kSl),(23,.kI .i64)]),(36,[(2,.kSl),(6,.kL),(24,.kL),(25,.kI .i64)])],[]⟩
theorem F33.of (x0A:Option Addr) (x0n x0c:Nat) (x1A:Option Addr) (x1n x1c:Nat) (x2A:Option Addr) (x2n x2c:Nat) (w:World) {Q:QT} (h:F33.vc x0A x0n x0c x1A x1n x1c x2A x2n x2c w Q):Calls Tryz.prog 33 #[VS x0A x0n x0c,VS x1A x1n x1c,VS x2A x2n x2c] w (fun e w'=>∃ v,e=.returned v/\Q v w'):=vcFn_of (A:=F33.an) noCount mixed h (by kernel_rfl)
def F53.b6c (Q:QT) (C6:(ST×Int×Int×Unit)->WT) (x3:ST) (x4:Int) (x5:Int) (w:World):Prop :=
 vIf (decide (x5 >= 0))
 (gd (decide (0<=(WR .u64 (WR .i64 (8 * x5))))) <|
 nw w ([VI .u8 (WR .u8 (Int.fdiv x4 (2 ^ (min ((WR .u64 (WR .i64 (8 * x5)))).toNat 64))))] ++ []) 5 fun b17 w18 =>
 app w18 1 1 [VI .u8 0] 5 x3.1 x3.2.1 x3.2.2 (VS (some ⟨b17,0,none⟩) 1 1) fun A19 n20 c21 w22 =>
 jnC C6 ((A19,n20,c21),x4,((WR .i64 (x5 - 1))),()) w22)
 (Q (VS x3.1 x3.2.1 x3.2.2) w)
def F53.b6 (Q:QT):(ST×Int×Int×Unit)->World->((ST×Int×Int×Unit)->WT)->Prop:=fun s w C6=>∀ _:Nat->Value,F53.b6c Q C6 s.1 s.2.1 s.2.2.1 w
def F53.l6 (Q:QT):(ST×Int×Int×Unit)->WT:=fun s w=>∃ n,loopC (F53.b6 Q) n s w
def F53.b2c (Q:QT) (C2:(ST×ST×Unit)->WT) (x0:ST) (x3:ST) (w:World):Prop :=
 vIf ((Int.tmod (x3.2.1:Int) 64) != 56)
 (nw w ([VI .u8 0] ++ []) 5 fun b11 w12 =>
 app w12 1 1 [VI .u8 0] 5 x3.1 x3.2.1 x3.2.2 (VS (some ⟨b11,0,none⟩) 1 1) fun A13 n14 c15 w16 =>
 jnC C2 ((x0.1,x0.2.1,x0.2.2),(A13,n14,c15),()) w16)
 (jnC (F53.l6 Q) ((x3.1,x3.2.1,x3.2.2),((WR .u64 ((WR .u64 (x0.2.1:Int)) * 8))),(7),()) w)
def F53.b2 (Q:QT):(ST×ST×Unit)->World->((ST×ST×Unit)->WT)->Prop:=fun s w C2=>∀ _:Nat->Value,F53.b2c Q C2 s.1 s.2.1 w
def F53.l2 (Q:QT):(ST×ST×Unit)->WT:=fun s w=>∃ n,loopC (F53.b2 Q) n s w
def F53.vc (x0A:Option Addr) (x0n x0c:Nat) (w:World) (Q:QT):Prop :=
 app w 1 1 [VI .u8 0] 5 none 0 0 (VS x0A x0n x0c) fun A1 n2 c3 w4 =>
 nw w4 ([VI .u8 128] ++ []) 5 fun b5 w6 =>
 app w6 1 1 [VI .u8 0] 5 A1 n2 c3 (VS (some ⟨b5,0,none⟩) 1 1) fun A7 n8 c9 w10 =>
 jnC (F53.l2 Q) ((x0A,x0n,x0c),(A7,n8,c9),()) w10
def F53.an:Ann:=⟨[(2,[(0,.kSl),(3,.kSl)]),(6,[(3,.kSl),(4,.kI .u64),(5,.kI .i64)])],[]⟩
theorem F53.of (x0A:Option Addr) (x0n x0c:Nat) (w:World) {Q:QT} (h:F53.vc x0A x0n x0c w Q):Calls Tryz.prog 53 #[VS x0A x0n x0c] w (fun e w'=>∃ v,e=.returned v/\Q v w'):=vcFn_of (A:=F53.an) noCount mixed h (by kernel_rfl)
def F54.vc (x0:Int) (x1:Int) (w:World) (Q:QT):Prop :=
 gd (decide (0<=x1)) <|
 gd (decide (0<=(WR .u64 (32 - x1)))) <|
 Q (VI .u32 (iOr .u32 (Int.fdiv x0 (2 ^ (min (x1).toNat 32))) (WR .u32 (x0 * 2 ^ (min ((WR .u64 (32 - x1))).toNat 32))))) w
def F54.an:Ann:=⟨[],[]⟩
theorem F54.of (x0:Int) (x1:Int) (w:World) {Q:QT} (h:F54.vc x0 x1 w Q):Calls Tryz.prog 54 #[VI .u32 x0,VI .u64 x1] w (fun e w'=>∃ v,e=.returned v/\Q v w'):=vcFn_of (A:=F54.an) noCount mixed h (by kernel_rfl)
def F6.vc (x0:List Value) (x1:List Value) (w:World) (Q:QT):Prop :=
 nw w x0 34 fun b1 w2 =>
 nw w2 x1 34 fun b3 w4 =>
 ldI .i64 w4 b1 0 fun i5 =>
 ldI .i64 w4 b3 0 fun i6 =>
 vIf (i5 == i6)
 (ldI .u64 w4 b1 (0+1) fun i7 =>
 ldI .u64 w4 b3 (0+1) fun i8 =>
 vIf (i7 == i8)
 (ldA 32 w4 b1 (0+2) fun a9 =>
 ldA 32 w4 b3 (0+2) fun a10 =>
 eqAB 32 a9 a10 fun t11 =>
 vIf t11
 (ldS w4 b1 (0+34) fun s12 =>
 ldS w4 b3 (0+34) fun s13 =>
 vIf (s12.toList == s13.toList)
 (ldSl w4 b1 (0+35) fun A14 n15 c16 =>
 ldSl w4 b3 (0+35) fun A17 n18 c19 =>
 Calls Tryz.prog 13 #[VS A14 n15 c16,VS A17 n18 c19] w4 fun e21 w20 =>
 ∃ t22:Bool,e21=.returned (VB t22)/\(
 vIf t22
 (ldI .i64 w20 b1 (0+36) fun i23 =>
 ldI .i64 w20 b3 (0+36) fun i24 =>
 vIf (i23 == i24)
 (ldI .i64 w20 b1 (0+37) fun i25 =>
 ldI .i64 w20 b3 (0+37) fun i26 =>
 Q (VB (i25 == i26)) w20)
 (Q (VB false) w20))
 (Q (VB false) w20)))
 (Q (VB false) w4))
 (Q (VB false) w4))
 (Q (VB false) w4))
 (Q (VB false) w4)
def F6.an:Ann:=⟨[],[]⟩
theorem F6.of (x0:List Value) (x1:List Value) (w:World) {Q:QT} (h:F6.vc x0 x1 w Q):Calls Tryz.prog 6 #[ofL x0,ofL x1] w (fun e w'=>∃ v,e=.returned v/\Q v w'):=vcFn_of (A:=F6.an) noCount mixed h (by kernel_rfl)
end Go.Proofs.YtkfanhdicnjdlaaGreatDoor
namespace Go.Proofs.YtkfanhdicnjdlaaGreatDoor
open Go.GV Go.RowKit Go.Lib
def cmpN (a b:ByteArray):Int:=compareBytes a.data.toList b.data.toList
theorem ba_ext {a b:ByteArray} (h:a.data.toList=b.data.toList):a=b:=by
 obtain ⟨⟨x⟩⟩:=a
 obtain ⟨⟨y⟩⟩:=b
 have h:x=y:=h
 rw [h]
theorem neq (a b:ByteArray):(a.toList == b.toList)=decide (a=b):=by
 rw [toList_data,toList_data,Bool.eq_iff_iff,beq_iff_eq,decide_eq_true_iff]
 exact ⟨ba_ext,fun h=>by rw [h]⟩
theorem cmpN_zero (a b:ByteArray):cmpN a b=0 ↔ a=b:=by
 unfold cmpN
 rw [cmp_zero]
 exact ⟨ba_ext,fun h=>by rw [h]⟩
theorem cmpN_self (a:ByteArray):cmpN a a=0:=(cmpN_zero a a).2 rfl
theorem cmpN_anti (a b:ByteArray):cmpN a b = - cmpN b a:=cmp_anti _ _
theorem cmpN_trans {a b c:ByteArray} (h1:cmpN a b < 0) (h2:cmpN b c < 0):cmpN a c < 0:=by
 have h:=cmp_trans a.data.toList b.data.toList c.data.toList (by unfold cmpN at h1; omega) (by unfold cmpN at h2; omega)
 have h:cmpN a c<=0:=h
 by_cases h0:cmpN a c=0
 ·have:=(cmpN_zero a c).1 h0
  subst this
  have:=cmpN_anti a b
  omega
 ·omega
theorem strcmp_calls (a b:ByteArray) (w:World):Calls Tryz.prog 121 #[.string a,.string b] w fun e w'=>e=.returned (.int .i64 (cmpN a b))/\w'=w:=by
 refine (F121.of a b w (Q:=fun v w'=>v=.int .i64 (cmpN a b)/\w'=w) ?_).mono (fun e w' ⟨v,he,hv,h⟩=>⟨by rw [he,hv],h⟩)
 refine (F141.of a b w (Q:=fun v w'=>v=.int .i64 (cmpN a b)/\w'=w) ?_).mono ?_
 ·exact ⟨_,Extern.BytealgCompare.compare,_,_,Tryz.func162,by kernel_rfl,by kernel_rfl,by kernel_rfl,Lib.run_compareString a b w,cmpN a b,rfl,rfl,rfl⟩
 ·rintro e w' ⟨v,rfl,rfl,rfl⟩
  exact ⟨_,rfl,rfl,rfl⟩
end Go.Proofs.YtkfanhdicnjdlaaGreatDoor
namespace Go.Stb
variable {α β:Type}
theorem get_mid {P R:List α} {x:α} {i:Nat} (hi:i=P.length):(P ++ x :: R)[i]?=some x:=by subst hi; simp
theorem set_mid {P R:List α} {x y:α} {i:Nat} (hi:i=P.length):(P ++ x :: R).set i y=P ++ y :: R:=by subst hi; simp
structure OrdC (cmp:β->β->Int):Prop where
 anti:∀ a b,cmp a b = - cmp b a
 trans:∀ a b c,cmp a b<=0->cmp b c<=0->cmp a c<=0
section
variable {cmp:β->β->Int}
def lt (cmp:β->β->Int) (x y:β×Nat):Prop:=cmp x.1 y.1 < 0\/(cmp x.1 y.1=0/\x.2 < y.2)
def Sorted (cmp:β->β->Int) (l:List (β×Nat)):Prop:=l.Pairwise (lt cmp)
def bef (x y:β×Nat):Prop:=x.2 < y.2
theorem OrdC.lt_le (h:OrdC cmp) {a b c:β} (h1:cmp a b < 0) (h2:cmp b c<=0):cmp a c < 0:=by
 have h3:=h.trans a b c (by omega) h2
 by_cases h0:cmp a c=0
 ·have h4:=h.anti c a
  have h5:=h.trans b c a h2 (by omega)
  have h6:=h.anti a b
  omega
 ·omega
theorem OrdC.le_lt (h:OrdC cmp) {a b c:β} (h1:cmp a b<=0) (h2:cmp b c < 0):cmp a c < 0:=by
 have h3:=h.trans a b c h1 (by omega)
 by_cases h0:cmp a c=0
 ·have h4:=h.anti c a
  have h5:=h.trans c a b (by omega) h1
  have h6:=h.anti b c
  omega
 ·omega
theorem lt_trans (h:OrdC cmp) {x y z:β×Nat} (h1:lt cmp x y) (h2:lt cmp y z):lt cmp x z:=by
 rcases h1 with h1 | ⟨h1,h1'⟩ <;> rcases h2 with h2 | ⟨h2,h2'⟩
 ·exact .inl (h.lt_le h1 (by omega))
 ·exact .inl (h.lt_le h1 (by omega))
 ·exact .inl (h.le_lt (by omega) h2)
 ·have h3:=h.trans x.1 y.1 z.1 (by omega) (by omega)
  have h4:=h.trans z.1 y.1 x.1 (by have:=h.anti z.1 y.1; omega) (by have:=h.anti y.1 x.1; omega)
  have h5:=h.anti x.1 z.1
  exact .inr ⟨by omega,by omega⟩
theorem lt_asymm (h:OrdC cmp) {x y:β×Nat} (h1:lt cmp x y) (h2:lt cmp y x):False:=by
 have h3:=h.anti x.1 y.1
 rcases h1 with h1 | ⟨h1,h1'⟩ <;> rcases h2 with h2 | ⟨h2,h2'⟩ <;> omega
theorem bef_yes (h:OrdC cmp) {x y:β×Nat} (hb:bef x y) (hc:cmp y.1 x.1 < 0):lt cmp y x:=.inl hc
theorem bef_no (h:OrdC cmp) {x y:β×Nat} (hb:bef x y) (hc:¬ cmp y.1 x.1 < 0):lt cmp x y:=by
 have h3:=h.anti x.1 y.1
 have hb:x.2 < y.2:=hb
 by_cases h0:cmp x.1 y.1=0
 ·exact .inr ⟨h0,hb⟩
 ·exact .inl (by omega)
theorem sorted_get (h:OrdC cmp) {l:List (β×Nat)} (hs:Sorted cmp l) {i j:Nat} {x y:β×Nat} (hi:l[i]?=some x) (hj:l[j]?=some y) (hij:i < j):lt cmp x y:=by
 obtain ⟨h1,rfl⟩:=List.getElem?_eq_some_iff.1 hi
 obtain ⟨h2,rfl⟩:=List.getElem?_eq_some_iff.1 hj
 exact (List.pairwise_iff_getElem.1 hs) i j h1 h2 hij
theorem sorted_app {A B:List (β×Nat)} (hA:Sorted cmp A) (hB:Sorted cmp B) (hAB:∀ x ∈ A,∀ y ∈ B,lt cmp x y):Sorted cmp (A ++ B):=List.pairwise_append.2 ⟨hA,hB,hAB⟩
theorem sorted_of_app {A B:List (β×Nat)} (h:Sorted cmp (A ++ B)):Sorted cmp A/\Sorted cmp B/\∀ x ∈ A,∀ y ∈ B,lt cmp x y:=List.pairwise_append.1 h
theorem sorted_unique (h:OrdC cmp):∀ {a b:List (β×Nat)},Sorted cmp a->Sorted cmp b->a.Perm b->a=b
 | [],b,_,_,hp=>by rw [List.nil_perm.1 hp]
 | x :: a,[],_,_,hp=>by have:=hp.length_eq; simp at this
 | x :: a,y :: b,ha,hb,hp=>by
  have hca:=List.pairwise_cons.1 ha
  have hcb:=List.pairwise_cons.1 hb
  have hxy:x=y:=by
   rcases List.mem_cons.1 (hp.mem_iff.1 (List.mem_cons_self (a:=x) (l:=a))) with h1 | h1
   ·exact h1
   ·rcases List.mem_cons.1 (hp.mem_iff.2 (List.mem_cons_self (a:=y) (l:=b))) with h2 | h2
    ·exact h2.symm
    ·exact (lt_asymm h (hcb.1 x h1) (hca.1 y h2)).elim
  subst hxy
  rw [sorted_unique h hca.2 hcb.2 ((List.perm_cons x).1 hp)]
def ins (cmp:β->β->Int) (x:β):List β->List β
 | []=>[x]
 | y :: r=>if cmp x y < 0 then x :: y :: r else y :: ins cmp x r
def stab (cmp:β->β->Int) (l:List β):List β:=l.foldl (fun a x=>ins cmp x a) []
theorem stab_snoc (l:List β) (x:β):stab cmp (l ++ [x])=ins cmp x (stab cmp l):=by unfold stab; rw [List.foldl_append]; rfl
def insT (cmp:β->β->Int) (x:β×Nat):List (β×Nat)->List (β×Nat)
 | []=>[x]
 | y :: r=>if cmp x.1 y.1 < 0 then x :: y :: r else y :: insT cmp x r
theorem insT_fst (x:β×Nat):∀ l:List (β×Nat),(insT cmp x l).map (·.1)=ins cmp x.1 (l.map (·.1))
 | []=>rfl
 | y :: r=>by
  unfold insT ins
  rw [List.map_cons]
  show _=(if cmp x.1 y.1 < 0 then _ else _)
  split
  ·rfl
  ·rw [List.map_cons,insT_fst x r]
theorem insT_perm (x:β×Nat):∀ l:List (β×Nat),(insT cmp x l).Perm (x :: l)
 | []=>List.Perm.refl _
 | y :: r=>by
  unfold insT
  split
  ·exact List.Perm.refl _
  ·exact ((insT_perm x r).cons y).trans (List.Perm.swap x y r)
theorem insT_sorted (h:OrdC cmp) (x:β×Nat):∀ l:List (β×Nat),Sorted cmp l->(∀ y ∈ l,bef y x)->Sorted cmp (insT cmp x l)
 | [],_,_=>List.pairwise_singleton _ _
 | y :: r,hs,hb=>by
  have hc:=List.pairwise_cons.1 hs
  unfold insT
  by_cases h1:cmp x.1 y.1 < 0
  ·rw [if_pos h1]
   refine List.pairwise_cons.2 ⟨fun z hz=>?_,hs⟩
   rcases List.mem_cons.1 hz with rfl | hz
   ·exact .inl h1
   ·exact lt_trans h (.inl h1) (hc.1 z hz)
  ·rw [if_neg h1]
   refine List.pairwise_cons.2 ⟨fun z hz=>?_,insT_sorted h x r hc.2 (fun z hz=>hb z (List.mem_cons_of_mem _ hz))⟩
   rcases List.mem_cons.1 ((insT_perm x r).mem_iff.1 hz) with rfl | hz
   ·exact bef_no h (hb y (List.mem_cons_self ..)) h1
   ·exact hc.1 z hz
def tagL (l:List β):List (β×Nat):=l.zipIdx
theorem tagL_fst (l:List β):(tagL l).map (·.1)=l:=by simp [tagL]
theorem tagL_snoc (l:List β) (x:β):tagL (l ++ [x])=tagL l ++ [(x,l.length)]:=by simp [tagL,List.zipIdx_append]
theorem tagL_lt {l:List β} {x:β×Nat} (h:x ∈ tagL l):x.2 < l.length:=by
 have:=List.snd_lt_of_mem_zipIdx h
 simpa using this
theorem snoc_ind {P:List β->Prop} (h0:P []) (h1:∀ l x,P l->P (l ++ [x])) (l:List β):P l:=by
 have:∀ n (l:List β),l.length=n->P l:=by
  intro n
  induction n with
  | zero=>intro l hl; rw [List.length_eq_zero_iff.1 hl]; exact h0
  | succ n ih =>
   intro l hl
   have hne:l ≠ []:=by intro h; rw [h] at hl; cases hl
   rw [<- List.dropLast_concat_getLast hne]
   exact h1 _ _ (ih _ (by simp [hl]))
 exact this _ l rfl
theorem stab_spec (h:OrdC cmp) (l:List β):∃ m,Sorted cmp m/\m.Perm (tagL l)/\m.map (·.1)=stab cmp l:=by
 refine snoc_ind (P:=fun l=>∃ m,Sorted cmp m/\m.Perm (tagL l)/\m.map (·.1)=stab cmp l) ⟨[],List.Pairwise.nil,List.Perm.refl _,rfl⟩ (fun l x ⟨m,h1,h2,h3⟩=>?_) l
 refine ⟨insT cmp (x,l.length) m,insT_sorted h _ m h1 (fun y hy=>tagL_lt (h2.mem_iff.1 hy)),?_,?_⟩
 ·rw [tagL_snoc]
  exact (insT_perm _ m).trans ((h2.cons _).trans (List.perm_append_singleton _ _).symm)
 ·rw [insT_fst,h3,stab_snoc]
theorem stab_of (h:OrdC cmp) {l:List β} {m:List (β×Nat)} (hs:Sorted cmp m) (hp:m.Perm (tagL l)):m.map (·.1)=stab cmp l:=by
 obtain ⟨m',h1,h2,h3⟩:=stab_spec h l
 rw [sorted_unique h hs h1 (hp.trans h2.symm),h3]
theorem ins_perm (x:β):∀ l:List β,(ins cmp x l).Perm (x :: l)
 | []=>List.Perm.refl _
 | y :: r=>by
  unfold ins
  split
  ·exact List.Perm.refl _
  ·exact ((ins_perm x r).cons y).trans (List.Perm.swap x y r)
theorem stab_perm (l:List β):(stab cmp l).Perm l :=
 snoc_ind (P:=fun l=>(stab cmp l).Perm l) (List.Perm.refl _) (fun l x ih=>by rw [stab_snoc]; exact (ins_perm x _).trans ((ih.cons x).trans (List.perm_append_singleton _ _).symm)) l
theorem stab_len (l:List β):(stab cmp l).length=l.length:=(stab_perm l).length_eq
def befC (c d:List (β×Nat)):Prop:=∀ x ∈ c,∀ y ∈ d,bef x y
theorem befC_merge {Ds R:List (List (β×Nat))} {c d m:List (β×Nat)} (h:(Ds ++ c :: d :: R).Pairwise befC) (hm:m.Perm (c ++ d)):(Ds ++ m :: R).Pairwise befC:=by
 have h:=List.pairwise_append.1 h
 have hc:=List.pairwise_cons.1 h.2.1
 have hd:=List.pairwise_cons.1 hc.2
 refine List.pairwise_append.2 ⟨h.1,List.pairwise_cons.2 ⟨fun r hr x hx y hy=>?_,hd.2⟩,fun e he r hr x hx y hy=>?_⟩
 ·rcases List.mem_append.1 (hm.mem_iff.1 hx) with hx | hx
  ·exact hc.1 r (List.mem_cons_of_mem _ hr) x hx y hy
  ·exact hd.1 r hr x hx y hy
 ·rcases List.mem_cons.1 hr with rfl | hr
  ·rcases List.mem_append.1 (hm.mem_iff.1 hy) with hy | hy
   ·exact h.2.2 e he c (List.mem_cons_self ..) x hx y hy
   ·exact h.2.2 e he d (List.mem_cons_of_mem _ (List.mem_cons_self ..)) x hx y hy
  ·exact h.2.2 e he r (List.mem_cons_of_mem _ (List.mem_cons_of_mem _ hr)) x hx y hy
theorem befC_two {Ds R:List (List (β×Nat))} {c d:List (β×Nat)} (h:(Ds ++ c :: d :: R).Pairwise befC):befC c d:=by
 have h:=List.pairwise_append.1 h
 exact (List.pairwise_cons.1 h.2.1).1 d (List.mem_cons_self ..)
theorem flat_len {k:Nat}:∀ {Fs:List (List (β×Nat))},(∀ f ∈ Fs,f.length=k)->Fs.flatten.length=Fs.length * k
 | [],_=>by simp
 | f :: r,h=>by
  rw [List.flatten_cons,List.length_append,h f (List.mem_cons_self ..),flat_len (fun g hg=>h g (List.mem_cons_of_mem _ hg)),List.length_cons,Nat.add_mul]; omega
end
end Go.Stb
namespace Go.Proofs.YtkfanhdicnjdlaaGreatDoor
open Go.GV Go.RowKit Go.Lib
def ivs (l:List Int):List Value:=l.map (Value.int .i64)
theorem ivs_len (l:List Int):(ivs l).length=l.length:=by simp [ivs]
theorem ivs_app (a b:List Int):ivs (a ++ b)=ivs a ++ ivs b:=by simp [ivs]
theorem ivs_one (l:List Int):∀ v ∈ ivs l,v.oneCell'=true:=by
 intro v hv
 simp only [ivs,List.mem_map] at hv
 obtain ⟨x,_,rfl⟩:=hv
 rfl
theorem ivs_at {l:List Int} {i:Nat} {x:Int} (h:l[i]?=some x):(ivs l)[i]?=some (.int .i64 x):=by simp [ivs,h]
theorem ivs_take (l:List Int) (k:Nat):(ivs l).take k=ivs (l.take k):=by simp [ivs]
theorem ei (i:Nat) (h:i < 1099511627776):IntKind.wrap .i64 ((i:Int)+1)=((i+1:Nat):Int):=by rw [i64_id (by omega) (by omega)]; rfl
theorem sl_n {w:World} {A:Option Addr} {n:Nat} {l:List Int} (h:Sl w 1 A n (ivs l)):l.length=n:=by
 have:=h.1
 rw [ivs_len] at this
 omega
theorem sl_at {w:World} {A:Option Addr} {n:Nat} {l:List Int} (h:Sl w 1 A n (ivs l)) {i:Nat} (hi:i < n) {x:Int} (hx:l[i]?=some x):∃ b o,A=some ⟨b,o,none⟩/\∀ j y,l[j]?=some y->cellAt w b (o+j * 1)=some (.int .i64 y):=by
 obtain ⟨b,o,hA,hc⟩:=h.2 (by omega)
 exact ⟨b,o,hA,fun j y hj=>by rw [Nat.mul_one]; exact hc j _ (ivs_at hj)⟩
theorem sl_rd {w:World} {A:Option Addr} {n:Nat} {l:List Int} (h:Sl w 1 A n (ivs l)) {i:Nat} (hi:i < n) {x:Int} (hx:l[i]?=some x) {K:Int->Prop} (hK:K x) :
  dr A fun b o=>gd (decide (0<=(i:Int))) (gd (decide ((i:Int) < ((n:Nat):Int))) (ldI .i64 w b (o+((i:Int)).toNat * 1) K)):=by
 obtain ⟨b,o,rfl,hc⟩:=sl_at h hi hx
 refine dr_mk (gd_mk (decide_eq_true (by omega)) (gd_mk (decide_eq_true (by omega)) ⟨x,?_,hK⟩))
 rw [Int.toNat_natCast]
 exact hc i x hx
theorem row_low {u:World} {B B':Nat} {e:TypeId} {sz:Nat} {A:Option Addr} {k c:Nat} {vs:List Value} (hB:B'<=B) (hr:Row u B e sz A k c vs):Row u B' e sz A k c vs:=by
 refine ⟨hr.len,hr.le,?_⟩
 rcases hr.at_ with h' | ⟨b',cs',q1,q2,q3⟩
 ·exact .inl h'
 ·exact .inr ⟨b',cs',q1,by omega,q3⟩
theorem at_lt {l:List Int} {i:Nat} (h:i < l.length):l[i]?=some (l[i]'h):=List.getElem?_eq_getElem h
end Go.Proofs.YtkfanhdicnjdlaaGreatDoor
namespace Go.Proofs.YtkfanhdicnjdlaaGreatDoor.InsNm
open Go.GV Go.RowKit
section
variable {β:Type} {enc:β->List Value}
theorem src_rec {w:World} {b:Nat} {e:TypeId} {cs:List Value} {sz:Nat} (h:RecAt w b e cs) (hl:cs.length=sz):srcOf w sz (.slice (some ⟨b,0,none⟩) 1 1) 1 cs :=
 ⟨rfl,by omega,fun _=>dr_mk (h.cells (o:=0) (fun j v hj=>by simpa using hj))⟩
set_option maxHeartbeats 1000000 in
theorem insert_calls (h0:EncO β enc 2) (B:Nat) (A:Option Addr) (n c i:Nat) (l:List β) (x:β) (bv:Nat) (w:World) (h:Row w B 160 2 A n c (flt enc l)) (hl:l.length=n) (hi:i<=n) (hv:RecAt w bv 160 (enc x)) (hA:blkOf A ≠ some bv) (hB:B<=w.heap.size) (hn:n<=1073741824) :
  Calls Tryz.prog 179 #[.slice A n c,.int .i64 (i:Nat),.slice (some ⟨bv,0,none⟩) 1 1] w fun e w'=>∃ A' c',e=.returned (.slice A' (n+1) c')/\Fr (fun k=>blkOf A=some k) w w'/\Row w' B 160 2 A' (n+1) c' (flt enc (l.take i ++ x :: l.drop i))/\∀ k,blkOf A'=some k->blkOf A=some k\/w.heap.size<=k:=by
 refine (F179.of A n c _ (some ⟨bv,0,none⟩) 1 1 w (Q:=fun v w'=>∃ A' c',v=.slice A' (n+1) c'/\Fr (fun k=>blkOf A=some k) w w'/\Row w' B 160 2 A' (n+1) c' (flt enc (l.take i ++ x :: l.drop i))/\∀ k,blkOf A'=some k->blkOf A=some k\/w.heap.size<=k) ?_).mono (fun e w' ⟨v,he,A',c',hv,h⟩=>⟨A',c',by rw [he,hv],h⟩)
 have hle:=h.le
 have hx:=h0.len x
 have hfl:=h0.fl l
 have hsx:=src_rec hv hx
 have ox:=h0.one x
 have htx:(enc x).take 2=enc x:=by rw [<- hx,List.take_length]
 have hlT:(flt enc (l.take i)).length=i * 2:=by rw [h0.fl,List.length_take,hl,Nat.min_eq_left hi]
 have hlD:(flt enc (l.drop i)).length=(n - i) * 2:=by rw [h0.fl,List.length_drop,hl]
 have fin:flt enc (l.take i ++ x :: l.drop i)=flt enc (l.take i) ++ enc x ++ flt enc (l.drop i):=by rw [flt_app,flt_cons,List.append_assoc]
 rw [fin]
 clear fin
 refine gd_mk (decide_eq_true (by omega)) (gd_mk (decide_eq_true (by omega)) (vIf_f rfl (vIf_mk (fun he=>?_) (fun hne=>?_))))
 ·have he:(i:Int)=(n:Int):=by simpa using he
  have he:i=n:=by omega
  subst he
  have ht:l.take i=l:=List.take_of_length_le (by omega)
  have hd:l.drop i=[]:=List.drop_of_length_le (by omega)
  refine app_row2 (us:=enc x) (m:=1) h hsx ox rfl (by omega) (by omega) hB (fun A' c' w' hr' f' hb'=>⟨A',c',rfl,f',?_,hb'⟩)
  rw [ht,hd,flt_nil,List.append_nil]
  exact hr'
 have hne:i ≠ n:=fun h=>by subst h; simp at hne
 obtain ⟨b,hb⟩:∃ b,A=some ⟨b,0,none⟩:=by
  rcases h.at_ with ⟨_,h0,_⟩ | ⟨b,_,hA,_⟩
  ·omega
  ·exact ⟨b,hA⟩
 subst hb
 have hbb:b ≠ bv:=fun h=>hA (by rw [h]; rfl)
 have en:IntKind.wrap .i64 ((n:Int)+((1:Nat):Int))=((n+1:Nat):Int):=by rw [i64_id (by omega) (by omega)]; rfl
 have ei:IntKind.wrap .i64 ((i:Int)+((1:Nat):Int))=((i+1:Nat):Int):=by rw [i64_id (by omega) (by omega)]; rfl
 have ed:IntKind.wrap .i64 (((n+1:Nat):Int) - (i:Int))=((n+1 - i:Nat):Int):=by rw [i64_id (by omega) (by omega)]; omega
 have h00:slA (some (⟨b,0,none⟩:Addr)) c 0 2=some ⟨b,0,none⟩:=sl0 _ _ _
 simp only [en,ei,ed,h00,Int.toNat_natCast]
 refine vIf_mk (fun hgt=>?_) (fun hng=>?_)
 ·have hgt:c < n+1:=by have:=of_decide_eq_true hgt; omega
  refine gd_mk (decide_eq_true (by omega)) (gd_mk (decide_eq_true (by omega)) ?_)
  have hnm:i+(n+1 - i)=n+1:=by omega
  refine appZ_new (m:=n+1 - i) (old:=flt enc (l.take i)) (B:=B) (by rw [<- h0.ft l (by omega)]; exact h.sl.headS (by omega)) (by rw [i64_id (by omega) (by omega)]) (by omega) (by intro v hv; repeat (first | (cases hv; done) | (rcases List.mem_cons.1 hv with rfl | hv; · rfl))) rfl (by omega) (by omega) (by omega) hB (fun b5 c5 w5 hb5 hr5 f5=>?_)
  rw [hnm] at hr5 ⊢
  have hzl:(zeros (n+1 - i) ([.string (⟨#[]⟩:ByteArray),.int .i64 0]:List Value)).length=(n+1 - i) * 2:=by rw [zeros_length]; rfl
  refine gd_mk (decide_eq_true (by omega)) (gd_mk (decide_eq_true (by omega)) ?_)
  refine cpy_row hr5 (src_rec (hv.fr f5 (fun h=>h)) hx) (by omega) (by omega) (by rw [Nat.min_eq_left (by omega),Nat.one_mul,htx]; exact ox) (fun w6 hr6 f6=>?_)
  rw [Nat.min_eq_left (by omega),Nat.one_mul,htx,splice_at hlT] at hr6
  refine gd_mk (decide_eq_true (by omega)) (gd_mk (decide_eq_true (by omega)) (gd_mk (decide_eq_true (by omega)) (gd_mk (decide_eq_true (by omega)) ?_)))
  have hsD:=h.tailS (k:=i) (by omega)
  rw [h0.fd l (by omega)] at hsD
  have hbl:=(h.blt (b:=b) rfl).2
  have f56:Fr (fun k=>b5=k) w w6:=(f5.mono (fun _ _ h=>h.elim)).trans1 (f6.mono (fun k _ h=>by simpa [blkOf] using h))
  have f7:=f56.trans1 (Fr.drew _ _)
  have hsD7:=f7.sl hsD (fun _ k hk h=>by rw [sl_blk] at hk; injection hk with hk; omega)
  refine cpy_row ((Fr.drew (fun _=>False) w6).row hr6 (fun _ _ h=>h)) hsD7.src (by rw [hlD]) (by omega) (by intro v hv; exact h0.fo _ v (List.mem_of_mem_take hv)) (fun w8 hr8 f8=>⟨_,_,rfl,?_,?_,fun k hk=>.inr (by simp [blkOf] at hk; omega)⟩)
  ·exact (f7.trans1 (f8.mono (fun k _ h=>by simpa [blkOf] using h))).mono (fun k hk h=>by omega)
  ·have hD:(flt enc (l.drop i)).take (min (n - i) (n+1 - (i+1)) * 2)=flt enc (l.drop i):=List.take_of_length_le (by rw [hlD,show min (n - i) (n+1 - (i+1))=n - i by omega]; exact Nat.le_refl _)
   have hd0:((zeros (n+1 - i) ([.string (⟨#[]⟩:ByteArray),.int .i64 0]:List Value)).drop (enc x).length).drop (flt enc (l.drop i)).length=[]:=List.drop_of_length_le (by rw [List.length_drop,hzl,hx,hlD]; omega)
   rw [hD,splice_at (by rw [List.length_append,hlT,hx]; omega),hd0,List.append_nil] at hr8
   exact hr8
 ·have hng:n+1<=c:=by have:=of_decide_eq_false hng; omega
  have hs1:slA (some (⟨b,0,none⟩:Addr)) c (i+1) 2=some ⟨b,(i+1) * 2,none⟩:=slS (by omega)
  refine gd_mk (decide_eq_true (by omega)) (gd_mk (decide_eq_true (by omega)) (gd_mk (decide_eq_true (by omega)) (gd_mk (decide_eq_true (by omega)) ?_)))
  obtain ⟨cs,hcs,hcl⟩:∃ cs,w.heap[b]?=some (.cells cs 160 (0,0))/\cs.size=c * 2:=by
   rcases h.at_ with ⟨h1,_⟩ | ⟨b',cs,hA',_,hh,hs,_⟩
   ·cases h1
   ·cases hA'; exact ⟨cs,hh,hs⟩
  have hov:∀ K:Value->World->Prop,K (.bool false) w->extC Tryz.prog 189 #[Value.slice (some ⟨bv,0,none⟩) 1 1,Value.slice (slA (some (⟨b,0,none⟩:Addr)) c (i+1) 2) (n+1 - (i+1)) (c - (i+1))] w K:=by
   intro K hK
   rw [hs1]
   exact overlaps_ext (tS:=78) (tR:=4) (e:=160) Tryz.func189 (by kernel_rfl) (by kernel_rfl) (by kernel_rfl) (by kernel_rfl) (size:=2) (by decide) (by kernel_rfl) hv hcs (fun h=>hbb h.symm) (by omega) hK
  refine hov _ ⟨false,rfl,vIf_t rfl ?_⟩
  refine gd_mk (decide_eq_true (by omega)) (gd_mk (decide_eq_true (by omega)) (gd_mk (decide_eq_true (by omega)) (gd_mk (decide_eq_true (by omega)) ?_)))
  have hwd:=(Fr.drew (fun _=>False) w).row h (fun _ _ h=>h)
  obtain ⟨us,hul,hE⟩:=row_ext hwd (k:=1) (by omega)
  have hsE:=hE.tailS (k:=i) (by omega)
  have hEl:(flt enc l ++ us).length=(n+1) * 2:=hE.len
  have hmin:min (n+1 - i) (n+1 - (i+1))=n - i:=by omega
  have hdi:(flt enc l ++ us).drop (i * 2)=flt enc (l.drop i) ++ us:=by rw [List.drop_append_of_le_length (by rw [hfl]; omega),h0.fd l (by omega)]
  rw [hdi] at hsE
  have htk:(flt enc (l.drop i) ++ us).take ((n - i) * 2)=flt enc (l.drop i):=by rw [<- hlD,List.take_left]
  refine cpy_row hE hsE.src (by rw [List.length_append,hlD,hul]; omega) (by omega) (by rw [hmin,htk]; exact h0.fo _) (fun w5 hr5 f5=>?_)
  rw [hmin,htk] at hr5
  have hsp:splice (flt enc l ++ us) ((i+1) * 2) (flt enc (l.drop i))=flt enc (l.take (i+1)) ++ flt enc (l.drop i):=by
   have e1:flt enc l ++ us=flt enc (l.take (i+1)) ++ (flt enc (l.drop (i+1)) ++ us):=by rw [<- List.append_assoc,<- flt_app,List.take_append_drop]
   have hd0:(flt enc (l.drop (i+1)) ++ us).drop (flt enc (l.drop i)).length=[]:=List.drop_of_length_le (by rw [List.length_append,h0.fl,List.length_drop,hl,hul,hlD]; omega)
   rw [e1,splice_at (by rw [h0.fl,List.length_take,hl,Nat.min_eq_left (by omega)]),hd0,List.append_nil]
  rw [hsp] at hr5
  have f5:Fr (fun k=>b=k) w w5:=((Fr.drew (fun k=>b=k) w).trans1 (f5.mono (fun k _ h=>by simpa [blkOf] using h)))
  refine gd_mk (decide_eq_true (by omega)) (gd_mk (decide_eq_true (by omega)) ?_)
  refine cpy_row hr5 (src_rec (hv.fr f5 (fun h=>hbb h)) hx) (by omega) (by omega) (by rw [Nat.min_eq_left (by omega),Nat.one_mul,htx]; exact ox) (fun w6 hr6 f6=>⟨_,_,rfl,?_,?_,fun k hk=>.inl hk⟩)
  ·exact (f5.trans1 (f6.mono (fun k _ h=>by simpa [blkOf] using h))).mono (fun k _ h=>by rw [h]; rfl)
  ·rw [Nat.min_eq_left (by omega),Nat.one_mul,htx] at hr6
   have e2:l.take (i+1)=l.take i ++ [l[i]'(by omega)]:=by rw [List.take_add_one,List.getElem?_eq_getElem (by omega)]; rfl
   rw [e2,flt_app,flt_one,List.append_assoc,splice_at hlT,hx,List.drop_left' (h0.len _)] at hr6
   exact hr6
end
end Go.Proofs.YtkfanhdicnjdlaaGreatDoor.InsNm
namespace Go.Proofs.YtkfanhdicnjdlaaGreatDoor.DelNm
open Go.GV Go.RowKit
section
variable {β:Type} {enc:β->List Value}
set_option maxHeartbeats 1000000 in
theorem delete_calls (h0:EncO β enc 2) (B:Nat) (A:Option Addr) (n c i:Nat) (l:List β) (w:World) (h:Row w B 160 2 A n c (flt enc l)) (hl:l.length=n) (hi:i < n) (hn:n<=1073741824) {j:Int} (hj:j=((i+1:Nat):Int)) :
  Calls Tryz.prog 180 #[.slice A n c,.int .i64 (i:Nat),.int .i64 j] w fun e w'=>e=.returned (.slice A (n - 1) c)/\Fr (fun k=>blkOf A=some k) w w'/\Row w' B 160 2 A (n - 1) c (flt enc (l.take i ++ l.drop (i+1))):=by
 subst hj
 refine (F180.of A n c _ _ w (Q:=fun v w'=>v=.slice A (n - 1) c/\Fr (fun k=>blkOf A=some k) w w'/\Row w' B 160 2 A (n - 1) c (flt enc (l.take i ++ l.drop (i+1)))) ?_).mono (fun e w' ⟨v,he,hv,h⟩=>⟨by rw [he,hv],h⟩)
 have hle:=h.le
 have hfl:=h0.fl l
 obtain ⟨b,hb⟩:∃ b,A=some ⟨b,0,none⟩:=by
  rcases h.at_ with ⟨_,h0,_⟩ | ⟨b,_,hA,_⟩
  ·omega
  ·exact ⟨b,hA⟩
 subst hb
 have h00:slA (some (⟨b,0,none⟩:Addr)) c 0 2=some ⟨b,0,none⟩:=sl0 _ _ _
 refine gd_mk (decide_eq_true (by omega)) (gd_mk (decide_eq_true (by omega)) (gd_mk (decide_eq_true (by omega)) (gd_mk (decide_eq_true (by omega)) (gd_mk (decide_eq_true (by omega)) (gd_mk (decide_eq_true (by omega)) (vIf_f (by simp; omega) ?_))))))
 refine gd_mk (decide_eq_true (by omega)) (gd_mk (decide_eq_true (by omega)) (gd_mk (decide_eq_true (by omega)) (gd_mk (decide_eq_true (by omega)) ?_)))
 simp only [h00,Int.toNat_natCast]
 have hwd:=(Fr.drew (fun _=>False) w).row h (fun _ _ h=>h)
 have hcut:=row_cutG hwd (k:=i) (by omega)
 have hsD:=hwd.tailS (k:=i+1) (by omega)
 rw [h0.fd l (by omega)] at hsD
 rw [h0.ft l (by omega)] at hcut
 have hnm:i+(n - (i+1))=n - 1:=by omega
 refine app_in hcut hsD.src (by rw [h0.fl,List.length_drop,hl]) (h0.fo _) (by omega) (by omega) (by omega) (fun w5 hr5 f5=>?_)
 rw [hnm] at hr5 ⊢
 rw [<- flt_app] at hr5
 refine gd_mk (decide_eq_true (by omega)) (gd_mk (decide_eq_true (by omega)) (gd_mk (decide_eq_true (by omega)) (gd_mk (decide_eq_true (by omega)) (vIf_f (by simp; omega) ?_))))
 have hs1:slA (some (⟨b,0,none⟩:Addr)) c (n - 1) 2=some ⟨b,(n - 1) * 2,none⟩:=slS (by omega)
 simp only [Int.toNat_natCast]
 rw [hs1,show n - (n - 1)=1 by omega]
 obtain ⟨us,hul,hE⟩:=row_ext hr5 (k:=1) (by omega)
 have hpl:(flt enc (l.take i ++ l.drop (i+1))).length=(n - 1) * 2:=hr5.len
 rw [show n - 1+1=n by omega] at hE
 have hpt:=row_putG (o':=(n - 1) * 2) (us:=zeros 1 ([.string (⟨#[]⟩:ByteArray),.int .i64 0]:List Value)) (K:=fun w'=>True/\Fr (fun k=>blkOf (some (⟨b,0,none⟩:Addr))=some k) w w'/\Row w' B 160 2 (some ⟨b,0,none⟩) (n - 1) c (flt enc (l.take i ++ l.drop (i+1)))) hE (by omega) (by rw [zeros_length]; show (n - 1) * 2+1 * 2<=_; rw [<- Nat.add_mul]; exact Nat.mul_le_mul_right _ (by omega)) (zeros_one (by intro v hv; repeat (first | (cases hv; done) | (rcases List.mem_cons.1 hv with rfl | hv; · rfl)))) (fun w6 hr6 f6=>⟨trivial,((Fr.drew _ w).trans1 f5).trans1 f6,?_⟩)
 ·rw [<- Nat.zero_add ((n - 1) * 2)]
  exact hpt
 ·have h7:=row_cutG hr6 (k:=n - 1) (by omega)
  rw [splice_at hpl,List.append_assoc,<- hpl,List.take_left] at h7
  exact h7
end
end Go.Proofs.YtkfanhdicnjdlaaGreatDoor.DelNm
namespace Go.Proofs.YtkfanhdicnjdlaaGreatDoor.ClnNm
open Go.GV Go.RowKit
theorem clone_calls (A:Option Addr) (n c:Nat) (vs:List Value) (w:World) (h:Sl w 2 A n vs) (ho:∀ v ∈ vs,v.oneCell'=true) (hn:n<=1073741824) :
  Calls Tryz.prog 155 #[.slice A n c] w fun e w'=>Fr (fun _=>False) w w'/\∃ A' c',e=.returned (.slice A' n c')/\Row w' w.heap.size 160 2 A' n c' vs:=by
 refine (F155.of A n c w (Q:=fun v w'=>Fr (fun _=>False) w w'/\∃ A' c',v=.slice A' n c'/\Row w' w.heap.size 160 2 A' n c' vs) ?_).mono (fun e w' ⟨v,he,hf,A',c',hv,h⟩=>⟨hf,A',c',by rw [he,hv],h⟩)
 refine vIf_mk (fun h0=>?_) (fun h0=>nw_mk ?_)
 ·have:n=0:=by
   refine Classical.byContradiction fun hn0=>?_
   obtain ⟨b,o,hA,_⟩:=h.2 hn0
   rw [hA] at h0; cases h0
  subst this
  have:vs=[]:=List.length_eq_zero_iff.1 (by have:=h.1; omega)
  subst this
  exact ⟨Fr.refl _ _,none,0,rfl,Row.nil _ _ _ _⟩
 ·have f1:Fr (fun _=>False) w (w.alloc (.cells ([]:List Value).toArray 160)):=Fr.alloc _ _ _
  have r1:Row (w.alloc (.cells ([]:List Value).toArray 160)) w.heap.size 160 2 (some ⟨w.heap.size,0,none⟩) 0 0 []:=Row.new (Nat.le_refl _) rfl
  have hs:(w.alloc (.cells ([]:List Value).toArray 160)).heap.size=w.heap.size+1:=alloc_size _ _
  generalize w.alloc (.cells ([]:List Value).toArray 160)=w1 at f1 r1 hs ⊢
  refine app_row r1 (f1.sl h (fun _ _ _ h=>h)).src ho rfl (by omega) (by omega) (by omega) (fun A' c' w' hr' f'=>⟨?_,A',c',?_,?_⟩)
  ·exact f1.trans f' (fun _ _ h=>h) (fun k hk h'=>by simp only [blkOf,Option.some.injEq] at h'; omega)
  ·rw [Nat.zero_add]
  ·rw [Nat.zero_add,List.nil_append] at hr'; exact hr'
end Go.Proofs.YtkfanhdicnjdlaaGreatDoor.ClnNm
namespace Go.Proofs.YtkfanhdicnjdlaaGreatDoor.ClnCh
open Go.GV Go.RowKit
theorem clone_calls (A:Option Addr) (n c:Nat) (vs:List Value) (w:World) (h:Sl w 4 A n vs) (ho:∀ v ∈ vs,v.oneCell'=true) (hn:n<=1073741824) :
  Calls Tryz.prog 152 #[.slice A n c] w fun e w'=>Fr (fun _=>False) w w'/\∃ A' c',e=.returned (.slice A' n c')/\Row w' w.heap.size 185 4 A' n c' vs:=by
 refine (F152.of A n c w (Q:=fun v w'=>Fr (fun _=>False) w w'/\∃ A' c',v=.slice A' n c'/\Row w' w.heap.size 185 4 A' n c' vs) ?_).mono (fun e w' ⟨v,he,hf,A',c',hv,h⟩=>⟨hf,A',c',by rw [he,hv],h⟩)
 refine vIf_mk (fun h0=>?_) (fun h0=>nw_mk ?_)
 ·have:n=0:=by
   refine Classical.byContradiction fun hn0=>?_
   obtain ⟨b,o,hA,_⟩:=h.2 hn0
   rw [hA] at h0; cases h0
  subst this
  have:vs=[]:=List.length_eq_zero_iff.1 (by have:=h.1; omega)
  subst this
  exact ⟨Fr.refl _ _,none,0,rfl,Row.nil _ _ _ _⟩
 ·have f1:Fr (fun _=>False) w (w.alloc (.cells ([]:List Value).toArray 185)):=Fr.alloc _ _ _
  have r1:Row (w.alloc (.cells ([]:List Value).toArray 185)) w.heap.size 185 4 (some ⟨w.heap.size,0,none⟩) 0 0 []:=Row.new (Nat.le_refl _) rfl
  have hs:(w.alloc (.cells ([]:List Value).toArray 185)).heap.size=w.heap.size+1:=alloc_size _ _
  generalize w.alloc (.cells ([]:List Value).toArray 185)=w1 at f1 r1 hs ⊢
  refine app_row r1 (f1.sl h (fun _ _ _ h=>h)).src ho rfl (by omega) (by omega) (by omega) (fun A' c' w' hr' f'=>⟨?_,A',c',?_,?_⟩)
  ·exact f1.trans f' (fun _ _ h=>h) (fun k hk h'=>by simp only [blkOf,Option.some.injEq] at h'; omega)
  ·rw [Nat.zero_add]
  ·rw [Nat.zero_add,List.nil_append] at hr'; exact hr'
end Go.Proofs.YtkfanhdicnjdlaaGreatDoor.ClnCh
