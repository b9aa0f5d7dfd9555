import Derived.Test.YthcdionpeoobbaaGreatDoorP1
set_option linter.unusedVariables false
set_option linter.unusedSimpArgs false
namespace Go.Proofs.YthcdionpeoobbaaGreatDoor
open Go.GV
set_option maxRecDepth 100000
open Go.Value renaming int -> VI, slice -> VS, tuple -> VT, pointer -> VP, string -> VG, bool -> VB
open Go.IntKind renaming wrap -> WR
def F3.k6c (Q:QT) (x1:Int) (x7:Option Addr) (x8:Option Addr) (w:World):Prop :=
 Calls Tryz.prog 9 #[VP x7,VI .i64 x1] w fun e22 w21 =>
 ∃ a23:List Value,∃ t24:Bool,∃ i25:Int,e22=.returned (VT #[ofL a23,VB t24,VI .i64 i25])/\(
 nw w21 Z43 43 fun b26 w27 =>
 gd (a23.length == 6) <|
 st w27 b26 0 a23 fun w28 =>
 Calls Tryz.prog 10 #[VP x8,VI .i64 x1] w28 fun e30 w29 =>
 ∃ a31:List Value,∃ t32:Bool,∃ i33:Int,e30=.returned (VT #[ofL a31,VB t32,VI .i64 i33])/\(
 nw w29 Z43 43 fun b34 w35 =>
 gd (a31.length == 6) <|
 st w35 b34 0 a31 fun w36 =>
 Calls Tryz.prog 9 #[VP none,VI .i64 x1] w36 fun e38 w37 =>
 ∃ a39:List Value,∃ t40:Bool,∃ i41:Int,e38=.returned (VT #[ofL a39,VB t40,VI .i64 i41])/\(
 nw w37 Z43 43 fun b42 w43 =>
 gd (a39.length == 6) <|
 st w43 b42 0 a39 fun w44 =>
 ldA 6 w44 b26 0 fun a45 =>
 ldA 6 w44 b34 0 fun a46 =>
 Calls Tryz.prog 11 #[ofL a45,ofL a46] w44 fun e48 w47 =>
 ∃ t49:Bool,e48=.returned (VB t49)/\(
 vIf t49
 (vIf (t24 == t32)
 (vIf (i25 == i33)
 (vIf (i41 == 1)
 (Calls Tryz.prog 12 #[] w47 fun e51 w50 =>
 ∃ t52:Bool,e51=.returned (VB t52)/\(
 Q (VB t52) w50))
 (Q (VB false) w47))
 (Q (VB false) w47))
 (Q (VB false) w47))
 (Q (VB false) w47)))))
def F3.k6 (Q:QT):(Int×Option Addr×Option Addr×Unit)->WT:=fun s w=>∀ _:Nat->Value,F3.k6c Q s.1 s.2.1 s.2.2.1 w
def F3.vc (x0A:Option Addr) (x0n x0c:Nat) (x1:Int) (x2:Bool) (w:World) (Q:QT):Prop :=
 Calls Tryz.prog 5 #[] w fun e2 w1 =>
 ∃ a3:List Value,e2=.returned (ofL a3)/\(
 Calls Tryz.prog 4 #[ofL a3,VS x0A x0n x0c] w1 fun e5 w4 =>
 ∃ p6:Option Addr,e5=.returned (VP p6)/\(
 Calls Tryz.prog 5 #[] w4 fun e8 w7 =>
 ∃ a9:List Value,e8=.returned (ofL a9)/\(
 Calls Tryz.prog 6 #[ofL a9,VS x0A x0n x0c] w7 fun e11 w10 =>
 ∃ p12:Option Addr,e11=.returned (VP p12)/\(
 vIf x2
 (Calls Tryz.prog 7 #[VP p6,VI .i64 0] w10 fun e14 w13 =>
 e14=.returned (VT #[])/\(
 Calls Tryz.prog 8 #[VP p6] w13 fun e16 w15 =>
 ∃ i17:Int,e16=.returned (VI .i64 i17)/\(
 dr p12 fun b18 o19 =>
 st w15 b18 (o19+6) [VB true] fun w20 =>
 jnC (F3.k6 Q) (x1,p6,p12,()) w20)))
 (jnC (F3.k6 Q) (x1,p6,p12,()) w10)))))
def F3.an:Ann:=⟨[],[(6,[(1,.kI .i64),(7,.kP),(8,.kP)])]⟩
theorem F3.of (x0A:Option Addr) (x0n x0c:Nat) (x1:Int) (x2:Bool) (w:World) {Q:QT} (h:F3.vc x0A x0n x0c x1 x2 w Q):Calls Tryz.prog 3 #[VS x0A x0n x0c,VI .i64 x1,VB x2] w (fun e w'=>∃ v,e=.returned v/\Q v w'):=vcFn_of (A:=F3.an) noCount mixed h (by kernel_rfl)
def F4.k7c (Q:QT) (C3:(Option Addr×ST×Int×Int×Unit)->WT) (x5:Option Addr) (x7:NT) (x12:ST) (x13:Int) (x14:Int) (w:World):Prop :=
 dr x5 fun b28 o29 =>
 ldI .i64 w b28 (o29+5) fun i30 =>
 dr x5 fun b31 o32 =>
 st w b31 (o32+5) [VI .i64 (WR .i64 (i30+1))] fun w33 =>
 dr x5 fun b34 o35 =>
 ldSl w33.drew b34 (o35+2) fun A36 n37 c38 =>
 ldS w33.drew x7.1 x7.2 fun s39 =>
 dr x5 fun b40 o41 =>
 ldI .i64 w33.drew b40 (o41+5) fun i42 =>
 gd (([VG s39] ++ ([VI .i64 i42] ++ [])).length == 2) <|
 nw w33.drew (([VG s39] ++ ([VI .i64 i42] ++ [])) ++ []) 62 fun b43 w44 =>
 kp w33.drew b34 (o35+2) 1 w44 <|
 app w44 2 24 [VG (⟨#[]⟩:ByteArray),VI .i64 0] 62 A36 n37 c38 (VS (some ⟨b43,0,none⟩) 1 1) fun A45 n46 c47 w48 =>
 dr x5 fun b49 o50 =>
 st w48 b49 (o50+2) [VS A45 n46 c47] fun w51 =>
 dr x5 fun b52 o53 =>
 ldM w51.drew b52 (o53+4) fun m54 =>
 dr x5 fun b55 o56 =>
 ldI .i64 w51.drew b55 (o56+5) fun i57 =>
 ldSl w51.drew x7.1 (x7.2+1) fun A58 n59 c60 =>
 Calls Tryz.prog 16 #[ofL ([VS A58 n59 c60] ++ ([VS none 0 0] ++ []))] w51.drew fun e62 w61 =>
 ∃ a63:List Value,e62=.returned (ofL a63)/\(
 kp w51.drew b55 (o56+5) 1 w61 <|
 kp w51.drew b52 (o53+4) 1 w61 <|
 drM m54 fun r65 =>
 mup w61 r65 .i64 i57 (ofL a63) fun w64 =>
 jnC C3 (x5,(x12.1,x12.2.1,x12.2.2),x13,((WR .i64 (x14+1))),()) w64)
def F4.k7 (Q:QT) (C3:(Option Addr×ST×Int×Int×Unit)->WT):(Option Addr×NT×ST×Int×Int×Unit)->WT:=fun s w=>∀ _:Nat->Value,F4.k7c Q C3 s.1 s.2.1 s.2.2.1 s.2.2.2.1 s.2.2.2.2.1 w
def F4.b3c (Q:QT) (C3:(Option Addr×ST×Int×Int×Unit)->WT) (x5:Option Addr) (x12:ST) (x13:Int) (x14:Int) (w:World):Prop :=
 vIf (decide (x14 < x13))
 (dr x12.1 fun b7 o8 =>
 gd (decide (0<=x14)) <|
 gd (decide (x14 < (x12.2.1:Int))) <|
 ldA 2 w b7 (o8+(x14).toNat * 2) fun a9 =>
 nw w [VG (⟨#[]⟩:ByteArray),VS none 0 0] 54 fun b10 w11 =>
 gd (a9.length == 2) <|
 st w11 b10 0 a9 fun w12 =>
 dr x5 fun b13 o14 =>
 ldA 2 w12.drew b13 (o14+2) fun a15 =>
 ldS w12.drew b10 0 fun s16 =>
 Calls Tryz.prog 14 #[ofL a15,VG s16] w12.drew fun e18 w17 =>
 ∃ i19:Int,∃ t20:Bool,e18=.returned (VT #[VI .i64 i19,VB t20])/\(
 vIf t20
 (jnC C3 (x5,(x12.1,x12.2.1,x12.2.2),x13,((WR .i64 (x14+1))),()) w17)
 (ldS w17 b10 0 fun s21 =>
 Calls Tryz.prog 15 #[VG s21] w17 fun e23 w22 =>
 ∃ t24:Bool,e23=.returned (VB t24)/\(
 vIf (!t24)
 (jnC C3 (x5,(x12.1,x12.2.1,x12.2.2),x13,((WR .i64 (x14+1))),()) w22)
 (ldSl w22 b10 (0+1) fun A25 n26 c27 =>
 vIf (decide ((n26:Int) > 1048576))
 (jnC C3 (x5,(x12.1,x12.2.1,x12.2.2),x13,((WR .i64 (x14+1))),()) w22)
 (jnC (F4.k7 Q C3) (x5,(b10,0),(x12.1,x12.2.1,x12.2.2),x13,x14,()) w22))))))
 (dr x5 fun b66 o67 =>
 ldA 2 w b66 (o67+2) fun a68 =>
 Calls Tryz.prog 17 #[ofL a68] w fun e70 w69 =>
 ∃ a71:List Value,e70=.returned (ofL a71)/\(
 dr x5 fun b72 o73 =>
 gd (a71.length == 2) <|
 st w69 b72 (o73+2) a71 fun w74 =>
 Q (VP x5) w74))
def F4.b3 (Q:QT):(Option Addr×ST×Int×Int×Unit)->World->((Option Addr×ST×Int×Int×Unit)->WT)->Prop:=fun s w C3=>∀ _:Nat->Value,F4.b3c Q C3 s.1 s.2.1 s.2.2.1 s.2.2.2.1 w
def F4.l3 (Q:QT):(Option Addr×ST×Int×Int×Unit)->WT:=fun s w=>∃ n,loopC (F4.b3 Q) n s w
def F4.vc (x0:List Value) (x1A:Option Addr) (x1n x1c:Nat) (w:World) (Q:QT):Prop :=
 nw w x0 26 fun b1 w2 =>
 ldA 2 w2 b1 0 fun a3 =>
 Calls Tryz.prog 13 #[ofL a3] w2 fun e5 w4 =>
 ∃ p6:Option Addr,e5=.returned (VP p6)/\(
 jnC (F4.l3 Q) (p6,(x1A,x1n,x1c),((x1n:Int)),(0),()) w4)
def F4.an:Ann:=⟨[(3,[(5,.kP),(12,.kSl),(13,.kI .i64),(14,.kI .i64)])],[(7,[(5,.kP),(7,.kL),(12,.kSl),(13,.kI .i64),(14,.kI .i64)])]⟩
theorem F4.of (x0:List Value) (x1A:Option Addr) (x1n x1c:Nat) (w:World) {Q:QT} (h:F4.vc x0 x1A x1n x1c w Q):Calls Tryz.prog 4 #[ofL x0,VS x1A x1n x1c] w (fun e w'=>∃ v,e=.returned v/\Q v w'):=vcFn_of (A:=F4.an) noCount mixed h (by kernel_rfl)
def F5.vc  (w:World) (Q:QT):Prop :=
 nw w [VI .i64 0,VI .i64 0] 26 fun b1 w2 =>
 gd (([VI .i64 16777216] ++ ([VI .i64 1000] ++ [])).length == 2) <|
 st w2 b1 0 ([VI .i64 16777216] ++ ([VI .i64 1000] ++ [])) fun w3 =>
 ldA 2 w3 b1 0 fun a4 =>
 Q (ofL a4) w3
def F5.an:Ann:=⟨[],[]⟩
theorem F5.of  (w:World) {Q:QT} (h:F5.vc  w Q):Calls Tryz.prog 5 #[] w (fun e w'=>∃ v,e=.returned v/\Q v w'):=vcFn_of (A:=F5.an) noCount mixed h (by kernel_rfl)
def F6.k8c (Q:QT) (C4:(ST×Option Addr×ST×Int×Unit)->WT) (x1:ST) (x5:Option Addr) (x6:ST) (x7:Int) (x47:Bool) (w:World):Prop :=
 vIf x47
 (dr x5 fun b25 o26 =>
 ldI .i64 w b25 (o26+5) fun i27 =>
 dr x5 fun b28 o29 =>
 st w b28 (o29+5) [VI .i64 (WR .i64 (i27+1))] fun w30 =>
 dr x1.1 fun b31 o32 =>
 gd (decide (0<=x7)) <|
 gd (decide (x7 < (x1.2.1:Int))) <|
 ldS w30.drew b31 (o32+(x7).toNat * 2) fun s33 =>
 dr x5 fun b34 o35 =>
 ldI .i64 w30.drew b34 (o35+5) fun i36 =>
 gd (([VG s33] ++ ([VI .i64 i36] ++ [])).length == 2) <|
 nw w30.drew (([VG s33] ++ ([VI .i64 i36] ++ [])) ++ []) 62 fun b37 w38 =>
 app w38 2 24 [VG (⟨#[]⟩:ByteArray),VI .i64 0] 62 x6.1 x6.2.1 x6.2.2 (VS (some ⟨b37,0,none⟩) 1 1) fun A39 n40 c41 w42 =>
 dr x5 fun b43 o44 =>
 ldSl w42.drew b43 (o44+4) fun A45 n46 c47 =>
 dr x5 fun b48 o49 =>
 ldI .i64 w42.drew b48 (o49+5) fun i50 =>
 dr x1.1 fun b51 o52 =>
 gd (decide (0<=x7)) <|
 gd (decide (x7 < (x1.2.1:Int))) <|
 ldSl w42.drew b51 ((o52+(x7).toNat * 2)+1) fun A53 n54 c55 =>
 app w42.drew 1 1 [VI .u8 0] 5 none 0 0 (VS A53 n54 c55) fun A56 n57 c58 w59 =>
 kp w42.drew b48 (o49+5) 1 w59 <|
 kp w42.drew b43 (o44+4) 1 w59 <|
 gd (([VS A56 n57 c58] ++ ([VS none 0 0] ++ [])).length == 2) <|
 gd (([VI .i64 i50] ++ (([VS A56 n57 c58] ++ ([VS none 0 0] ++ [])) ++ [])).length == 3) <|
 nw w59 (([VI .i64 i50] ++ (([VS A56 n57 c58] ++ ([VS none 0 0] ++ [])) ++ [])) ++ []) 70 fun b60 w61 =>
 kp w42.drew b43 (o44+4) 1 w61 <|
 app w61 3 56 [VI .i64 0,VS none 0 0,VS none 0 0] 70 A45 n46 c47 (VS (some ⟨b60,0,none⟩) 1 1) fun A62 n63 c64 w65 =>
 dr x5 fun b66 o67 =>
 st w65 b66 (o67+4) [VS A62 n63 c64] fun w68 =>
 jnC C4 ((x1.1,x1.2.1,x1.2.2),x5,(A39,n40,c41),((WR .i64 (x7+1))),()) w68)
 (jnC C4 ((x1.1,x1.2.1,x1.2.2),x5,(x6.1,x6.2.1,x6.2.2),((WR .i64 (x7+1))),()) w)
def F6.k8 (Q:QT) (C4:(ST×Option Addr×ST×Int×Unit)->WT):(ST×Option Addr×ST×Int×Bool×Unit)->WT:=fun s w=>∀ _:Nat->Value,F6.k8c Q C4 s.1 s.2.1 s.2.2.1 s.2.2.2.1 s.2.2.2.2.1 w
def F6.b4c (Q:QT) (C4:(ST×Option Addr×ST×Int×Unit)->WT) (x1:ST) (x5:Option Addr) (x6:ST) (x7:Int) (w:World):Prop :=
 vIf (decide (x7 < (x1.2.1:Int)))
 (dr x1.1 fun b7 o8 =>
 gd (decide (0<=x7)) <|
 gd (decide (x7 < (x1.2.1:Int))) <|
 ldS w b7 (o8+(x7).toNat * 2) fun s9 =>
 Calls Tryz.prog 19 #[ofL ([VS x6.1 x6.2.1 x6.2.2] ++ ([VS none 0 0] ++ [])),VG s9] w fun e11 w10 =>
 ∃ i12:Int,∃ t13:Bool,e11=.returned (VT #[VI .i64 i12,VB t13])/\(
 vIf (!t13)
 (dr x1.1 fun b14 o15 =>
 gd (decide (0<=x7)) <|
 gd (decide (x7 < (x1.2.1:Int))) <|
 ldS w10 b14 (o15+(x7).toNat * 2) fun s16 =>
 Calls Tryz.prog 20 #[VG s16] w10 fun e18 w17 =>
 ∃ t19:Bool,e18=.returned (VB t19)/\(
 vIf t19
 (dr x1.1 fun b20 o21 =>
 gd (decide (0<=x7)) <|
 gd (decide (x7 < (x1.2.1:Int))) <|
 ldSl w17 b20 ((o21+(x7).toNat * 2)+1) fun A22 n23 c24 =>
 jnC (F6.k8 Q C4) ((x1.1,x1.2.1,x1.2.2),x5,(x6.1,x6.2.1,x6.2.2),x7,(decide ((n23:Int)<=1048576)),()) w17)
 (jnC (F6.k8 Q C4) ((x1.1,x1.2.1,x1.2.2),x5,(x6.1,x6.2.1,x6.2.2),x7,false,()) w17)))
 (jnC (F6.k8 Q C4) ((x1.1,x1.2.1,x1.2.2),x5,(x6.1,x6.2.1,x6.2.2),x7,false,()) w10)))
 (Calls Tryz.prog 21 #[ofL ([VS x6.1 x6.2.1 x6.2.2] ++ ([VS none 0 0] ++ []))] w fun e70 w69 =>
 ∃ (A71:Option Addr) (n72 c73:Nat),e70=.returned (VS A71 n72 c73)/\(
 dr x5 fun b74 o75 =>
 gd (([VS A71 n72 c73] ++ ([VS none 0 0] ++ [])).length == 2) <|
 st w69 b74 (o75+2) ([VS A71 n72 c73] ++ ([VS none 0 0] ++ [])) fun w76 =>
 Q (VP x5) w76))
def F6.b4 (Q:QT):(ST×Option Addr×ST×Int×Unit)->World->((ST×Option Addr×ST×Int×Unit)->WT)->Prop:=fun s w C4=>∀ _:Nat->Value,F6.b4c Q C4 s.1 s.2.1 s.2.2.1 s.2.2.2.1 w
def F6.l4 (Q:QT):(ST×Option Addr×ST×Int×Unit)->WT:=fun s w=>∃ n,loopC (F6.b4 Q) n s w
def F6.vc (x0:List Value) (x1A:Option Addr) (x1n x1c:Nat) (w:World) (Q:QT):Prop :=
 nw w x0 26 fun b1 w2 =>
 ldA 2 w2 b1 0 fun a3 =>
 Calls Tryz.prog 18 #[ofL a3] w2 fun e5 w4 =>
 ∃ p6:Option Addr,e5=.returned (VP p6)/\(
 jnC (F6.l4 Q) ((x1A,x1n,x1c),p6,(none,0,0),(0),()) w4)
def F6.an:Ann:=⟨[(4,[(1,.kSl),(5,.kP),(6,.kSl),(7,.kI .i64)])],[(8,[(1,.kSl),(5,.kP),(6,.kSl),(7,.kI .i64),(47,.kB)])]⟩
theorem F6.of (x0:List Value) (x1A:Option Addr) (x1n x1c:Nat) (w:World) {Q:QT} (h:F6.vc x0 x1A x1n x1c w Q):Calls Tryz.prog 6 #[ofL x0,VS x1A x1n x1c] w (fun e w'=>∃ v,e=.returned v/\Q v w'):=vcFn_of (A:=F6.an) noCount mixed h (by kernel_rfl)
def F7.vc (x0:Option Addr) (x1:Int) (w:World) (Q:QT):Prop :=
 vIf (!x0.isNone)
 (dr x0 fun b1 o2 =>
 st w b1 (o2+7) [VB (decide (x1 >= 0))] fun w3 =>
 dr x0 fun b4 o5 =>
 st w3 b4 (o5+8) [VI .i64 x1] fun w6 =>
 Q (VT #[]) w6)
 (Q (VT #[]) w)
def F7.an:Ann:=⟨[],[]⟩
theorem F7.of (x0:Option Addr) (x1:Int) (w:World) {Q:QT} (h:F7.vc x0 x1 w Q):Calls Tryz.prog 7 #[VP x0,VI .i64 x1] w (fun e w'=>∃ v,e=.returned v/\Q v w'):=vcFn_of (A:=F7.an) noCount mixed h (by kernel_rfl)
def F8.vc (x0:Option Addr) (w:World) (Q:QT):Prop :=
 nw w [VP x0] 23 fun b1 w2 =>
 ldP w2 b1 0 fun p3 =>
 Calls Tryz.prog 22 #[VP p3,Value.func (.func 23) #[] #[VP (some ⟨b1,0,none⟩)]] w2 fun e5 w4 =>
 ∃ i6:Int,e5=.returned (VI .i64 i6)/\(
 Q (VI .i64 i6) w4)
def F8.an:Ann:=⟨[],[]⟩
theorem F8.of (x0:Option Addr) (w:World) {Q:QT} (h:F8.vc x0 w Q):Calls Tryz.prog 8 #[VP x0] w (fun e w'=>∃ v,e=.returned v/\Q v w'):=vcFn_of (A:=F8.an) noCount mixed h (by kernel_rfl)
def F9.k10c (Q:QT) (x3:NT) (x4:NT) (x8:ST) (w:World):Prop :=
 ldI .i64 w x3.1 x3.2 fun i31 =>
 Calls Tryz.prog 30 #[VS x8.1 x8.2.1 x8.2.2,VI .i64 i31] w fun e33 w32 =>
 ∃ a34:List Value,e33=.returned (ofL a34)/\(
 gd (a34.length == 6) <|
 st w32 x4.1 x4.2 a34 fun w35 =>
 ldA 6 w35 x4.1 x4.2 fun a36 =>
 Q (VT #[ofL a36,VB false,VI .i64 0]) w35)
def F9.k10 (Q:QT):(NT×NT×ST×Unit)->WT:=fun s w=>∀ _:Nat->Value,F9.k10c Q s.1 s.2.1 s.2.2.1 w
def F9.vc (x0:Option Addr) (x1:Int) (w:World) (Q:QT):Prop :=
 nw w [VP x0] 23 fun b1 w2 =>
 nw w2 [VI .i64 x1] 3 fun b3 w4 =>
 nw w4 Z43 43 fun b5 w6 =>
 Calls Tryz.prog 26 #[VI .i64 1,VP (some ⟨b1,0,none⟩),VP (some ⟨b3,0,none⟩)] w6 fun e8 w7 =>
 ∃ (A9:Option Addr) (n10 c11:Nat),∃ i12:Int,e8=.returned (VT #[VS A9 n10 c11,VI .i64 i12])/\(
 vIf (i12 != 0)
 (gd (([VS none 0 0] ++ ([VI .u64 0] ++ ([VI .i64 0] ++ ([VB false] ++ ([VI .i64 0] ++ ([VI .i64 0] ++ [])))))).length == 6) <|
 st w7 b5 0 ([VS none 0 0] ++ ([VI .u64 0] ++ ([VI .i64 0] ++ ([VB false] ++ ([VI .i64 0] ++ ([VI .i64 0] ++ [])))))) fun w13 =>
 ldA 6 w13 b5 0 fun a14 =>
 Q (VT #[ofL a14,VB false,VI .i64 i12]) w13)
 (Calls Tryz.prog 26 #[VI .i64 2,VP (some ⟨b1,0,none⟩),VP (some ⟨b3,0,none⟩)] w7 fun e16 w15 =>
 ∃ (A17:Option Addr) (n18 c19:Nat),∃ i20:Int,e16=.returned (VT #[VS A17 n18 c19,VI .i64 i20])/\(
 vIf (i20 == 0)
 (ldI .i64 w15 b3 0 fun i21 =>
 Calls Tryz.prog 29 #[VS A17 n18 c19,VI .i64 i21,VI .i64 (n10:Int)] w15 fun e23 w22 =>
 ∃ (A24:Option Addr) (n25 c26:Nat),∃ i27:Int,∃ i28:Int,e23=.returned (VT #[VS A24 n25 c26,VI .u64 i27,VI .i64 i28])/\(
 vIf (i28 == 0)
 (gd (([VS A24 n25 c26] ++ ([VI .u64 i27] ++ ([VI .i64 (n10:Int)] ++ ([VB true] ++ ([VI .i64 (n10:Int)] ++ ([VI .i64 0] ++ [])))))).length == 6) <|
 st w22 b5 0 ([VS A24 n25 c26] ++ ([VI .u64 i27] ++ ([VI .i64 (n10:Int)] ++ ([VB true] ++ ([VI .i64 (n10:Int)] ++ ([VI .i64 0] ++ [])))))) fun w29 =>
 ldA 6 w29 b5 0 fun a30 =>
 Q (VT #[ofL a30,VB true,VI .i64 0]) w29)
 (jnC (F9.k10 Q) ((b3,0),(b5,0),(A9,n10,c11),()) w22)))
 (jnC (F9.k10 Q) ((b3,0),(b5,0),(A9,n10,c11),()) w15))))
def F9.an:Ann:=⟨[],[(10,[(3,.kL),(4,.kL),(8,.kSl)])]⟩
theorem F9.of (x0:Option Addr) (x1:Int) (w:World) {Q:QT} (h:F9.vc x0 x1 w Q):Calls Tryz.prog 9 #[VP x0,VI .i64 x1] w (fun e w'=>∃ v,e=.returned v/\Q v w'):=vcFn_of (A:=F9.an) noCount mixed h (by kernel_rfl)
def F10.k8c (Q:QT) (x1:Int) (x4:NT) (x7:ST) (w:World):Prop :=
 Calls Tryz.prog 34 #[VS x7.1 x7.2.1 x7.2.2,VI .i64 x1] w fun e33 w32 =>
 ∃ a34:List Value,e33=.returned (ofL a34)/\(
 gd (a34.length == 6) <|
 st w32 x4.1 x4.2 a34 fun w35 =>
 ldA 6 w35 x4.1 x4.2 fun a36 =>
 Q (VT #[ofL a36,VB false,VI .i64 0]) w35)
def F10.k8 (Q:QT):(Int×NT×ST×Unit)->WT:=fun s w=>∀ _:Nat->Value,F10.k8c Q s.1 s.2.1 s.2.2.1 w
def F10.k7c (Q:QT) (x1:Int) (x4:NT) (x7:ST) (x11:ST) (x12:Int) (x46:Bool) (w:World):Prop :=
 vIf x46
 (gd (([VS x11.1 x11.2.1 x11.2.2] ++ ([VI .u64 x12] ++ ([VI .i64 (x7.2.1:Int)] ++ ([VB true] ++ ([VI .i64 (x7.2.1:Int)] ++ ([VI .i64 0] ++ [])))))).length == 6) <|
 st w x4.1 x4.2 ([VS x11.1 x11.2.1 x11.2.2] ++ ([VI .u64 x12] ++ ([VI .i64 (x7.2.1:Int)] ++ ([VB true] ++ ([VI .i64 (x7.2.1:Int)] ++ ([VI .i64 0] ++ [])))))) fun w30 =>
 ldA 6 w30 x4.1 x4.2 fun a31 =>
 Q (VT #[ofL a31,VB true,VI .i64 0]) w30)
 (jnC (F10.k8 Q) (x1,(x4.1,x4.2),(x7.1,x7.2.1,x7.2.2),()) w)
def F10.k7 (Q:QT):(Int×NT×ST×ST×Int×Bool×Unit)->WT:=fun s w=>∀ _:Nat->Value,F10.k7c Q s.1 s.2.1 s.2.2.1 s.2.2.2.1 s.2.2.2.2.1 s.2.2.2.2.2.1 w
def F10.vc (x0:Option Addr) (x1:Int) (w:World) (Q:QT):Prop :=
 nw w Z43 43 fun b1 w2 =>
 Calls Tryz.prog 32 #[VI .i64 1,VI .i64 x1] w2 fun e4 w3 =>
 ∃ s5:ByteArray,e4=.returned (VG s5)/\(
 Calls Tryz.prog 31 #[VP x0,VG s5] w3 fun e7 w6 =>
 ∃ (A8:Option Addr) (n9 c10:Nat),∃ i11:Int,e7=.returned (VT #[VS A8 n9 c10,VI .i64 i11])/\(
 vIf (i11 != 0)
 (gd (([VS none 0 0] ++ ([VI .u64 0] ++ ([VI .i64 0] ++ ([VB false] ++ ([VI .i64 0] ++ ([VI .i64 0] ++ [])))))).length == 6) <|
 st w6 b1 0 ([VS none 0 0] ++ ([VI .u64 0] ++ ([VI .i64 0] ++ ([VB false] ++ ([VI .i64 0] ++ ([VI .i64 0] ++ [])))))) fun w12 =>
 ldA 6 w12 b1 0 fun a13 =>
 Q (VT #[ofL a13,VB false,VI .i64 i11]) w12)
 (Calls Tryz.prog 32 #[VI .i64 2,VI .i64 x1] w6 fun e15 w14 =>
 ∃ s16:ByteArray,e15=.returned (VG s16)/\(
 Calls Tryz.prog 31 #[VP x0,VG s16] w14 fun e18 w17 =>
 ∃ (A19:Option Addr) (n20 c21:Nat),∃ i22:Int,e18=.returned (VT #[VS A19 n20 c21,VI .i64 i22])/\(
 Calls Tryz.prog 33 #[VS A19 n20 c21,VI .i64 x1,VI .i64 (n9:Int)] w17 fun e24 w23 =>
 ∃ (A25:Option Addr) (n26 c27:Nat),∃ i28:Int,∃ i29:Int,e24=.returned (VT #[VS A25 n26 c27,VI .u64 i28,VI .i64 i29])/\(
 vIf (i22 == 0)
 (jnC (F10.k7 Q) (x1,(b1,0),(A8,n9,c10),(A25,n26,c27),i28,(i29 == 0),()) w23)
 (jnC (F10.k7 Q) (x1,(b1,0),(A8,n9,c10),(A25,n26,c27),i28,false,()) w23)))))))
def F10.an:Ann:=⟨[],[(7,[(1,.kI .i64),(4,.kL),(7,.kSl),(11,.kSl),(12,.kI .u64),(46,.kB)]),(8,[(1,.kI .i64),(4,.kL),(7,.kSl)])]⟩
theorem F10.of (x0:Option Addr) (x1:Int) (w:World) {Q:QT} (h:F10.vc x0 x1 w Q):Calls Tryz.prog 10 #[VP x0,VI .i64 x1] w (fun e w'=>∃ v,e=.returned v/\Q v w'):=vcFn_of (A:=F10.an) noCount mixed h (by kernel_rfl)
def F11.vc (x0:List Value) (x1:List Value) (w:World) (Q:QT):Prop :=
 nw w x0 43 fun b1 w2 =>
 nw w2 x1 43 fun b3 w4 =>
 ldSl w4 b1 0 fun A5 n6 c7 =>
 ldSl w4 b3 0 fun A8 n9 c10 =>
 Calls Tryz.prog 35 #[VS A5 n6 c7,VS A8 n9 c10] w4 fun e12 w11 =>
 ∃ t13:Bool,e12=.returned (VB t13)/\(
 vIf t13
 (ldI .u64 w11 b1 (0+1) fun i14 =>
 ldI .u64 w11 b3 (0+1) fun i15 =>
 vIf (i14 == i15)
 (ldI .i64 w11 b1 (0+2) fun i16 =>
 ldI .i64 w11 b3 (0+2) fun i17 =>
 vIf (i16 == i17)
 (ldB w11 b1 (0+3) fun t18 =>
 ldB w11 b3 (0+3) fun t19 =>
 vIf (t18 == t19)
 (ldI .i64 w11 b1 (0+4) fun i20 =>
 ldI .i64 w11 b3 (0+4) fun i21 =>
 vIf (i20 == i21)
 (ldI .i64 w11 b1 (0+5) fun i22 =>
 ldI .i64 w11 b3 (0+5) fun i23 =>
 Q (VB (i22 == i23)) w11)
 (Q (VB false) w11))
 (Q (VB false) w11))
 (Q (VB false) w11))
 (Q (VB false) w11))
 (Q (VB false) w11))
def F11.an:Ann:=⟨[],[]⟩
theorem F11.of (x0:List Value) (x1:List Value) (w:World) {Q:QT} (h:F11.vc x0 x1 w Q):Calls Tryz.prog 11 #[ofL x0,ofL x1] w (fun e w'=>∃ v,e=.returned v/\Q v w'):=vcFn_of (A:=F11.an) noCount mixed h (by kernel_rfl)
def F12.vc  (w:World) (Q:QT):Prop :=
 gd (([VI .i64 5] ++ ([VI .u64 0] ++ ([VI .u8 0,VI .u8 0,VI .u8 0,VI .u8 0,VI .u8 0,VI .u8 0,VI .u8 0,VI .u8 0,VI .u8 0,VI .u8 0,VI .u8 0,VI .u8 0,VI .u8 0,VI .u8 0,VI .u8 0,VI .u8 0,VI .u8 0,VI .u8 0,VI .u8 0,VI .u8 0,VI .u8 0,VI .u8 0,VI .u8 0,VI .u8 0,VI .u8 0,VI .u8 0,VI .u8 0,VI .u8 0,VI .u8 0,VI .u8 0,VI .u8 0,VI .u8 0] ++ ([VG (⟨#[]⟩:ByteArray)] ++ ([VS none 0 0] ++ ([VI .i64 0] ++ ([VI .i64 0] ++ []))))))).length == 38) <|
 nw w (([VI .i64 5] ++ ([VI .u64 0] ++ ([VI .u8 0,VI .u8 0,VI .u8 0,VI .u8 0,VI .u8 0,VI .u8 0,VI .u8 0,VI .u8 0,VI .u8 0,VI .u8 0,VI .u8 0,VI .u8 0,VI .u8 0,VI .u8 0,VI .u8 0,VI .u8 0,VI .u8 0,VI .u8 0,VI .u8 0,VI .u8 0,VI .u8 0,VI .u8 0,VI .u8 0,VI .u8 0,VI .u8 0,VI .u8 0,VI .u8 0,VI .u8 0,VI .u8 0,VI .u8 0,VI .u8 0,VI .u8 0] ++ ([VG (⟨#[]⟩:ByteArray)] ++ ([VS none 0 0] ++ ([VI .i64 0] ++ ([VI .i64 0] ++ []))))))) ++ []) 92 fun b1 w2 =>
 nw w2 ([VS (some ⟨b1,0,none⟩) 1 1] ++ []) 93 fun b3 w4 =>
 Calls Tryz.prog 36 #[VI .i64 2,VI .u64 5,VS (some ⟨b3,0,none⟩) 1 1,VB true] w4 fun e6 w5 =>
 ∃ (A7:Option Addr) (n8 c9:Nat),∃ i10:Int,e6=.returned (VT #[VS A7 n8 c9,VI .i64 i10])/\(
 Calls Tryz.prog 5 #[] w5 fun e12 w11 =>
 ∃ a13:List Value,e12=.returned (ofL a13)/\(
 gd (([VG (⟨#[115,101,103,45,48,48,48,48,48,48,48,50]⟩:ByteArray)] ++ ([VS A7 n8 c9] ++ [])).length == 2) <|
 nw w11 (([VG (⟨#[115,101,103,45,48,48,48,48,48,48,48,50]⟩:ByteArray)] ++ ([VS A7 n8 c9] ++ [])) ++ []) 54 fun b14 w15 =>
 Calls Tryz.prog 4 #[ofL a13,VS (some ⟨b14,0,none⟩) 1 1] w15 fun e17 w16 =>
 ∃ p18:Option Addr,e17=.returned (VP p18)/\(
 Calls Tryz.prog 9 #[VP p18,VI .i64 2] w16 fun e20 w19 =>
 ∃ a21:List Value,∃ t22:Bool,∃ i23:Int,e20=.returned (VT #[ofL a21,VB t22,VI .i64 i23])/\(
 nw w19 Z43 43 fun b24 w25 =>
 gd (a21.length == 6) <|
 st w25 b24 0 a21 fun w26 =>
 vIf (i10 == 0)
 (vIf (i23 == 0)
 (vIf (!t22)
 (ldB w26 b24 (0+3) fun t27 =>
 vIf t27
 (ldSl w26 b24 0 fun A28 n29 c30 =>
 vIf ((n29:Int) == 1)
 (ldI .u64 w26 b24 (0+1) fun i31 =>
 Q (VB (i31 == 8)) w26)
 (Q (VB false) w26))
 (Q (VB false) w26))
 (Q (VB false) w26))
 (Q (VB false) w26))
 (Q (VB false) w26)))))
def F12.an:Ann:=⟨[],[]⟩
theorem F12.of  (w:World) {Q:QT} (h:F12.vc  w Q):Calls Tryz.prog 12 #[] w (fun e w'=>∃ v,e=.returned v/\Q v w'):=vcFn_of (A:=F12.an) noCount mixed h (by kernel_rfl)
def F13.vc (x0:List Value) (w:World) (Q:QT):Prop :=
 nw w x0 26 fun b1 w2 =>
 ldA 2 w2 b1 0 fun a3 =>
 mmk w2 fun m4 w5 =>
 gd (a3.length == 2) <|
 nw w5 (a3 ++ ([VS none 0 0,VS none 0 0] ++ ([Value.map (some m4)] ++ ([VI .i64 0] ++ ([VB false] ++ ([VB false] ++ ([VI .i64 0] ++ ([VI .i64 0] ++ [])))))))) 59 fun b6 w7 =>
 Q (VP (some ⟨b6,0,none⟩)) w7
def F13.an:Ann:=⟨[],[]⟩
theorem F13.of (x0:List Value) (w:World) {Q:QT} (h:F13.vc x0 w Q):Calls Tryz.prog 13 #[ofL x0] w (fun e w'=>∃ v,e=.returned v/\Q v w'):=vcFn_of (A:=F13.an) noCount mixed h (by kernel_rfl)
def F14.vc (x0:List Value) (x1:ByteArray) (w:World) (Q:QT):Prop :=
 nw w x0 36 fun b1 w2 =>
 ldA 2 w2 b1 0 fun a3 =>
 Calls Tryz.prog 37 #[ofL a3] w2 fun e5 w4 =>
 ∃ (A6:Option Addr) (n7 c8:Nat),e5=.returned (VS A6 n7 c8)/\(
 Calls Tryz.prog 38 #[VS A6 n7 c8,VG x1,Value.func (.func 39) #[] #[]] w4 fun e10 w9 =>
 ∃ i11:Int,∃ t12:Bool,e10=.returned (VT #[VI .i64 i11,VB t12])/\(
 vIf (!t12)
 (Q (VT #[VI .i64 0,VB false]) w9)
 (dr A6 fun b13 o14 =>
 gd (decide (0<=i11)) <|
 gd (decide (i11 < (n7:Int))) <|
 ldI .i64 w9 b13 ((o14+(i11).toNat * 2)+1) fun i15 =>
 Q (VT #[VI .i64 i15,VB true]) w9)))
def F14.an:Ann:=⟨[],[]⟩
theorem F14.of (x0:List Value) (x1:ByteArray) (w:World) {Q:QT} (h:F14.vc x0 x1 w Q):Calls Tryz.prog 14 #[ofL x0,VG x1] w (fun e w'=>∃ v,e=.returned v/\Q v w'):=vcFn_of (A:=F14.an) noCount mixed h (by kernel_rfl)
def F15.b4c (Q:QT) (C4:(ByteArray×Int×Int×Unit)->WT) (x0:ByteArray) (x13:Int) (x14:Int) (w:World):Prop :=
 vIf (decide (x14 < x13))
 (gd (decide (0<=x14)) <|
 gd (decide (x14 < (x0.size:Int))) <|
 vIf (decide ((byteAt x0 (x14).toNat) < 33))
 (Q (VB false) w)
 (vIf (decide ((byteAt x0 (x14).toNat) > 126))
 (Q (VB false) w)
 (vIf ((byteAt x0 (x14).toNat) == 47)
 (Q (VB false) w)
 (jnC C4 (x0,x13,((WR .i64 (x14+1))),()) w))))
 (Q (VB true) w)
def F15.b4 (Q:QT):(ByteArray×Int×Int×Unit)->World->((ByteArray×Int×Int×Unit)->WT)->Prop:=fun s w C4=>∀ _:Nat->Value,F15.b4c Q C4 s.1 s.2.1 s.2.2.1 w
def F15.l4 (Q:QT):(ByteArray×Int×Int×Unit)->WT:=fun s w=>∃ n,loopC (F15.b4 Q) n s w
def F15.k3c (Q:QT) (x0:ByteArray) (w:World):Prop :=
 jnC (F15.l4 Q) (x0,((x0.size:Int)),(0),()) w
def F15.k3 (Q:QT):(ByteArray×Unit)->WT:=fun s w=>∀ _:Nat->Value,F15.k3c Q s.1 w
def F15.vc (x0:ByteArray) (w:World) (Q:QT):Prop :=
 vIf (x0.toList == (⟨#[]⟩:ByteArray).toList)
 (Q (VB false) w)
 (vIf (decide ((x0.size:Int) > 32))
 (Q (VB false) w)
 (jnC (F15.k3 Q) (x0,()) w))
def F15.an:Ann:=⟨[(4,[(0,.kS),(13,.kI .i64),(14,.kI .i64)])],[(3,[(0,.kS)])]⟩
theorem F15.of (x0:ByteArray) (w:World) {Q:QT} (h:F15.vc x0 w Q):Calls Tryz.prog 15 #[VG x0] w (fun e w'=>∃ v,e=.returned v/\Q v w'):=vcFn_of (A:=F15.an) noCount mixed h (by kernel_rfl)
def F16.vc (x0:List Value) (w:World) (Q:QT):Prop :=
 nw w x0 65 fun b1 w2 =>
 nw w2 [VS none 0 0,VS none 0 0] 65 fun b3 w4 =>
 ldA 2 w4 b1 0 fun a5 =>
 Calls Tryz.prog 40 #[ofL a5] w4 fun e7 w6 =>
 ∃ (A8:Option Addr) (n9 c10:Nat),e7=.returned (VS A8 n9 c10)/\(
 gd (([VS A8 n9 c10] ++ ([VS none 0 0] ++ [])).length == 2) <|
 st w6 b3 0 ([VS A8 n9 c10] ++ ([VS none 0 0] ++ [])) fun w11 =>
 ldA 2 w11 b3 0 fun a12 =>
 Q (ofL a12) w11)
def F16.an:Ann:=⟨[],[]⟩
theorem F16.of (x0:List Value) (w:World) {Q:QT} (h:F16.vc x0 w Q):Calls Tryz.prog 16 #[ofL x0] w (fun e w'=>∃ v,e=.returned v/\Q v w'):=vcFn_of (A:=F16.an) noCount mixed h (by kernel_rfl)
def F17.vc (x0:List Value) (w:World) (Q:QT):Prop :=
 nw w x0 36 fun b1 w2 =>
 nw w2 [VS none 0 0,VS none 0 0] 36 fun b3 w4 =>
 ldA 2 w4 b1 0 fun a5 =>
 Calls Tryz.prog 37 #[ofL a5] w4 fun e7 w6 =>
 ∃ (A8:Option Addr) (n9 c10:Nat),e7=.returned (VS A8 n9 c10)/\(
 gd (([VS A8 n9 c10] ++ ([VS none 0 0] ++ [])).length == 2) <|
 st w6 b3 0 ([VS A8 n9 c10] ++ ([VS none 0 0] ++ [])) fun w11 =>
 ldA 2 w11 b3 0 fun a12 =>
 Q (ofL a12) w11)
def F17.an:Ann:=⟨[],[]⟩
theorem F17.of (x0:List Value) (w:World) {Q:QT} (h:F17.vc x0 w Q):Calls Tryz.prog 17 #[ofL x0] w (fun e w'=>∃ v,e=.returned v/\Q v w'):=vcFn_of (A:=F17.an) noCount mixed h (by kernel_rfl)
def F18.vc (x0:List Value) (w:World) (Q:QT):Prop :=
 nw w x0 26 fun b1 w2 =>
 ldA 2 w2 b1 0 fun a3 =>
 gd (a3.length == 2) <|
 nw w2 (a3 ++ ([VS none 0 0,VS none 0 0] ++ ([VS none 0 0] ++ ([VI .i64 0] ++ ([VB false] ++ ([VI .i64 (-1)] ++ ([VI .i64 0] ++ []))))))) 39 fun b4 w5 =>
 Q (VP (some ⟨b4,0,none⟩)) w5
def F18.an:Ann:=⟨[],[]⟩
theorem F18.of (x0:List Value) (w:World) {Q:QT} (h:F18.vc x0 w Q):Calls Tryz.prog 18 #[ofL x0] w (fun e w'=>∃ v,e=.returned v/\Q v w'):=vcFn_of (A:=F18.an) noCount mixed h (by kernel_rfl)
def F19.vc (x0:List Value) (x1:ByteArray) (w:World) (Q:QT):Prop :=
 nw w x0 36 fun b1 w2 =>
 ldA 2 w2 b1 0 fun a3 =>
 Calls Tryz.prog 21 #[ofL a3] w2 fun e5 w4 =>
 ∃ (A6:Option Addr) (n7 c8:Nat),e5=.returned (VS A6 n7 c8)/\(
 Calls Tryz.prog 41 #[VS A6 n7 c8,VG x1] w4 fun e10 w9 =>
 ∃ i11:Int,∃ t12:Bool,e10=.returned (VT #[VI .i64 i11,VB t12])/\(
 Q (VT #[VI .i64 i11,VB t12]) w9))
def F19.an:Ann:=⟨[],[]⟩
theorem F19.of (x0:List Value) (x1:ByteArray) (w:World) {Q:QT} (h:F19.vc x0 x1 w Q):Calls Tryz.prog 19 #[ofL x0,VG x1] w (fun e w'=>∃ v,e=.returned v/\Q v w'):=vcFn_of (A:=F19.an) noCount mixed h (by kernel_rfl)
def F20.b2c (Q:QT) (C2:(ByteArray×Int×Unit)->WT) (x0:ByteArray) (x3:Int) (w:World):Prop :=
 vIf (decide (x3 < (x0.size:Int)))
 (gd (decide (0<=x3)) <|
 gd (decide (x3 < (x0.size:Int))) <|
 vIf (decide ((byteAt x0 (x3).toNat)<=32))
 (Q (VB false) w)
 (gd (decide (0<=x3)) <|
 gd (decide (x3 < (x0.size:Int))) <|
 vIf (decide ((byteAt x0 (x3).toNat) >= 127))
 (Q (VB false) w)
 (gd (decide (0<=x3)) <|
 gd (decide (x3 < (x0.size:Int))) <|
 vIf ((byteAt x0 (x3).toNat) == 47)
 (Q (VB false) w)
 (jnC C2 (x0,((WR .i64 (x3+1))),()) w))))
 (vIf (decide ((x0.size:Int) >= 1))
 (Q (VB (decide ((x0.size:Int)<=32))) w)
 (Q (VB false) w))
def F20.b2 (Q:QT):(ByteArray×Int×Unit)->World->((ByteArray×Int×Unit)->WT)->Prop:=fun s w C2=>∀ _:Nat->Value,F20.b2c Q C2 s.1 s.2.1 w
def F20.l2 (Q:QT):(ByteArray×Int×Unit)->WT:=fun s w=>∃ n,loopC (F20.b2 Q) n s w
def F20.vc (x0:ByteArray) (w:World) (Q:QT):Prop :=
 jnC (F20.l2 Q) (x0,(0),()) w
def F20.an:Ann:=⟨[(2,[(0,.kS),(3,.kI .i64)])],[]⟩
theorem F20.of (x0:ByteArray) (w:World) {Q:QT} (h:F20.vc x0 w Q):Calls Tryz.prog 20 #[VG x0] w (fun e w'=>∃ v,e=.returned v/\Q v w'):=vcFn_of (A:=F20.an) noCount mixed h (by kernel_rfl)
def F21.vc (x0:List Value) (w:World) (Q:QT):Prop :=
 nw w x0 36 fun b1 w2 =>
 ldA 2 w2 b1 0 fun a3 =>
 ldSl w2 b1 (0+1) fun A4 n5 c6 =>
 Calls Tryz.prog 42 #[ofL a3,VI .i64 (n5:Int)] w2 fun e8 w7 =>
 ∃ (A9:Option Addr) (n10 c11:Nat),e8=.returned (VS A9 n10 c11)/\(
 Q (VS A9 n10 c11) w7)
def F21.an:Ann:=⟨[],[]⟩
theorem F21.of (x0:List Value) (w:World) {Q:QT} (h:F21.vc x0 w Q):Calls Tryz.prog 21 #[ofL x0] w (fun e w'=>∃ v,e=.returned v/\Q v w'):=vcFn_of (A:=F21.an) noCount mixed h (by kernel_rfl)
def F22g.k6c (Q:QT) (x0:Option Addr) (x1:NT) (w:World):Prop :=
 dr x0 fun b7 o8 =>
 ldI .i64 w b7 (o8+8) fun i9 =>
 dr x0 fun b10 o11 =>
 st w b10 (o11+8) [VI .i64 (WR .i64 (i9 - 1))] fun w12 =>
 dr x0 fun b13 o14 =>
 ldI .i64 w12 b13 (o14+9) fun i15 =>
 dr x0 fun b16 o17 =>
 st w12 b16 (o17+9) [VI .i64 (WR .i64 (i15+1))] fun w18 =>
 Calls Tryz.prog 23 #[VP (some ⟨x1.1,x1.2,none⟩)] w18 fun e20 w19 =>
 ∃ i21:Int,e20=.returned (VI .i64 i21)/\(
 Q (VI .i64 i21) w19)
def F22g.k6 (Q:QT):(Option Addr×NT×Unit)->WT:=fun s w=>∀ _:Nat->Value,F22g.k6c Q s.1 s.2.1 w
def F22g.k4c (Q:QT) (x0:Option Addr) (x1:NT) (x8:Bool) (w:World):Prop :=
 vIf x8
 (dr x0 fun b4 o5 =>
 st w b4 (o5+6) [VB true] fun w6 =>
 Q (VI .i64 11) w6)
 (jnC (F22g.k6 Q) (x0,(x1.1,x1.2),()) w)
def F22g.k4 (Q:QT):(Option Addr×NT×Bool×Unit)->WT:=fun s w=>∀ _:Nat->Value,F22g.k4c Q s.1 s.2.1 s.2.2.1 w
def F22g.vc (x0:Option Addr) (x1:Nat×Nat) (w:World) (Q:QT):Prop :=
 vIf x0.isNone
 (Q (VI .i64 1) w)
 (dr x0 fun b1 o2 =>
 ldB w b1 (o2+6) fun t3 =>
 vIf t3
 (jnC (F22g.k4 Q) (x0,(x1.1,x1.2),true,()) w)
 (dr x0 fun b22 o23 =>
 ldB w b22 (o23+7) fun t24 =>
 vIf t24
 (dr x0 fun b25 o26 =>
 ldI .i64 w b25 (o26+8) fun i27 =>
 jnC (F22g.k4 Q) (x0,(x1.1,x1.2),(decide (i27<=0)),()) w)
 (jnC (F22g.k4 Q) (x0,(x1.1,x1.2),false,()) w)))
def F22g.an:Ann:=⟨[],[(4,[(0,.kP),(1,.kG 23),(8,.kB)]),(6,[(0,.kP),(1,.kG 23)])]⟩
theorem F22g.of (x0:Option Addr) (x1:Nat×Nat) (w:World) {Q:QT} (h:F22g.vc x0 x1 w Q):Calls Tryz.prog 22 #[VP x0,Value.func (.func 23) #[] #[VP (some ⟨x1.1,x1.2,none⟩)]] w (fun e w'=>∃ v,e=.returned v/\Q v w'):=vcFn_of (A:=F22g.an) noCount mixed h (by kernel_rfl)
def F23.vc (x0:Nat×Nat) (w:World) (Q:QT):Prop :=
 ldP w x0.1 x0.2 fun p1 =>
 dr p1 fun b2 o3 =>
 ldA 2 w b2 (o3+2) fun a4 =>
 Calls Tryz.prog 24 #[ofL a4] w fun e6 w5 =>
 ∃ (A7:Option Addr) (n8 c9:Nat),e6=.returned (VS A7 n8 c9)/\(
 ldP w5.drew x0.1 x0.2 fun p10 =>
 ldP w5.drew x0.1 x0.2 fun p11 =>
 dr p11 fun b12 o13 =>
 ldA 2 w5.drew b12 (o13+2) fun a14 =>
 Calls Tryz.prog 17 #[ofL a14] w5.drew fun e16 w15 =>
 ∃ a17:List Value,e16=.returned (ofL a17)/\(
 kp w5.drew x0.1 x0.2 1 w15 <|
 dr p10 fun b18 o19 =>
 gd (a17.length == 2) <|
 st w15 b18 (o19+2) a17 fun w20 =>
 ldP w20 x0.1 x0.2 fun p21 =>
 Calls Tryz.prog 25 #[VP p21,VS A7 n8 c9] w20 fun e23 w22 =>
 e23=.returned (VT #[])/\(
 Q (VI .i64 0) w22)))
def F23.an:Ann:=⟨[],[]⟩
theorem F23.of (x0:Nat×Nat) (w:World) {Q:QT} (h:F23.vc x0 w Q):Calls Tryz.prog 23 #[VP (some ⟨x0.1,x0.2,none⟩)] w (fun e w'=>∃ v,e=.returned v/\Q v w'):=vcFn_of (A:=F23.an) noCount mixed h (by kernel_rfl)
def F24.b6c (Q:QT) (C3:(NT×ST×Int×Int×Unit)->WT) (C6:(NT×ST×Int×Int×ST×Int×Int×Unit)->WT) (x1:NT) (x3:ST) (x10:Int) (x11:Int) (x16:ST) (x17:Int) (x18:Int) (w:World):Prop :=
 vIf (decide (x18 < x17))
 (dr x16.1 fun b12 o13 =>
 gd (decide (0<=x18)) <|
 gd (decide (x18 < (x16.2.1:Int))) <|
 ldA 2 w b12 (o13+(x18).toNat * 2) fun a14 =>
 nw w [VG (⟨#[]⟩:ByteArray),VI .i64 0] 62 fun b15 w16 =>
 gd (a14.length == 2) <|
 st w16 b15 0 a14 fun w17 =>
 ldI .i64 w17 b15 (0+1) fun i18 =>
 nw w17 ([VI .i64 i18] ++ []) 3 fun b19 w20 =>
 app w20 1 8 [VI .i64 0] 3 x3.1 x3.2.1 x3.2.2 (VS (some ⟨b19,0,none⟩) 1 1) fun A21 n22 c23 w24 =>
 jnC C6 ((x1.1,x1.2),(A21,n22,c23),x10,x11,(x16.1,x16.2.1,x16.2.2),x17,((WR .i64 (x18+1))),()) w24)
 (jnC C3 ((x1.1,x1.2),(x3.1,x3.2.1,x3.2.2),x10,((WR .i64 (x11+1))),()) w)
def F24.b6 (Q:QT) (C3:(NT×ST×Int×Int×Unit)->WT):(NT×ST×Int×Int×ST×Int×Int×Unit)->World->((NT×ST×Int×Int×ST×Int×Int×Unit)->WT)->Prop:=fun s w C6=>∀ _:Nat->Value,F24.b6c Q C3 C6 s.1 s.2.1 s.2.2.1 s.2.2.2.1 s.2.2.2.2.1 s.2.2.2.2.2.1 s.2.2.2.2.2.2.1 w
def F24.l6 (Q:QT) (C3:(NT×ST×Int×Int×Unit)->WT):(NT×ST×Int×Int×ST×Int×Int×Unit)->WT:=fun s w=>∃ n,loopC (F24.b6 Q C3) n s w
def F24.b3c (Q:QT) (C3:(NT×ST×Int×Int×Unit)->WT) (x1:NT) (x3:ST) (x10:Int) (x11:Int) (w:World):Prop :=
 vIf (decide (x11 < x10))
 (ldA 2 w x1.1 x1.2 fun a6 =>
 Calls Tryz.prog 43 #[ofL a6,VI .i64 x11] w fun e8 w7 =>
 ∃ (A9:Option Addr) (n10 c11:Nat),e8=.returned (VS A9 n10 c11)/\(
 jnC (F24.l6 Q C3) ((x1.1,x1.2),(x3.1,x3.2.1,x3.2.2),x10,x11,(A9,n10,c11),((n10:Int)),(0),()) w7))
 (Calls Tryz.prog 44 #[VS x3.1 x3.2.1 x3.2.2] w fun e26 w25 =>
 e26=.returned (VT #[])/\(
 Calls Tryz.prog 45 #[VS x3.1 x3.2.1 x3.2.2] w25 fun e28 w27 =>
 ∃ (A29:Option Addr) (n30 c31:Nat),e28=.returned (VS A29 n30 c31)/\(
 Q (VS A29 n30 c31) w27)))
def F24.b3 (Q:QT):(NT×ST×Int×Int×Unit)->World->((NT×ST×Int×Int×Unit)->WT)->Prop:=fun s w C3=>∀ _:Nat->Value,F24.b3c Q C3 s.1 s.2.1 s.2.2.1 s.2.2.2.1 w
def F24.l3 (Q:QT):(NT×ST×Int×Int×Unit)->WT:=fun s w=>∃ n,loopC (F24.b3 Q) n s w
def F24.vc (x0:List Value) (w:World) (Q:QT):Prop :=
 nw w x0 36 fun b1 w2 =>
 ldSl w2 b1 (0+1) fun A3 n4 c5 =>
 jnC (F24.l3 Q) ((b1,0),(none,0,0),((WR .i64 ((n4:Int)+1))),(0),()) w2
def F24.an:Ann:=⟨[(3,[(1,.kL),(3,.kSl),(10,.kI .i64),(11,.kI .i64)]),(6,[(1,.kL),(3,.kSl),(10,.kI .i64),(11,.kI .i64),(16,.kSl),(17,.kI .i64),(18,.kI .i64)])],[]⟩
theorem F24.of (x0:List Value) (w:World) {Q:QT} (h:F24.vc x0 w Q):Calls Tryz.prog 24 #[ofL x0] w (fun e w'=>∃ v,e=.returned v/\Q v w'):=vcFn_of (A:=F24.an) noCount mixed h (by kernel_rfl)
def F25.k8c (Q:QT) (C3:(Option Addr×ST×Int×ST×Int×Int×Unit)->WT) (x0:Option Addr) (x4:ST) (x5:Int) (x7:Int) (x13:ST) (x14:Int) (x15:Int) (x44:Bool) (w:World):Prop :=
 vIf x44
 (dr x0 fun b15 o16 =>
 ldM w b15 (o16+4) fun m17 =>
 drM m17 fun r19 =>
 mdl w r19 .i64 x7 fun w18 =>
 jnC C3 (x0,(x4.1,x4.2.1,x4.2.2),x5,(x13.1,x13.2.1,x13.2.2),x14,((WR .i64 (x15+1))),()) w18)
 (jnC C3 (x0,(x4.1,x4.2.1,x4.2.2),x5,(x13.1,x13.2.1,x13.2.2),x14,((WR .i64 (x15+1))),()) w)
def F25.k8 (Q:QT) (C3:(Option Addr×ST×Int×ST×Int×Int×Unit)->WT):(Option Addr×ST×Int×Int×ST×Int×Int×Bool×Unit)->WT:=fun s w=>∀ _:Nat->Value,F25.k8c Q C3 s.1 s.2.1 s.2.2.1 s.2.2.2.1 s.2.2.2.2.1 s.2.2.2.2.2.1 s.2.2.2.2.2.2.1 s.2.2.2.2.2.2.2.1 w
def F25.k7c (Q:QT) (C3:(Option Addr×ST×Int×ST×Int×Int×Unit)->WT) (x0:Option Addr) (x4:ST) (x5:Int) (x7:Int) (x13:ST) (x14:Int) (x15:Int) (w:World):Prop :=
 vIf (x5 == (x4.2.1:Int))
 (jnC (F25.k8 Q C3) (x0,(x4.1,x4.2.1,x4.2.2),x5,x7,(x13.1,x13.2.1,x13.2.2),x14,x15,true,()) w)
 (dr x4.1 fun b20 o21 =>
 gd (decide (0<=x5)) <|
 gd (decide (x5 < (x4.2.1:Int))) <|
 ldI .i64 w b20 (o21+(x5).toNat * 1) fun i22 =>
 jnC (F25.k8 Q C3) (x0,(x4.1,x4.2.1,x4.2.2),x5,x7,(x13.1,x13.2.1,x13.2.2),x14,x15,(i22 != x7),()) w)
def F25.k7 (Q:QT) (C3:(Option Addr×ST×Int×ST×Int×Int×Unit)->WT):(Option Addr×ST×Int×Int×ST×Int×Int×Unit)->WT:=fun s w=>∀ _:Nat->Value,F25.k7c Q C3 s.1 s.2.1 s.2.2.1 s.2.2.2.1 s.2.2.2.2.1 s.2.2.2.2.2.1 s.2.2.2.2.2.2.1 w
def F25.b5c (Q:QT) (C3:(Option Addr×ST×Int×ST×Int×Int×Unit)->WT) (C5:(Option Addr×ST×Int×Int×ST×Int×Int×Unit)->WT) (x0:Option Addr) (x4:ST) (x5:Int) (x7:Int) (x13:ST) (x14:Int) (x15:Int) (w:World):Prop :=
 vIf (decide (x5 < (x4.2.1:Int)))
 (dr x4.1 fun b12 o13 =>
 gd (decide (0<=x5)) <|
 gd (decide (x5 < (x4.2.1:Int))) <|
 ldI .i64 w b12 (o13+(x5).toNat * 1) fun i14 =>
 vIf (decide (i14 < x7))
 (jnC C5 (x0,(x4.1,x4.2.1,x4.2.2),((WR .i64 (x5+1))),x7,(x13.1,x13.2.1,x13.2.2),x14,x15,()) w)
 (jnC (F25.k7 Q C3) (x0,(x4.1,x4.2.1,x4.2.2),x5,x7,(x13.1,x13.2.1,x13.2.2),x14,x15,()) w))
 (jnC (F25.k7 Q C3) (x0,(x4.1,x4.2.1,x4.2.2),x5,x7,(x13.1,x13.2.1,x13.2.2),x14,x15,()) w)
def F25.b5 (Q:QT) (C3:(Option Addr×ST×Int×ST×Int×Int×Unit)->WT):(Option Addr×ST×Int×Int×ST×Int×Int×Unit)->World->((Option Addr×ST×Int×Int×ST×Int×Int×Unit)->WT)->Prop:=fun s w C5=>∀ _:Nat->Value,F25.b5c Q C3 C5 s.1 s.2.1 s.2.2.1 s.2.2.2.1 s.2.2.2.2.1 s.2.2.2.2.2.1 s.2.2.2.2.2.2.1 w
def F25.l5 (Q:QT) (C3:(Option Addr×ST×Int×ST×Int×Int×Unit)->WT):(Option Addr×ST×Int×Int×ST×Int×Int×Unit)->WT:=fun s w=>∃ n,loopC (F25.b5 Q C3) n s w
def F25.b3c (Q:QT) (C3:(Option Addr×ST×Int×ST×Int×Int×Unit)->WT) (x0:Option Addr) (x4:ST) (x5:Int) (x13:ST) (x14:Int) (x15:Int) (w:World):Prop :=
 vIf (decide (x15 < x14))
 (dr x13.1 fun b9 o10 =>
 gd (decide (0<=x15)) <|
 gd (decide (x15 < (x13.2.1:Int))) <|
 ldI .i64 w b9 (o10+(x15).toNat * 1) fun i11 =>
 jnC (F25.l5 Q C3) (x0,(x4.1,x4.2.1,x4.2.2),x5,i11,(x13.1,x13.2.1,x13.2.2),x14,x15,()) w)
 (Q (VT #[]) w)
def F25.b3 (Q:QT):(Option Addr×ST×Int×ST×Int×Int×Unit)->World->((Option Addr×ST×Int×ST×Int×Int×Unit)->WT)->Prop:=fun s w C3=>∀ _:Nat->Value,F25.b3c Q C3 s.1 s.2.1 s.2.2.1 s.2.2.2.1 s.2.2.2.2.1 s.2.2.2.2.2.1 w
def F25.l3 (Q:QT):(Option Addr×ST×Int×ST×Int×Int×Unit)->WT:=fun s w=>∃ n,loopC (F25.b3 Q) n s w
def F25.vc (x0:Option Addr) (x1A:Option Addr) (x1n x1c:Nat) (w:World) (Q:QT):Prop :=
 dr x0 fun b1 o2 =>
 ldA 2 w b1 (o2+2) fun a3 =>
 Calls Tryz.prog 24 #[ofL a3] w fun e5 w4 =>
 ∃ (A6:Option Addr) (n7 c8:Nat),e5=.returned (VS A6 n7 c8)/\(
 jnC (F25.l3 Q) (x0,(A6,n7,c8),(0),(x1A,x1n,x1c),((x1n:Int)),(0),()) w4)
def F25.an:Ann:=⟨[(3,[(0,.kP),(4,.kSl),(5,.kI .i64),(13,.kSl),(14,.kI .i64),(15,.kI .i64)]),(5,[(0,.kP),(4,.kSl),(5,.kI .i64),(7,.kI .i64),(13,.kSl),(14,.kI .i64),(15,.kI .i64)])],[(7,[(0,.kP),(4,.kSl),(5,.kI .i64),(7,.kI .i64),(13,.kSl),(14,.kI .i64),(15,.kI .i64)]),(8,[(0,.kP),(4,.kSl),(5,.kI .i64),(7,.kI .i64),(13,.kSl),(14,.kI .i64),(15,.kI .i64),(44,.kB)])]⟩
theorem F25.of (x0:Option Addr) (x1A:Option Addr) (x1n x1c:Nat) (w:World) {Q:QT} (h:F25.vc x0 x1A x1n x1c w Q):Calls Tryz.prog 25 #[VP x0,VS x1A x1n x1c] w (fun e w'=>∃ v,e=.returned v/\Q v w'):=vcFn_of (A:=F25.an) noCount mixed h (by kernel_rfl)
def F26.vc (x0:Int) (x1:Nat×Nat) (x2:Nat×Nat) (w:World) (Q:QT):Prop :=
 ldP w.drew x1.1 x1.2 fun p1 =>
 ldI .i64 w.drew x2.1 x2.2 fun i2 =>
 Calls Tryz.prog 28 #[VI .i64 x0,VI .i64 i2] w.drew fun e4 w3 =>
 ∃ s5:ByteArray,e4=.returned (VG s5)/\(
 kp w.drew x1.1 x1.2 1 w3 <|
 Calls Tryz.prog 27 #[VP p1,VG s5] w3 fun e7 w6 =>
 ∃ (A8:Option Addr) (n9 c10:Nat),∃ i11:Int,e7=.returned (VT #[VS A8 n9 c10,VI .i64 i11])/\(
 Q (VT #[VS A8 n9 c10,VI .i64 i11]) w6))
def F26.an:Ann:=⟨[],[]⟩
theorem F26.of (x0:Int) (x1:Nat×Nat) (x2:Nat×Nat) (w:World) {Q:QT} (h:F26.vc x0 x1 x2 w Q):Calls Tryz.prog 26 #[VI .i64 x0,VP (some ⟨x1.1,x1.2,none⟩),VP (some ⟨x2.1,x2.2,none⟩)] w (fun e w'=>∃ v,e=.returned v/\Q v w'):=vcFn_of (A:=F26.an) noCount mixed h (by kernel_rfl)
def F27.vc (x0:Option Addr) (x1:ByteArray) (w:World) (Q:QT):Prop :=
 Calls Tryz.prog 46 #[VP x0,VG x1] w fun e2 w1 =>
 ∃ i3:Int,∃ i4:Int,e2=.returned (VT #[VI .i64 i3,VI .i64 i4])/\(
 vIf (i4 != 0)
 (Q (VT #[VS none 0 0,VI .i64 i4]) w1)
 (Calls Tryz.prog 47 #[VP x0,VG x1,VI .i64 0,VI .i64 i3] w1 fun e6 w5 =>
 ∃ (A7:Option Addr) (n8 c9:Nat),∃ i10:Int,e6=.returned (VT #[VS A7 n8 c9,VI .i64 i10])/\(
 Q (VT #[VS A7 n8 c9,VI .i64 i10]) w5)))
def F27.an:Ann:=⟨[],[]⟩
theorem F27.of (x0:Option Addr) (x1:ByteArray) (w:World) {Q:QT} (h:F27.vc x0 x1 w Q):Calls Tryz.prog 27 #[VP x0,VG x1] w (fun e w'=>∃ v,e=.returned v/\Q v w'):=vcFn_of (A:=F27.an) noCount mixed h (by kernel_rfl)
def F28.k4c (Q:QT) (x1:Int) (x5:ByteArray) (w:World):Prop :=
 Calls Tryz.prog 49 #[VI .i64 x1] w fun e5 w4 =>
 ∃ s6:ByteArray,e5=.returned (VG s6)/\(
 Calls Tryz.prog 50 #[VG (⟨#[48]⟩:ByteArray),VI .i64 (WR .i64 (8 - (s6.size:Int)))] w4 fun e8 w7 =>
 ∃ s9:ByteArray,e8=.returned (VG s9)/\(
 gd (decide (x5.size+s9.size<=9223372036854775807)) <|
 gd (decide ((x5 ++ s9).size+s6.size<=9223372036854775807)) <|
 Q (VG ((x5 ++ s9) ++ s6)) w7))
def F28.k4 (Q:QT):(Int×ByteArray×Unit)->WT:=fun s w=>∀ _:Nat->Value,F28.k4c Q s.1 s.2.1 w
def F28.vc (x0:Int) (x1:Int) (w:World) (Q:QT):Prop :=
 Calls Tryz.prog 48 #[VI .i64 x0] w fun e2 w1 =>
 ∃ s3:ByteArray,e2=.returned (VG s3)/\(
 vIf (s3.toList == (⟨#[]⟩:ByteArray).toList)
 (Q (VG (⟨#[]⟩:ByteArray)) w1)
 (vIf (decide (x1 < 1))
 (Q (VG (⟨#[]⟩:ByteArray)) w1)
 (vIf (decide (x1 > 99999999))
 (Q (VG (⟨#[]⟩:ByteArray)) w1)
 (jnC (F28.k4 Q) (x1,s3,()) w1))))
def F28.an:Ann:=⟨[],[(4,[(1,.kI .i64),(5,.kS)])]⟩
theorem F28.of (x0:Int) (x1:Int) (w:World) {Q:QT} (h:F28.vc x0 x1 w Q):Calls Tryz.prog 28 #[VI .i64 x0,VI .i64 x1] w (fun e w'=>∃ v,e=.returned v/\Q v w'):=vcFn_of (A:=F28.an) noCount mixed h (by kernel_rfl)
def F29.k7c (Q:QT) (C5:(ST×Int×Int×Option Addr×Int×Int×Int×Int×ST×Int×Unit)->WT) (x0:ST) (x1:Int) (x2:Int) (x9:Option Addr) (x10:Int) (x11:Int) (x12:Int) (x13:Int) (x14:ST) (x15:Int) (w:World):Prop :=
 Calls Tryz.prog 54 #[VP x9,VI .i64 x1] w fun e17 w16 =>
 ∃ a18:List Value,e17=.returned (ofL a18)/\(
 gd (a18.length == 39) <|
 nw w16 (a18 ++ []) 113 fun b19 w20 =>
 app w20 39 96 Z113 113 x14.1 x14.2.1 x14.2.2 (VS (some ⟨b19,0,none⟩) 1 1) fun A21 n22 c23 w24 =>
 jnC C5 ((x0.1,x0.2.1,x0.2.2),x1,x2,x9,x10,x11,x12,x13,(A21,n22,c23),((WR .i64 (x15+1))),()) w24)
def F29.k7 (Q:QT) (C5:(ST×Int×Int×Option Addr×Int×Int×Int×Int×ST×Int×Unit)->WT):(ST×Int×Int×Option Addr×Int×Int×Int×Int×ST×Int×Unit)->WT:=fun s w=>∀ _:Nat->Value,F29.k7c Q C5 s.1 s.2.1 s.2.2.1 s.2.2.2.1 s.2.2.2.2.1 s.2.2.2.2.2.1 s.2.2.2.2.2.2.1 s.2.2.2.2.2.2.2.1 s.2.2.2.2.2.2.2.2.1 s.2.2.2.2.2.2.2.2.2.1 w
def F29.k13c (Q:QT) (x12:Int) (x14:ST) (w:World):Prop :=
 Q (VT #[VS x14.1 x14.2.1 x14.2.2,VI .u64 x12,VI .i64 0]) w
def F29.k13 (Q:QT):(Int×ST×Unit)->WT:=fun s w=>∀ _:Nat->Value,F29.k13c Q s.1 s.2.1 w
def F29.k12c (Q:QT) (x12:Int) (x14:ST) (x50:Bool) (w:World):Prop :=
 vIf x50
 (Q (VT #[VS none 0 0,VI .u64 0,VI .i64 3]) w)
 (jnC (F29.k13 Q) (x12,(x14.1,x14.2.1,x14.2.2),()) w)
def F29.k12 (Q:QT):(Int×ST×Bool×Unit)->WT:=fun s w=>∀ _:Nat->Value,F29.k12c Q s.1 s.2.1 s.2.2.1 w
def F29.k8c (Q:QT) (x1:Int) (x2:Int) (x9:Option Addr) (x10:Int) (x11:Int) (x12:Int) (x13:Int) (x14:ST) (w:World):Prop :=
 Calls Tryz.prog 55 #[VP x9] w fun e26 w25 =>
 ∃ i27:Int,e26=.returned (VI .i64 i27)/\(
 vIf (i27 != 0)
 (Q (VT #[VS none 0 0,VI .u64 0,VI .i64 i27]) w25)
 (vIf (x10 != x1)
 (jnC (F29.k12 Q) (x12,(x14.1,x14.2.1,x14.2.2),true,()) w25)
 (vIf (x11 != x2)
 (jnC (F29.k12 Q) (x12,(x14.1,x14.2.1,x14.2.2),true,()) w25)
 (vIf ((x14.2.1:Int) != x13)
 (jnC (F29.k12 Q) (x12,(x14.1,x14.2.1,x14.2.2),true,()) w25)
 (Calls Tryz.prog 56 #[VS x14.1 x14.2.1 x14.2.2,VI .i64 x1] w25 fun e29 w28 =>
 ∃ t30:Bool,e29=.returned (VB t30)/\(
 jnC (F29.k12 Q) (x12,(x14.1,x14.2.1,x14.2.2),(!t30),()) w28))))))
def F29.k8 (Q:QT):(Int×Int×Option Addr×Int×Int×Int×Int×ST×Unit)->WT:=fun s w=>∀ _:Nat->Value,F29.k8c Q s.1 s.2.1 s.2.2.1 s.2.2.2.1 s.2.2.2.2.1 s.2.2.2.2.2.1 s.2.2.2.2.2.2.1 s.2.2.2.2.2.2.2.1 w
def F29.b5c (Q:QT) (C5:(ST×Int×Int×Option Addr×Int×Int×Int×Int×ST×Int×Unit)->WT) (x0:ST) (x1:Int) (x2:Int) (x9:Option Addr) (x10:Int) (x11:Int) (x12:Int) (x13:Int) (x14:ST) (x15:Int) (w:World):Prop :=
 vIf (decide (x15 < x13))
 (vIf (decide (x15 < (x0.2.1:Int)))
 (jnC (F29.k7 Q C5) ((x0.1,x0.2.1,x0.2.2),x1,x2,x9,x10,x11,x12,x13,(x14.1,x14.2.1,x14.2.2),x15,()) w)
 (jnC (F29.k8 Q) (x1,x2,x9,x10,x11,x12,x13,(x14.1,x14.2.1,x14.2.2),()) w))
 (jnC (F29.k8 Q) (x1,x2,x9,x10,x11,x12,x13,(x14.1,x14.2.1,x14.2.2),()) w)
def F29.b5 (Q:QT):(ST×Int×Int×Option Addr×Int×Int×Int×Int×ST×Int×Unit)->World->((ST×Int×Int×Option Addr×Int×Int×Int×Int×ST×Int×Unit)->WT)->Prop:=fun s w C5=>∀ _:Nat->Value,F29.b5c Q C5 s.1 s.2.1 s.2.2.1 s.2.2.2.1 s.2.2.2.2.1 s.2.2.2.2.2.1 s.2.2.2.2.2.2.1 s.2.2.2.2.2.2.2.1 s.2.2.2.2.2.2.2.2.1 s.2.2.2.2.2.2.2.2.2.1 w
def F29.l5 (Q:QT):(ST×Int×Int×Option Addr×Int×Int×Int×Int×ST×Int×Unit)->WT:=fun s w=>∃ n,loopC (F29.b5 Q) n s w
def F29.vc (x0A:Option Addr) (x0n x0c:Nat) (x1:Int) (x2:Int) (w:World) (Q:QT):Prop :=
 Calls Tryz.prog 51 #[VG (⟨#[104,105,110,116,32,49]⟩:ByteArray),VS x0A x0n x0c] w fun e2 w1 =>
 ∃ p3:Option Addr,e2=.returned (VP p3)/\(
 Calls Tryz.prog 52 #[VP p3,VI .i64 99999999] w1 fun e5 w4 =>
 ∃ i6:Int,e5=.returned (VI .i64 i6)/\(
 Calls Tryz.prog 52 #[VP p3,VI .i64 1048576] w4 fun e8 w7 =>
 ∃ i9:Int,e8=.returned (VI .i64 i9)/\(
 Calls Tryz.prog 53 #[VP p3] w7 fun e11 w10 =>
 ∃ i12:Int,e11=.returned (VI .u64 i12)/\(
 Calls Tryz.prog 52 #[VP p3,VI .i64 1048576] w10 fun e14 w13 =>
 ∃ i15:Int,e14=.returned (VI .i64 i15)/\(
 jnC (F29.l5 Q) ((x0A,x0n,x0c),x1,x2,p3,i6,i9,i12,i15,(none,0,0),(0),()) w13)))))
def F29.an:Ann:=⟨[(5,[(0,.kSl),(1,.kI .i64),(2,.kI .i64),(9,.kP),(10,.kI .i64),(11,.kI .i64),(12,.kI .u64),(13,.kI .i64),(14,.kSl),(15,.kI .i64)])],[(7,[(0,.kSl),(1,.kI .i64),(2,.kI .i64),(9,.kP),(10,.kI .i64),(11,.kI .i64),(12,.kI .u64),(13,.kI .i64),(14,.kSl),(15,.kI .i64)]),(8,[(1,.kI .i64),(2,.kI .i64),(9,.kP),(10,.kI .i64),(11,.kI .i64),(12,.kI .u64),(13,.kI .i64),(14,.kSl)]),(12,[(12,.kI .u64),(14,.kSl),(50,.kB)]),(13,[(12,.kI .u64),(14,.kSl)])]⟩
theorem F29.of (x0A:Option Addr) (x0n x0c:Nat) (x1:Int) (x2:Int) (w:World) {Q:QT} (h:F29.vc x0A x0n x0c x1 x2 w Q):Calls Tryz.prog 29 #[VS x0A x0n x0c,VI .i64 x1,VI .i64 x2] w (fun e w'=>∃ v,e=.returned v/\Q v w'):=vcFn_of (A:=F29.an) noCount mixed h (by kernel_rfl)
def F30.b5c (Q:QT) (C5:(ST×Int×NT×NT×NT×Unit)->WT) (x0:ST) (x1:Int) (x4:NT) (x5:NT) (x6:NT) (w:World):Prop :=
 ldI .i64 w x5.1 (x5.2+2) fun i13 =>
 vIf (decide (i13 < (x0.2.1:Int)))
 (ldA 6 w x5.1 x5.2 fun a14 =>
 Calls Tryz.prog 59 #[ofL a14,VS x0.1 x0.2.1 x0.2.2] w fun e16 w15 =>
 ∃ a17:List Value,∃ t18:Bool,e16=.returned (VT #[ofL a17,VB t18])/\(
 nw w15 Z43 43 fun b19 w20 =>
 gd (a17.length == 6) <|
 st w20 b19 0 a17 fun w21 =>
 vIf t18
 (ldA 6 w21 b19 0 fun a22 =>
 gd (a22.length == 6) <|
 st w21 x5.1 x5.2 a22 fun w23 =>
 ldA 6 w23 x5.1 x5.2 fun a24 =>
 gd (a24.length == 6) <|
 st w23 x4.1 x4.2 a24 fun w25 =>
 ldA 6 w25 x4.1 x4.2 fun a26 =>
 Q (ofL a26) w25)
 (ldI .i64 w21 x5.1 (x5.2+2) fun i27 =>
 Calls Tryz.prog 60 #[VS x0.1 x0.2.1 x0.2.2,VI .i64 i27,VI .i64 x1] w21 fun e29 w28 =>
 ∃ (A30:Option Addr) (n31 c32:Nat),∃ i33:Int,∃ i34:Int,∃ i35:Int,e29=.returned (VT #[VS A30 n31 c32,VI .i64 i33,VI .u64 i34,VI .i64 i35])/\(
 vIf (i35 != 0)
 (Calls Tryz.prog 58 #[VI .i64 i35,VP (some ⟨x6.1,x6.2,none⟩)] w28 fun e37 w36 =>
 ∃ a38:List Value,e37=.returned (ofL a38)/\(
 gd (a38.length == 6) <|
 st w36 x4.1 x4.2 a38 fun w39 =>
 ldA 6 w39 x4.1 x4.2 fun a40 =>
 Q (ofL a40) w39))
 (dr A30 fun b41 o42 =>
 gd (decide ((0:Int) < (n31:Int))) <|
 ldI .u64 w28.drew b41 (o42+1) fun i43 =>
 ldI .u64 w28.drew x5.1 (x5.2+1) fun i44 =>
 vIf (decide (i43<=i44))
 (Calls Tryz.prog 58 #[VI .i64 3,VP (some ⟨x6.1,x6.2,none⟩)] w28.drew fun e46 w45 =>
 ∃ a47:List Value,e46=.returned (ofL a47)/\(
 gd (a47.length == 6) <|
 st w45 x4.1 x4.2 a47 fun w48 =>
 ldA 6 w48 x4.1 x4.2 fun a49 =>
 Q (ofL a49) w48))
 (ldSl w28.drew x5.1 x5.2 fun A50 n51 c52 =>
 app w28.drew 39 96 Z113 113 A50 n51 c52 (VS A30 n31 c32) fun A53 n54 c55 w56 =>
 st w56 x5.1 x5.2 [VS A53 n54 c55] fun w57 =>
 st w57 x5.1 (x5.2+1) [VI .u64 i34] fun w58 =>
 st w58 x5.1 (x5.2+2) [VI .i64 i33] fun w59 =>
 st w59 x5.1 (x5.2+4) [VI .i64 i33] fun w60 =>
 jnC C5 ((x0.1,x0.2.1,x0.2.2),x1,(x4.1,x4.2),(x5.1,x5.2),(x6.1,x6.2),()) w60))))))
 (ldA 6 w x5.1 x5.2 fun a61 =>
 gd (a61.length == 6) <|
 st w x4.1 x4.2 a61 fun w62 =>
 ldA 6 w62 x4.1 x4.2 fun a63 =>
 Q (ofL a63) w62)
def F30.b5 (Q:QT):(ST×Int×NT×NT×NT×Unit)->World->((ST×Int×NT×NT×NT×Unit)->WT)->Prop:=fun s w C5=>∀ _:Nat->Value,F30.b5c Q C5 s.1 s.2.1 s.2.2.1 s.2.2.2.1 s.2.2.2.2.1 w
def F30.l5 (Q:QT):(ST×Int×NT×NT×NT×Unit)->WT:=fun s w=>∃ n,loopC (F30.b5 Q) n s w
def F30.vc (x0A:Option Addr) (x0n x0c:Nat) (x1:Int) (w:World) (Q:QT):Prop :=
 nw w Z43 43 fun b1 w2 =>
 Calls Tryz.prog 57 #[VS x0A x0n x0c,VI .i64 x1] w2 fun e4 w3 =>
 ∃ a5:List Value,e4=.returned (ofL a5)/\(
 nw w3 Z43 43 fun b6 w7 =>
 gd (a5.length == 6) <|
 st w7 b6 0 a5 fun w8 =>
 ldI .i64 w8 b6 (0+5) fun i9 =>
 vIf (i9 != 0)
 (ldA 6 w8 b6 0 fun a10 =>
 gd (a10.length == 6) <|
 st w8 b1 0 a10 fun w11 =>
 ldA 6 w11 b1 0 fun a12 =>
 Q (ofL a12) w11)
 (jnC (F30.l5 Q) ((x0A,x0n,x0c),x1,(b1,0),(b6,0),(b6,0),()) w8))
def F30.an:Ann:=⟨[(5,[(0,.kSl),(1,.kI .i64),(4,.kL),(5,.kL),(6,.kG 58)])],[]⟩
theorem F30.of (x0A:Option Addr) (x0n x0c:Nat) (x1:Int) (w:World) {Q:QT} (h:F30.vc x0A x0n x0c x1 w Q):Calls Tryz.prog 30 #[VS x0A x0n x0c,VI .i64 x1] w (fun e w'=>∃ v,e=.returned v/\Q v w'):=vcFn_of (A:=F30.an) noCount mixed h (by kernel_rfl)
def F31.vc (x0:Option Addr) (x1:ByteArray) (w:World) (Q:QT):Prop :=
 dr x0 fun b1 o2 =>
 ldB w b1 (o2+6) fun t3 =>
 vIf t3
 (Q (VT #[VS none 0 0,VI .i64 11]) w)
 (dr x0 fun b4 o5 =>
 ldA 2 w b4 (o5+2) fun a6 =>
 Calls Tryz.prog 19 #[ofL a6,VG x1] w fun e8 w7 =>
 ∃ i9:Int,∃ t10:Bool,e8=.returned (VT #[VI .i64 i9,VB t10])/\(
 vIf (!t10)
 (Q (VT #[VS none 0 0,VI .i64 6]) w7)
 (Calls Tryz.prog 61 #[VP x0,VI .i64 i9] w7 fun e12 w11 =>
 ∃ a13:List Value,e12=.returned (ofL a13)/\(
 nw w11 [VS none 0 0,VS none 0 0] 65 fun b14 w15 =>
 gd (a13.length == 2) <|
 st w15 b14 0 a13 fun w16 =>
 ldSl w16 b14 0 fun A17 n18 c19 =>
 ldSl w16 b14 (0+1) fun A20 n21 c22 =>
 Calls Tryz.prog 62 #[VS A17 n18 c19,VS A20 n21 c22] w16 fun e24 w23 =>
 ∃ (A25:Option Addr) (n26 c27:Nat),e24=.returned (VS A25 n26 c27)/\(
 Q (VT #[VS A25 n26 c27,VI .i64 0]) w23)))))
def F31.an:Ann:=⟨[],[]⟩
theorem F31.of (x0:Option Addr) (x1:ByteArray) (w:World) {Q:QT} (h:F31.vc x0 x1 w Q):Calls Tryz.prog 31 #[VP x0,VG x1] w (fun e w'=>∃ v,e=.returned v/\Q v w'):=vcFn_of (A:=F31.an) noCount mixed h (by kernel_rfl)
def F32.b5c (Q:QT) (C5:(Int×Int×ByteArray×Int×Unit)->WT) (x0:Int) (x1:Int) (x5:ByteArray) (x6:Int) (w:World):Prop :=
 vIf (decide (x6 < 8))
 (nw w ([VI .u8 (WR .u8 (WR .i64 (48+(Int.tmod x1 10))))] ++ []) 5 fun b1 w2 =>
 b2s w2 (some ⟨b1,0,none⟩) 1 fun s3 =>
 gd (decide (s3.size+x5.size<=9223372036854775807)) <|
 jnC C5 (x0,((WR .i64 (Int.tdiv x1 10))),(s3 ++ x5),((WR .i64 (x6+1))),()) w2)
 (Calls Tryz.prog 63 #[] w fun e5 w4 =>
 ∃ (A6:Option Addr) (n7 c8:Nat),e5=.returned (VS A6 n7 c8)/\(
 dr A6 fun b9 o10 =>
 gd (decide (0<=x0)) <|
 gd (decide (x0 < (n7:Int))) <|
 ldS w4 b9 (o10+(x0).toNat * 1) fun s11 =>
 gd (decide (s11.size+x5.size<=9223372036854775807)) <|
 Q (VG (s11 ++ x5)) w4))
def F32.b5 (Q:QT):(Int×Int×ByteArray×Int×Unit)->World->((Int×Int×ByteArray×Int×Unit)->WT)->Prop:=fun s w C5=>∀ _:Nat->Value,F32.b5c Q C5 s.1 s.2.1 s.2.2.1 s.2.2.2.1 w
def F32.l5 (Q:QT):(Int×Int×ByteArray×Int×Unit)->WT:=fun s w=>∃ n,loopC (F32.b5 Q) n s w
def F32.k3c (Q:QT) (x0:Int) (x1:Int) (w:World):Prop :=
 jnC (F32.l5 Q) (x0,x1,(⟨#[]⟩:ByteArray),(0),()) w
def F32.k3 (Q:QT):(Int×Int×Unit)->WT:=fun s w=>∀ _:Nat->Value,F32.k3c Q s.1 s.2.1 w
def F32.vc (x0:Int) (x1:Int) (w:World) (Q:QT):Prop :=
 vIf (decide (x0 < 1))
 (Q (VG (⟨#[]⟩:ByteArray)) w)
 (vIf (decide (x0 > 3))
 (Q (VG (⟨#[]⟩:ByteArray)) w)
 (vIf (decide (x1 < 1))
 (Q (VG (⟨#[]⟩:ByteArray)) w)
 (vIf (decide (x1 > 99999999))
 (Q (VG (⟨#[]⟩:ByteArray)) w)
 (jnC (F32.k3 Q) (x0,x1,()) w))))
def F32.an:Ann:=⟨[(5,[(0,.kI .i64),(1,.kI .i64),(5,.kS),(6,.kI .i64)])],[(3,[(0,.kI .i64),(1,.kI .i64)])]⟩
theorem F32.of (x0:Int) (x1:Int) (w:World) {Q:QT} (h:F32.vc x0 x1 w Q):Calls Tryz.prog 32 #[VI .i64 x0,VI .i64 x1] w (fun e w'=>∃ v,e=.returned v/\Q v w'):=vcFn_of (A:=F32.an) noCount mixed h (by kernel_rfl)
def F33.k28c (Q:QT) (C8:(Int×Int×NT×NT×NT×NT×NT×ST×Int×Unit)->WT) (x1:Int) (x2:Int) (x9:NT) (x10:NT) (x11:NT) (x12:NT) (x13:NT) (x14:ST) (x15:Int) (x16:NT) (x17:NT) (w:World):Prop :=
 ldA 2 w x9.1 x9.2 fun a102 =>
 Calls Tryz.prog 65 #[ofL a102,VI .i64 0,VI .i64 1048576] w fun e104 w103 =>
 ∃ a105:List Value,∃ a106:List Value,e104=.returned (VT #[ofL a105,ofL a106])/\(
 gd (a105.length == 36) <|
 st w103 x17.1 x17.2 a105 fun w107 =>
 gd (a106.length == 2) <|
 st w107 x9.1 x9.2 a106 fun w108 =>
 ldI .i64 w108 x17.1 (x17.2+1) fun i109 =>
 st w108 x16.1 ((x16.2+36)+1) [VI .i64 i109] fun w110 =>
 ldA 2 w110 x9.1 x9.2 fun a111 =>
 Calls Tryz.prog 65 #[ofL a111,VI .i64 0,VI .i64 1048576] w110 fun e113 w112 =>
 ∃ a114:List Value,∃ a115:List Value,e113=.returned (VT #[ofL a114,ofL a115])/\(
 gd (a114.length == 36) <|
 st w112 x17.1 x17.2 a114 fun w116 =>
 gd (a115.length == 2) <|
 st w116 x9.1 x9.2 a115 fun w117 =>
 ldI .i64 w117 x17.1 (x17.2+1) fun i118 =>
 st w117 x16.1 ((x16.2+36)+2) [VI .i64 i118] fun w119 =>
 ldA 39 w119 x16.1 x16.2 fun a120 =>
 gd (a120.length == 39) <|
 nw w119 (a120 ++ []) 113 fun b121 w122 =>
 app w122 39 96 Z113 113 x14.1 x14.2.1 x14.2.2 (VS (some ⟨b121,0,none⟩) 1 1) fun A123 n124 c125 w126 =>
 jnC C8 (x1,x2,(x9.1,x9.2),(x10.1,x10.2),(x11.1,x11.2),(x12.1,x12.2),(x13.1,x13.2),(A123,n124,c125),((WR .i64 (x15+1))),()) w126))
def F33.k28 (Q:QT) (C8:(Int×Int×NT×NT×NT×NT×NT×ST×Int×Unit)->WT):(Int×Int×NT×NT×NT×NT×NT×ST×Int×NT×NT×Unit)->WT:=fun s w=>∀ _:Nat->Value,F33.k28c Q C8 s.1 s.2.1 s.2.2.1 s.2.2.2.1 s.2.2.2.2.1 s.2.2.2.2.2.1 s.2.2.2.2.2.2.1 s.2.2.2.2.2.2.2.1 s.2.2.2.2.2.2.2.2.1 s.2.2.2.2.2.2.2.2.2.1 s.2.2.2.2.2.2.2.2.2.2.1 w
def F33.k25c (Q:QT) (C8:(Int×Int×NT×NT×NT×NT×NT×ST×Int×Unit)->WT) (x1:Int) (x2:Int) (x9:NT) (x10:NT) (x11:NT) (x12:NT) (x13:NT) (x14:ST) (x15:Int) (x16:NT) (x17:NT) (x20:Bool) (w:World):Prop :=
 vIf x20
 (ldA 2 w x9.1 x9.2 fun a93 =>
 Calls Tryz.prog 65 #[ofL a93,VI .i64 0,VI .i64 1048576] w fun e95 w94 =>
 ∃ a96:List Value,∃ a97:List Value,e95=.returned (VT #[ofL a96,ofL a97])/\(
 gd (a96.length == 36) <|
 st w94 x17.1 x17.2 a96 fun w98 =>
 gd (a97.length == 2) <|
 st w98 x9.1 x9.2 a97 fun w99 =>
 ldI .i64 w99 x17.1 (x17.2+1) fun i100 =>
 st w99 x16.1 (x16.2+35) [VI .i64 i100] fun w101 =>
 jnC (F33.k28 Q C8) (x1,x2,(x9.1,x9.2),(x10.1,x10.2),(x11.1,x11.2),(x12.1,x12.2),(x13.1,x13.2),(x14.1,x14.2.1,x14.2.2),x15,(x16.1,x16.2),(x17.1,x17.2),()) w101))
 (jnC (F33.k28 Q C8) (x1,x2,(x9.1,x9.2),(x10.1,x10.2),(x11.1,x11.2),(x12.1,x12.2),(x13.1,x13.2),(x14.1,x14.2.1,x14.2.2),x15,(x16.1,x16.2),(x17.1,x17.2),()) w)
def F33.k25 (Q:QT) (C8:(Int×Int×NT×NT×NT×NT×NT×ST×Int×Unit)->WT):(Int×Int×NT×NT×NT×NT×NT×ST×Int×NT×NT×Bool×Unit)->WT:=fun s w=>∀ _:Nat->Value,F33.k25c Q C8 s.1 s.2.1 s.2.2.1 s.2.2.2.1 s.2.2.2.2.1 s.2.2.2.2.2.1 s.2.2.2.2.2.2.1 s.2.2.2.2.2.2.2.1 s.2.2.2.2.2.2.2.2.1 s.2.2.2.2.2.2.2.2.2.1 s.2.2.2.2.2.2.2.2.2.2.1 s.2.2.2.2.2.2.2.2.2.2.2.1 w
def F33.k22c (Q:QT) (C8:(Int×Int×NT×NT×NT×NT×NT×ST×Int×Unit)->WT) (x1:Int) (x2:Int) (x9:NT) (x10:NT) (x11:NT) (x12:NT) (x13:NT) (x14:ST) (x15:Int) (x16:NT) (x17:NT) (x19:Bool) (x20:Bool) (w:World):Prop :=
 vIf x19
 (ldA 2 w x9.1 x9.2 fun a84 =>
 Calls Tryz.prog 65 #[ofL a84,VI .i64 2,VI .i64 0] w fun e86 w85 =>
 ∃ a87:List Value,∃ a88:List Value,e86=.returned (VT #[ofL a87,ofL a88])/\(
 gd (a87.length == 36) <|
 st w85 x17.1 x17.2 a87 fun w89 =>
 gd (a88.length == 2) <|
 st w89 x9.1 x9.2 a88 fun w90 =>
 ldS w90 x17.1 (x17.2+3) fun s91 =>
 st w90 x16.1 (x16.2+34) [VG s91] fun w92 =>
 jnC (F33.k25 Q C8) (x1,x2,(x9.1,x9.2),(x10.1,x10.2),(x11.1,x11.2),(x12.1,x12.2),(x13.1,x13.2),(x14.1,x14.2.1,x14.2.2),x15,(x16.1,x16.2),(x17.1,x17.2),x20,()) w92))
 (jnC (F33.k25 Q C8) (x1,x2,(x9.1,x9.2),(x10.1,x10.2),(x11.1,x11.2),(x12.1,x12.2),(x13.1,x13.2),(x14.1,x14.2.1,x14.2.2),x15,(x16.1,x16.2),(x17.1,x17.2),x20,()) w)
def F33.k22 (Q:QT) (C8:(Int×Int×NT×NT×NT×NT×NT×ST×Int×Unit)->WT):(Int×Int×NT×NT×NT×NT×NT×ST×Int×NT×NT×Bool×Bool×Unit)->WT:=fun s w=>∀ _:Nat->Value,F33.k22c Q C8 s.1 s.2.1 s.2.2.1 s.2.2.2.1 s.2.2.2.2.1 s.2.2.2.2.2.1 s.2.2.2.2.2.2.1 s.2.2.2.2.2.2.2.1 s.2.2.2.2.2.2.2.2.1 s.2.2.2.2.2.2.2.2.2.1 s.2.2.2.2.2.2.2.2.2.2.1 s.2.2.2.2.2.2.2.2.2.2.2.1 s.2.2.2.2.2.2.2.2.2.2.2.2.1 w
def F33.k19c (Q:QT) (C8:(Int×Int×NT×NT×NT×NT×NT×ST×Int×Unit)->WT) (x1:Int) (x2:Int) (x9:NT) (x10:NT) (x11:NT) (x12:NT) (x13:NT) (x14:ST) (x15:Int) (x16:NT) (x17:NT) (x18:Bool) (x19:Bool) (x20:Bool) (w:World):Prop :=
 vIf x18
 (ldA 2 w x9.1 x9.2 fun a75 =>
 Calls Tryz.prog 65 #[ofL a75,VI .i64 3,VI .i64 0] w fun e77 w76 =>
 ∃ a78:List Value,∃ a79:List Value,e77=.returned (VT #[ofL a78,ofL a79])/\(
 gd (a78.length == 36) <|
 st w76 x17.1 x17.2 a78 fun w80 =>
 gd (a79.length == 2) <|
 st w80 x9.1 x9.2 a79 fun w81 =>
 ldA 32 w81 x17.1 (x17.2+4) fun a82 =>
 gd (a82.length == 32) <|
 st w81 x16.1 (x16.2+2) a82 fun w83 =>
 jnC (F33.k22 Q C8) (x1,x2,(x9.1,x9.2),(x10.1,x10.2),(x11.1,x11.2),(x12.1,x12.2),(x13.1,x13.2),(x14.1,x14.2.1,x14.2.2),x15,(x16.1,x16.2),(x17.1,x17.2),x19,x20,()) w83))
 (jnC (F33.k22 Q C8) (x1,x2,(x9.1,x9.2),(x10.1,x10.2),(x11.1,x11.2),(x12.1,x12.2),(x13.1,x13.2),(x14.1,x14.2.1,x14.2.2),x15,(x16.1,x16.2),(x17.1,x17.2),x19,x20,()) w)
def F33.k19 (Q:QT) (C8:(Int×Int×NT×NT×NT×NT×NT×ST×Int×Unit)->WT):(Int×Int×NT×NT×NT×NT×NT×ST×Int×NT×NT×Bool×Bool×Bool×Unit)->WT:=fun s w=>∀ _:Nat->Value,F33.k19c Q C8 s.1 s.2.1 s.2.2.1 s.2.2.2.1 s.2.2.2.2.1 s.2.2.2.2.2.1 s.2.2.2.2.2.2.1 s.2.2.2.2.2.2.2.1 s.2.2.2.2.2.2.2.2.1 s.2.2.2.2.2.2.2.2.2.1 s.2.2.2.2.2.2.2.2.2.2.1 s.2.2.2.2.2.2.2.2.2.2.2.1 s.2.2.2.2.2.2.2.2.2.2.2.2.1 s.2.2.2.2.2.2.2.2.2.2.2.2.2.1 w
def F33.k10c (Q:QT) (C8:(Int×Int×NT×NT×NT×NT×NT×ST×Int×Unit)->WT) (x1:Int) (x2:Int) (x9:NT) (x10:NT) (x11:NT) (x12:NT) (x13:NT) (x14:ST) (x15:Int) (w:World):Prop :=
 gd (([VI .i64 x1] ++ ([VI .i64 0] ++ ([VI .i64 0] ++ []))).length == 3) <|
 nw w Z113 113 fun b45 w46 =>
 gd (([VI .i64 0] ++ ([VI .u64 0] ++ ([VI .u8 0,VI .u8 0,VI .u8 0,VI .u8 0,VI .u8 0,VI .u8 0,VI .u8 0,VI .u8 0,VI .u8 0,VI .u8 0,VI .u8 0,VI .u8 0,VI .u8 0,VI .u8 0,VI .u8 0,VI .u8 0,VI .u8 0,VI .u8 0,VI .u8 0,VI .u8 0,VI .u8 0,VI .u8 0,VI .u8 0,VI .u8 0,VI .u8 0,VI .u8 0,VI .u8 0,VI .u8 0,VI .u8 0,VI .u8 0,VI .u8 0,VI .u8 0] ++ ([VG (⟨#[]⟩:ByteArray)] ++ ([VI .i64 0] ++ (([VI .i64 x1] ++ ([VI .i64 0] ++ ([VI .i64 0] ++ []))) ++ [])))))).length == 39) <|
 st w46 b45 0 ([VI .i64 0] ++ ([VI .u64 0] ++ ([VI .u8 0,VI .u8 0,VI .u8 0,VI .u8 0,VI .u8 0,VI .u8 0,VI .u8 0,VI .u8 0,VI .u8 0,VI .u8 0,VI .u8 0,VI .u8 0,VI .u8 0,VI .u8 0,VI .u8 0,VI .u8 0,VI .u8 0,VI .u8 0,VI .u8 0,VI .u8 0,VI .u8 0,VI .u8 0,VI .u8 0,VI .u8 0,VI .u8 0,VI .u8 0,VI .u8 0,VI .u8 0,VI .u8 0,VI .u8 0,VI .u8 0,VI .u8 0] ++ ([VG (⟨#[]⟩:ByteArray)] ++ ([VI .i64 0] ++ (([VI .i64 x1] ++ ([VI .i64 0] ++ ([VI .i64 0] ++ []))) ++ [])))))) fun w47 =>
 nw w47 Z129 129 fun b48 w49 =>
 ldA 2 w49 x9.1 x9.2 fun a50 =>
 Calls Tryz.prog 65 #[ofL a50,VI .i64 0,VI .i64 8] w49 fun e52 w51 =>
 ∃ a53:List Value,∃ a54:List Value,e52=.returned (VT #[ofL a53,ofL a54])/\(
 gd (a53.length == 36) <|
 st w51 b48 0 a53 fun w55 =>
 gd (a54.length == 2) <|
 st w55 x9.1 x9.2 a54 fun w56 =>
 ldI .i64 w56 b48 (0+1) fun i57 =>
 st w56 b45 0 [VI .i64 i57] fun w58 =>
 ldA 2 w58 x9.1 x9.2 fun a59 =>
 Calls Tryz.prog 65 #[ofL a59,VI .i64 1,VI .i64 0] w58 fun e61 w60 =>
 ∃ a62:List Value,∃ a63:List Value,e61=.returned (VT #[ofL a62,ofL a63])/\(
 gd (a62.length == 36) <|
 st w60 b48 0 a62 fun w64 =>
 gd (a63.length == 2) <|
 st w64 x9.1 x9.2 a63 fun w65 =>
 ldI .u64 w65 b48 (0+2) fun i66 =>
 st w65 b45 (0+1) [VI .u64 i66] fun w67 =>
 ldI .i64 w67 b45 0 fun i68 =>
 Calls Tryz.prog 66 #[VI .i64 i68] w67 fun e70 w69 =>
 ∃ t71:Bool,∃ t72:Bool,∃ t73:Bool,e70=.returned (VT #[VB t71,VB t72,VB t73])/\(
 ldI .i64 w69 b45 0 fun i74 =>
 vIf (decide (i74 < 1))
 (jnC (F33.k19 Q C8) (x1,x2,(x9.1,x9.2),(x10.1,x10.2),(x11.1,x11.2),(x12.1,x12.2),(x13.1,x13.2),(x14.1,x14.2.1,x14.2.2),x15,(b45,0),(b48,0),false,false,false,()) w69)
 (ldI .i64 w69 b45 0 fun i127 =>
 vIf (decide (i127 > 5))
 (jnC (F33.k19 Q C8) (x1,x2,(x9.1,x9.2),(x10.1,x10.2),(x11.1,x11.2),(x12.1,x12.2),(x13.1,x13.2),(x14.1,x14.2.1,x14.2.2),x15,(b45,0),(b48,0),false,false,false,()) w69)
 (jnC (F33.k19 Q C8) (x1,x2,(x9.1,x9.2),(x10.1,x10.2),(x11.1,x11.2),(x12.1,x12.2),(x13.1,x13.2),(x14.1,x14.2.1,x14.2.2),x15,(b45,0),(b48,0),t71,t72,t73,()) w69)))))
def F33.k10 (Q:QT) (C8:(Int×Int×NT×NT×NT×NT×NT×ST×Int×Unit)->WT):(Int×Int×NT×NT×NT×NT×NT×ST×Int×Unit)->WT:=fun s w=>∀ _:Nat->Value,F33.k10c Q C8 s.1 s.2.1 s.2.2.1 s.2.2.2.1 s.2.2.2.2.1 s.2.2.2.2.2.1 s.2.2.2.2.2.2.1 s.2.2.2.2.2.2.2.1 s.2.2.2.2.2.2.2.2.1 w
def F33.k37c (Q:QT) (x12:NT) (x14:ST) (w:World):Prop :=
 ldI .u64 w.drew x12.1 (x12.2+2) fun i137 =>
 Q (VT #[VS x14.1 x14.2.1 x14.2.2,VI .u64 i137,VI .i64 0]) w.drew
def F33.k37 (Q:QT):(NT×ST×Unit)->WT:=fun s w=>∀ _:Nat->Value,F33.k37c Q s.1 s.2.1 w
def F33.k36c (Q:QT) (x12:NT) (x14:ST) (x157:Bool) (w:World):Prop :=
 vIf x157
 (Q (VT #[VS none 0 0,VI .u64 0,VI .i64 3]) w)
 (jnC (F33.k37 Q) ((x12.1,x12.2),(x14.1,x14.2.1,x14.2.2),()) w)
def F33.k36 (Q:QT):(NT×ST×Bool×Unit)->WT:=fun s w=>∀ _:Nat->Value,F33.k36c Q s.1 s.2.1 s.2.2.1 w
def F33.k33c (Q:QT) (x1:Int) (x2:Int) (x9:NT) (x10:NT) (x11:NT) (x12:NT) (x14:ST) (w:World):Prop :=
 ldA 2 w x9.1 x9.2 fun a128 =>
 Calls Tryz.prog 67 #[ofL a128] w fun e130 w129 =>
 ∃ i131:Int,e130=.returned (VI .i64 i131)/\(
 vIf (i131 != 0)
 (ldA 2 w129 x9.1 x9.2 fun a132 =>
 Calls Tryz.prog 67 #[ofL a132] w129 fun e134 w133 =>
 ∃ i135:Int,e134=.returned (VI .i64 i135)/\(
 Q (VT #[VS none 0 0,VI .u64 0,VI .i64 i135]) w133))
 (ldI .i64 w129 x10.1 (x10.2+1) fun i136 =>
 vIf (i136 != x1)
 (jnC (F33.k36 Q) ((x12.1,x12.2),(x14.1,x14.2.1,x14.2.2),true,()) w129)
 (ldI .i64 w129 x11.1 (x11.2+1) fun i138 =>
 vIf (i138 != x2)
 (jnC (F33.k36 Q) ((x12.1,x12.2),(x14.1,x14.2.1,x14.2.2),true,()) w129)
 (Calls Tryz.prog 68 #[VS x14.1 x14.2.1 x14.2.2,VI .i64 x1] w129 fun e140 w139 =>
 ∃ t141:Bool,e140=.returned (VB t141)/\(
 jnC (F33.k36 Q) ((x12.1,x12.2),(x14.1,x14.2.1,x14.2.2),(!t141),()) w139)))))
def F33.k33 (Q:QT):(Int×Int×NT×NT×NT×NT×ST×Unit)->WT:=fun s w=>∀ _:Nat->Value,F33.k33c Q s.1 s.2.1 s.2.2.1 s.2.2.2.1 s.2.2.2.2.1 s.2.2.2.2.2.1 s.2.2.2.2.2.2.1 w
def F33.b8c (Q:QT) (C8:(Int×Int×NT×NT×NT×NT×NT×ST×Int×Unit)->WT) (x1:Int) (x2:Int) (x9:NT) (x10:NT) (x11:NT) (x12:NT) (x13:NT) (x14:ST) (x15:Int) (w:World):Prop :=
 ldI .i64 w x13.1 (x13.2+1) fun i43 =>
 vIf (decide (x15 < i43))
 (ldI .i64 w x9.1 (x9.2+1) fun i44 =>
 vIf (i44 == 0)
 (jnC (F33.k10 Q C8) (x1,x2,(x9.1,x9.2),(x10.1,x10.2),(x11.1,x11.2),(x12.1,x12.2),(x13.1,x13.2),(x14.1,x14.2.1,x14.2.2),x15,()) w)
 (jnC (F33.k33 Q) (x1,x2,(x9.1,x9.2),(x10.1,x10.2),(x11.1,x11.2),(x12.1,x12.2),(x14.1,x14.2.1,x14.2.2),()) w))
 (jnC (F33.k33 Q) (x1,x2,(x9.1,x9.2),(x10.1,x10.2),(x11.1,x11.2),(x12.1,x12.2),(x14.1,x14.2.1,x14.2.2),()) w)
def F33.b8 (Q:QT):(Int×Int×NT×NT×NT×NT×NT×ST×Int×Unit)->World->((Int×Int×NT×NT×NT×NT×NT×ST×Int×Unit)->WT)->Prop:=fun s w C8=>∀ _:Nat->Value,F33.b8c Q C8 s.1 s.2.1 s.2.2.1 s.2.2.2.1 s.2.2.2.2.1 s.2.2.2.2.2.1 s.2.2.2.2.2.2.1 s.2.2.2.2.2.2.2.1 s.2.2.2.2.2.2.2.2.1 w
def F33.l8 (Q:QT):(Int×Int×NT×NT×NT×NT×NT×ST×Int×Unit)->WT:=fun s w=>∃ n,loopC (F33.b8 Q) n s w
def F33.vc (x0A:Option Addr) (x0n x0c:Nat) (x1:Int) (x2:Int) (w:World) (Q:QT):Prop :=
 Calls Tryz.prog 64 #[VG (⟨#[104,105,110,116,32,49]⟩:ByteArray),VS x0A x0n x0c] w fun e2 w1 =>
 ∃ a3:List Value,e2=.returned (ofL a3)/\(
 nw w1 [VS none 0 0,VI .i64 0] 126 fun b4 w5 =>
 gd (a3.length == 2) <|
 st w5 b4 0 a3 fun w6 =>
 ldA 2 w6 b4 0 fun a7 =>
 Calls Tryz.prog 65 #[ofL a7,VI .i64 0,VI .i64 99999999] w6 fun e9 w8 =>
 ∃ a10:List Value,∃ a11:List Value,e9=.returned (VT #[ofL a10,ofL a11])/\(
 nw w8 Z129 129 fun b12 w13 =>
 gd (a10.length == 36) <|
 st w13 b12 0 a10 fun w14 =>
 gd (a11.length == 2) <|
 st w14 b4 0 a11 fun w15 =>
 ldA 2 w15 b4 0 fun a16 =>
 Calls Tryz.prog 65 #[ofL a16,VI .i64 0,VI .i64 1048576] w15 fun e18 w17 =>
 ∃ a19:List Value,∃ a20:List Value,e18=.returned (VT #[ofL a19,ofL a20])/\(
 nw w17 Z129 129 fun b21 w22 =>
 gd (a19.length == 36) <|
 st w22 b21 0 a19 fun w23 =>
 gd (a20.length == 2) <|
 st w23 b4 0 a20 fun w24 =>
 ldA 2 w24 b4 0 fun a25 =>
 Calls Tryz.prog 65 #[ofL a25,VI .i64 1,VI .i64 0] w24 fun e27 w26 =>
 ∃ a28:List Value,∃ a29:List Value,e27=.returned (VT #[ofL a28,ofL a29])/\(
 nw w26 Z129 129 fun b30 w31 =>
 gd (a28.length == 36) <|
 st w31 b30 0 a28 fun w32 =>
 gd (a29.length == 2) <|
 st w32 b4 0 a29 fun w33 =>
 ldA 2 w33 b4 0 fun a34 =>
 Calls Tryz.prog 65 #[ofL a34,VI .i64 0,VI .i64 1048576] w33 fun e36 w35 =>
 ∃ a37:List Value,∃ a38:List Value,e36=.returned (VT #[ofL a37,ofL a38])/\(
 nw w35 Z129 129 fun b39 w40 =>
 gd (a37.length == 36) <|
 st w40 b39 0 a37 fun w41 =>
 gd (a38.length == 2) <|
 st w41 b4 0 a38 fun w42 =>
 jnC (F33.l8 Q) (x1,x2,(b4,0),(b12,0),(b21,0),(b30,0),(b39,0),(none,0,0),(0),()) w42)))))
def F33.an:Ann:=⟨[(8,[(1,.kI .i64),(2,.kI .i64),(9,.kL),(10,.kL),(11,.kL),(12,.kL),(13,.kL),(14,.kSl),(15,.kI .i64)])],[(10,[(1,.kI .i64),(2,.kI .i64),(9,.kL),(10,.kL),(11,.kL),(12,.kL),(13,.kL),(14,.kSl),(15,.kI .i64)]),(19,[(1,.kI .i64),(2,.kI .i64),(9,.kL),(10,.kL),(11,.kL),(12,.kL),(13,.kL),(14,.kSl),(15,.kI .i64),(16,.kL),(17,.kL),(18,.kB),(19,.kB),(20,.kB)]),(22,[(1,.kI .i64),(2,.kI .i64),(9,.kL),(10,.kL),(11,.kL),(12,.kL),(13,.kL),(14,.kSl),(15,.kI .i64),(16,.kL),(17,.kL),(19,.kB),(20,.kB)]),(25,[(1,.kI .i64),(2,.kI .i64),(9,.kL),(10,.kL),(11,.kL),(12,.kL),(13,.kL),(14,.kSl),(15,.kI .i64),(16,.kL),(17,.kL),(20,.kB)]),(28,[(1,.kI .i64),(2,.kI .i64),(9,.kL),(10,.kL),(11,.kL),(12,.kL),(13,.kL),(14,.kSl),(15,.kI .i64),(16,.kL),(17,.kL)]),(33,[(1,.kI .i64),(2,.kI .i64),(9,.kL),(10,.kL),(11,.kL),(12,.kL),(14,.kSl)]),(36,[(12,.kL),(14,.kSl),(157,.kB)]),(37,[(12,.kL),(14,.kSl)])]⟩
theorem F33.of (x0A:Option Addr) (x0n x0c:Nat) (x1:Int) (x2:Int) (w:World) {Q:QT} (h:F33.vc x0A x0n x0c x1 x2 w Q):Calls Tryz.prog 33 #[VS x0A x0n x0c,VI .i64 x1,VI .i64 x2] w (fun e w'=>∃ v,e=.returned v/\Q v w'):=vcFn_of (A:=F33.an) noCount mixed h (by kernel_rfl)
def F34.k18c (Q:QT) (C12:(ST×Int×NT×NT×Unit)->WT) (x4:NT) (x5:NT) (x9:NT) (x10:Int) (w:World):Prop :=
 st w x5.1 (x5.2+3) [VB true] fun w44 =>
 ldI .u64 w44 x9.1 (x9.2+1) fun i45 =>
 st w44 x5.1 (x5.2+1) [VI .u64 i45] fun w46 =>
 st w46 x5.1 (x5.2+2) [VI .i64 x10] fun w47 =>
 st w47 x5.1 (x5.2+4) [VI .i64 x10] fun w48 =>
 ldA 6 w48 x5.1 x5.2 fun a49 =>
 gd (a49.length == 6) <|
 st w48 x4.1 x4.2 a49 fun w50 =>
 ldA 6 w50 x4.1 x4.2 fun a51 =>
 Q (ofL a51) w50
def F34.k18 (Q:QT) (C12:(ST×Int×NT×NT×Unit)->WT):(NT×NT×NT×Int×Unit)->WT:=fun s w=>∀ _:Nat->Value,F34.k18c Q C12 s.1 s.2.1 s.2.2.1 s.2.2.2.1 w
def F34.k16c (Q:QT) (C12:(ST×Int×NT×NT×Unit)->WT) (x4:NT) (x5:NT) (x9:NT) (x10:Int) (x95:Bool) (w:World):Prop :=
 vIf x95
 (st w x5.1 (x5.2+5) [VI .i64 3] fun w40 =>
 ldA 6 w40 x5.1 x5.2 fun a41 =>
 gd (a41.length == 6) <|
 st w40 x4.1 x4.2 a41 fun w42 =>
 ldA 6 w42 x4.1 x4.2 fun a43 =>
 Q (ofL a43) w42)
 (jnC (F34.k18 Q C12) ((x4.1,x4.2),(x5.1,x5.2),(x9.1,x9.2),x10,()) w)
def F34.k16 (Q:QT) (C12:(ST×Int×NT×NT×Unit)->WT):(NT×NT×NT×Int×Bool×Unit)->WT:=fun s w=>∀ _:Nat->Value,F34.k16c Q C12 s.1 s.2.1 s.2.2.1 s.2.2.2.1 s.2.2.2.2.1 w
def F34.k26c (Q:QT) (C12:(ST×Int×NT×NT×Unit)->WT) (x0:ST) (x1:Int) (x4:NT) (x5:NT) (x12:ST) (x13:Int) (x14:Int) (x15:Int) (w:World):Prop :=
 vIf (x15 != 0)
 (st w x5.1 (x5.2+5) [VI .i64 x15] fun w71 =>
 ldA 6 w71 x5.1 x5.2 fun a72 =>
 gd (a72.length == 6) <|
 st w71 x4.1 x4.2 a72 fun w73 =>
 ldA 6 w73 x4.1 x4.2 fun a74 =>
 Q (ofL a74) w73)
 (ldSl w x5.1 x5.2 fun A75 n76 c77 =>
 app w 39 96 Z113 113 A75 n76 c77 (VS x12.1 x12.2.1 x12.2.2) fun A78 n79 c80 w81 =>
 st w81 x5.1 x5.2 [VS A78 n79 c80] fun w82 =>
 st w82 x5.1 (x5.2+1) [VI .u64 x14] fun w83 =>
 st w83 x5.1 (x5.2+2) [VI .i64 x13] fun w84 =>
 st w84 x5.1 (x5.2+4) [VI .i64 x13] fun w85 =>
 jnC C12 ((x0.1,x0.2.1,x0.2.2),x1,(x4.1,x4.2),(x5.1,x5.2),()) w85)
def F34.k26 (Q:QT) (C12:(ST×Int×NT×NT×Unit)->WT):(ST×Int×NT×NT×ST×Int×Int×Int×Unit)->WT:=fun s w=>∀ _:Nat->Value,F34.k26c Q C12 s.1 s.2.1 s.2.2.1 s.2.2.2.1 s.2.2.2.2.1 s.2.2.2.2.2.1 s.2.2.2.2.2.2.1 s.2.2.2.2.2.2.2.1 w
def F34.k23c (Q:QT) (C12:(ST×Int×NT×NT×Unit)->WT) (x0:ST) (x1:Int) (x4:NT) (x5:NT) (w:World):Prop :=
 ldI .i64 w x5.1 (x5.2+2) fun i58 =>
 Calls Tryz.prog 70 #[VS x0.1 x0.2.1 x0.2.2,VI .i64 i58,VI .i64 x1] w fun e60 w59 =>
 ∃ (A61:Option Addr) (n62 c63:Nat),∃ i64:Int,∃ i65:Int,∃ i66:Int,e60=.returned (VT #[VS A61 n62 c63,VI .i64 i64,VI .u64 i65,VI .i64 i66])/\(
 vIf (i66 == 0)
 (dr A61 fun b67 o68 =>
 gd (decide ((0:Int) < (n62:Int))) <|
 ldI .u64 w59.drew b67 (o68+1) fun i69 =>
 ldI .u64 w59.drew x5.1 (x5.2+1) fun i70 =>
 vIf (decide (i69<=i70))
 (jnC (F34.k26 Q C12) ((x0.1,x0.2.1,x0.2.2),x1,(x4.1,x4.2),(x5.1,x5.2),(A61,n62,c63),i64,i65,(3),()) w59.drew)
 (jnC (F34.k26 Q C12) ((x0.1,x0.2.1,x0.2.2),x1,(x4.1,x4.2),(x5.1,x5.2),(A61,n62,c63),i64,i65,i66,()) w59.drew))
 (jnC (F34.k26 Q C12) ((x0.1,x0.2.1,x0.2.2),x1,(x4.1,x4.2),(x5.1,x5.2),(A61,n62,c63),i64,i65,i66,()) w59.drew))
def F34.k23 (Q:QT) (C12:(ST×Int×NT×NT×Unit)->WT):(ST×Int×NT×NT×Unit)->WT:=fun s w=>∀ _:Nat->Value,F34.k23c Q C12 s.1 s.2.1 s.2.2.1 s.2.2.2.1 w
def F34.k15c (Q:QT) (C12:(ST×Int×NT×NT×Unit)->WT) (x0:ST) (x1:Int) (x4:NT) (x5:NT) (x9:NT) (x10:Int) (x69:Bool) (w:World):Prop :=
 vIf x69
 (ldI .u64 w x9.1 (x9.2+1) fun i38 =>
 ldI .u64 w x5.1 (x5.2+1) fun i39 =>
 vIf (decide (i38<=i39))
 (jnC (F34.k16 Q C12) ((x4.1,x4.2),(x5.1,x5.2),(x9.1,x9.2),x10,true,()) w)
 (ldI .i64 w x9.1 (x9.2+36) fun i52 =>
 ldSl w x5.1 x5.2 fun A53 n54 c55 =>
 vIf (i52 != (n54:Int))
 (jnC (F34.k16 Q C12) ((x4.1,x4.2),(x5.1,x5.2),(x9.1,x9.2),x10,true,()) w)
 (ldI .i64 w x9.1 (x9.2+37) fun i56 =>
 ldI .i64 w x5.1 (x5.2+2) fun i57 =>
 vIf (i56 != i57)
 (jnC (F34.k16 Q C12) ((x4.1,x4.2),(x5.1,x5.2),(x9.1,x9.2),x10,true,()) w)
 (jnC (F34.k16 Q C12) ((x4.1,x4.2),(x5.1,x5.2),(x9.1,x9.2),x10,(x10 != (x0.2.1:Int)),()) w))))
 (jnC (F34.k23 Q C12) ((x0.1,x0.2.1,x0.2.2),x1,(x4.1,x4.2),(x5.1,x5.2),()) w)
def F34.k15 (Q:QT) (C12:(ST×Int×NT×NT×Unit)->WT):(ST×Int×NT×NT×NT×Int×Bool×Unit)->WT:=fun s w=>∀ _:Nat->Value,F34.k15c Q C12 s.1 s.2.1 s.2.2.1 s.2.2.2.1 s.2.2.2.2.1 s.2.2.2.2.2.1 s.2.2.2.2.2.2.1 w
def F34.k13c (Q:QT) (C12:(ST×Int×NT×NT×Unit)->WT) (x0:ST) (x1:Int) (x4:NT) (x5:NT) (w:World):Prop :=
 ldI .i64 w x5.1 (x5.2+2) fun i28 =>
 Calls Tryz.prog 69 #[VS x0.1 x0.2.1 x0.2.2,VI .i64 i28] w fun e30 w29 =>
 ∃ a31:List Value,∃ i32:Int,∃ i33:Int,e30=.returned (VT #[ofL a31,VI .i64 i32,VI .i64 i33])/\(
 nw w29 Z92 92 fun b34 w35 =>
 gd (a31.length == 38) <|
 st w35 b34 0 a31 fun w36 =>
 vIf (i33 == 0)
 (ldI .i64 w36 b34 0 fun i37 =>
 jnC (F34.k15 Q C12) ((x0.1,x0.2.1,x0.2.2),x1,(x4.1,x4.2),(x5.1,x5.2),(b34,0),i32,(i37 == 8),()) w36)
 (jnC (F34.k15 Q C12) ((x0.1,x0.2.1,x0.2.2),x1,(x4.1,x4.2),(x5.1,x5.2),(b34,0),i32,false,()) w36))
def F34.k13 (Q:QT) (C12:(ST×Int×NT×NT×Unit)->WT):(ST×Int×NT×NT×Unit)->WT:=fun s w=>∀ _:Nat->Value,F34.k13c Q C12 s.1 s.2.1 s.2.2.1 s.2.2.2.1 w
def F34.b12c (Q:QT) (C12:(ST×Int×NT×NT×Unit)->WT) (x0:ST) (x1:Int) (x4:NT) (x5:NT) (w:World):Prop :=
 ldI .i64 w x5.1 (x5.2+2) fun i26 =>
 vIf (decide (i26 < (x0.2.1:Int)))
 (ldB w x5.1 (x5.2+3) fun t27 =>
 vIf (!t27)
 (jnC (F34.k13 Q C12) ((x0.1,x0.2.1,x0.2.2),x1,(x4.1,x4.2),(x5.1,x5.2),()) w)
 (ldA 6 w x5.1 x5.2 fun a86 =>
 gd (a86.length == 6) <|
 st w x4.1 x4.2 a86 fun w87 =>
 ldA 6 w87 x4.1 x4.2 fun a88 =>
 Q (ofL a88) w87))
 (ldA 6 w x5.1 x5.2 fun a89 =>
 gd (a89.length == 6) <|
 st w x4.1 x4.2 a89 fun w90 =>
 ldA 6 w90 x4.1 x4.2 fun a91 =>
 Q (ofL a91) w90)
def F34.b12 (Q:QT):(ST×Int×NT×NT×Unit)->World->((ST×Int×NT×NT×Unit)->WT)->Prop:=fun s w C12=>∀ _:Nat->Value,F34.b12c Q C12 s.1 s.2.1 s.2.2.1 s.2.2.2.1 w
def F34.l12 (Q:QT):(ST×Int×NT×NT×Unit)->WT:=fun s w=>∃ n,loopC (F34.b12 Q) n s w
def F34.k9c (Q:QT) (x0:ST) (x1:Int) (x4:NT) (x5:NT) (x6:NT) (x7:Int) (w:World):Prop :=
 ldI .u64 w x6.1 (x6.2+1) fun i22 =>
 st w x5.1 (x5.2+1) [VI .u64 i22] fun w23 =>
 st w23 x5.1 (x5.2+2) [VI .i64 x7] fun w24 =>
 st w24 x5.1 (x5.2+4) [VI .i64 x7] fun w25 =>
 jnC (F34.l12 Q) ((x0.1,x0.2.1,x0.2.2),x1,(x4.1,x4.2),(x5.1,x5.2),()) w25
def F34.k9 (Q:QT):(ST×Int×NT×NT×NT×Int×Unit)->WT:=fun s w=>∀ _:Nat->Value,F34.k9c Q s.1 s.2.1 s.2.2.1 s.2.2.2.1 s.2.2.2.2.1 s.2.2.2.2.2.1 w
def F34.k7c (Q:QT) (x0:ST) (x1:Int) (x4:NT) (x5:NT) (x6:NT) (x7:Int) (x35:Bool) (w:World):Prop :=
 vIf x35
 (st w x5.1 (x5.2+5) [VI .i64 3] fun w18 =>
 ldA 6 w18 x5.1 x5.2 fun a19 =>
 gd (a19.length == 6) <|
 st w18 x4.1 x4.2 a19 fun w20 =>
 ldA 6 w20 x4.1 x4.2 fun a21 =>
 Q (ofL a21) w20)
 (jnC (F34.k9 Q) ((x0.1,x0.2.1,x0.2.2),x1,(x4.1,x4.2),(x5.1,x5.2),(x6.1,x6.2),x7,()) w)
def F34.k7 (Q:QT):(ST×Int×NT×NT×NT×Int×Bool×Unit)->WT:=fun s w=>∀ _:Nat->Value,F34.k7c Q s.1 s.2.1 s.2.2.1 s.2.2.2.1 s.2.2.2.2.1 s.2.2.2.2.2.1 s.2.2.2.2.2.2.1 w
def F34.vc (x0A:Option Addr) (x0n x0c:Nat) (x1:Int) (w:World) (Q:QT):Prop :=
 nw w Z43 43 fun b1 w2 =>
 nw w2 Z43 43 fun b3 w4 =>
 Calls Tryz.prog 69 #[VS x0A x0n x0c,VI .i64 0] w4 fun e6 w5 =>
 ∃ a7:List Value,∃ i8:Int,∃ i9:Int,e6=.returned (VT #[ofL a7,VI .i64 i8,VI .i64 i9])/\(
 nw w5 Z92 92 fun b10 w11 =>
 gd (a7.length == 38) <|
 st w11 b10 0 a7 fun w12 =>
 vIf (i9 != 0)
 (st w12 b3 (0+5) [VI .i64 i9] fun w13 =>
 ldA 6 w13 b3 0 fun a14 =>
 gd (a14.length == 6) <|
 st w13 b1 0 a14 fun w15 =>
 ldA 6 w15 b1 0 fun a16 =>
 Q (ofL a16) w15)
 (ldI .i64 w12 b10 0 fun i17 =>
 vIf (i17 != 7)
 (jnC (F34.k7 Q) ((x0A,x0n,x0c),x1,(b1,0),(b3,0),(b10,0),i8,true,()) w12)
 (ldI .i64 w12 b10 (0+36) fun i92 =>
 jnC (F34.k7 Q) ((x0A,x0n,x0c),x1,(b1,0),(b3,0),(b10,0),i8,(i92 != x1),()) w12)))
def F34.an:Ann:=⟨[(12,[(0,.kSl),(1,.kI .i64),(4,.kL),(5,.kL)])],[(7,[(0,.kSl),(1,.kI .i64),(4,.kL),(5,.kL),(6,.kL),(7,.kI .i64),(35,.kB)]),(9,[(0,.kSl),(1,.kI .i64),(4,.kL),(5,.kL),(6,.kL),(7,.kI .i64)]),(13,[(0,.kSl),(1,.kI .i64),(4,.kL),(5,.kL)]),(15,[(0,.kSl),(1,.kI .i64),(4,.kL),(5,.kL),(9,.kL),(10,.kI .i64),(69,.kB)]),(16,[(4,.kL),(5,.kL),(9,.kL),(10,.kI .i64),(95,.kB)]),(18,[(4,.kL),(5,.kL),(9,.kL),(10,.kI .i64)]),(23,[(0,.kSl),(1,.kI .i64),(4,.kL),(5,.kL)]),(26,[(0,.kSl),(1,.kI .i64),(4,.kL),(5,.kL),(12,.kSl),(13,.kI .i64),(14,.kI .u64),(15,.kI .i64)])]⟩
theorem F34.of (x0A:Option Addr) (x0n x0c:Nat) (x1:Int) (w:World) {Q:QT} (h:F34.vc x0A x0n x0c x1 w Q):Calls Tryz.prog 34 #[VS x0A x0n x0c,VI .i64 x1] w (fun e w'=>∃ v,e=.returned v/\Q v w'):=vcFn_of (A:=F34.an) noCount mixed h (by kernel_rfl)
def F35.b4c (Q:QT) (C4:(ST×ST×Int×Unit)->WT) (x0:ST) (x1:ST) (x5:Int) (w:World):Prop :=
 vIf (decide (x5 < (x0.2.1:Int)))
 (dr x0.1 fun b1 o2 =>
 gd (decide (0<=x5)) <|
 gd (decide (x5 < (x0.2.1:Int))) <|
 ldA 39 w.drew b1 (o2+(x5).toNat * 39) fun a3 =>
 dr x1.1 fun b4 o5 =>
 gd (decide (0<=x5)) <|
 gd (decide (x5 < (x1.2.1:Int))) <|
 ldA 39 w.drew b4 (o5+(x5).toNat * 39) fun a6 =>
 eqPl PK112 a3 a6 fun t7 =>
 vIf (!t7)
 (Q (VB false) w.drew)
 (jnC C4 ((x0.1,x0.2.1,x0.2.2),(x1.1,x1.2.1,x1.2.2),((WR .i64 (x5+1))),()) w.drew))
 (Q (VB true) w)
def F35.b4 (Q:QT):(ST×ST×Int×Unit)->World->((ST×ST×Int×Unit)->WT)->Prop:=fun s w C4=>∀ _:Nat->Value,F35.b4c Q C4 s.1 s.2.1 s.2.2.1 w
def F35.l4 (Q:QT):(ST×ST×Int×Unit)->WT:=fun s w=>∃ n,loopC (F35.b4 Q) n s w
def F35.vc (x0A:Option Addr) (x0n x0c:Nat) (x1A:Option Addr) (x1n x1c:Nat) (w:World) (Q:QT):Prop :=
 vIf ((x0n:Int) != (x1n:Int))
 (Q (VB false) w)
 (jnC (F35.l4 Q) ((x0A,x0n,x0c),(x1A,x1n,x1c),(0),()) w)
def F35.an:Ann:=⟨[(4,[(0,.kSl),(1,.kSl),(5,.kI .i64)])],[]⟩
theorem F35.of (x0A:Option Addr) (x0n x0c:Nat) (x1A:Option Addr) (x1n x1c:Nat) (w:World) {Q:QT} (h:F35.vc x0A x0n x0c x1A x1n x1c w Q):Calls Tryz.prog 35 #[VS x0A x0n x0c,VS x1A x1n x1c] w (fun e w'=>∃ v,e=.returned v/\Q v w'):=vcFn_of (A:=F35.an) noCount mixed h (by kernel_rfl)
def F36.k20c (Q:QT) (x10:ST) (w:World):Prop :=
 Q (VT #[VS x10.1 x10.2.1 x10.2.2,VI .i64 0]) w
def F36.k20 (Q:QT):(ST×Unit)->WT:=fun s w=>∀ _:Nat->Value,F36.k20c Q s.1 w
def F36.b7c (Q:QT) (C7:(ST×Bool×ST×Int×Int×Int×Unit)->WT) (x2:ST) (x3:Bool) (x10:ST) (x12:Int) (x13:Int) (x14:Int) (w:World):Prop :=
 vIf (decide (x14 < (x2.2.1:Int)))
 (dr x2.1 fun b7 o8 =>
 gd (decide (0<=x14)) <|
 gd (decide (x14 < (x2.2.1:Int))) <|
 ldSl w b7 (o8+(x14).toNat * 1) fun A9 n10 c11 =>
 Calls Tryz.prog 72 #[VS A9 n10 c11,VI .u64 x12] w fun e13 w12 =>
 ∃ (A14:Option Addr) (n15 c16:Nat),∃ i17:Int,∃ i18:Int,e13=.returned (VT #[VS A14 n15 c16,VI .u64 i17,VI .i64 i18])/\(
 vIf (i18 != 0)
 (Q (VT #[VS none 0 0,VI .i64 i18]) w12)
 (app w12 1 1 [VI .u8 0] 5 x10.1 x10.2.1 x10.2.2 (VS A14 n15 c16) fun A19 n20 c21 w22 =>
 dr x2.1 fun b23 o24 =>
 gd (decide (0<=x14)) <|
 gd (decide (x14 < (x2.2.1:Int))) <|
 ldSl w22 b23 (o24+(x14).toNat * 1) fun A25 n26 c27 =>
 jnC C7 ((x2.1,x2.2.1,x2.2.2),x3,(A19,n20,c21),i17,((WR .i64 (x13+(n26:Int)))),((WR .i64 (x14+1))),()) w22)))
 (vIf x3
 (Calls Tryz.prog 71 #[ofL ([VI .i64 8] ++ ([VI .u64 x12] ++ ([VI .u8 0,VI .u8 0,VI .u8 0,VI .u8 0,VI .u8 0,VI .u8 0,VI .u8 0,VI .u8 0,VI .u8 0,VI .u8 0,VI .u8 0,VI .u8 0,VI .u8 0,VI .u8 0,VI .u8 0,VI .u8 0,VI .u8 0,VI .u8 0,VI .u8 0,VI .u8 0,VI .u8 0,VI .u8 0,VI .u8 0,VI .u8 0,VI .u8 0,VI .u8 0,VI .u8 0,VI .u8 0,VI .u8 0,VI .u8 0,VI .u8 0,VI .u8 0] ++ ([VG (⟨#[]⟩:ByteArray)] ++ ([VS none 0 0] ++ ([VI .i64 x13] ++ ([VI .i64 (x10.2.1:Int)] ++ [])))))))] w fun e29 w28 =>
 ∃ (A30:Option Addr) (n31 c32:Nat),∃ i33:Int,e29=.returned (VT #[VS A30 n31 c32,VI .i64 i33])/\(
 vIf (i33 != 0)
 (Q (VT #[VS none 0 0,VI .i64 i33]) w28)
 (app w28 1 1 [VI .u8 0] 5 x10.1 x10.2.1 x10.2.2 (VS A30 n31 c32) fun A34 n35 c36 w37 =>
 jnC (F36.k20 Q) ((A34,n35,c36),()) w37)))
 (jnC (F36.k20 Q) ((x10.1,x10.2.1,x10.2.2),()) w))
def F36.b7 (Q:QT):(ST×Bool×ST×Int×Int×Int×Unit)->World->((ST×Bool×ST×Int×Int×Int×Unit)->WT)->Prop:=fun s w C7=>∀ _:Nat->Value,F36.b7c Q C7 s.1 s.2.1 s.2.2.1 s.2.2.2.1 s.2.2.2.2.1 s.2.2.2.2.2.1 w
def F36.l7 (Q:QT):(ST×Bool×ST×Int×Int×Int×Unit)->WT:=fun s w=>∃ n,loopC (F36.b7 Q) n s w
def F36.vc (x0:Int) (x1:Int) (x2A:Option Addr) (x2n x2c:Nat) (x3:Bool) (w:World) (Q:QT):Prop :=
 Calls Tryz.prog 71 #[ofL ([VI .i64 7] ++ ([VI .u64 x1] ++ ([VI .u8 0,VI .u8 0,VI .u8 0,VI .u8 0,VI .u8 0,VI .u8 0,VI .u8 0,VI .u8 0,VI .u8 0,VI .u8 0,VI .u8 0,VI .u8 0,VI .u8 0,VI .u8 0,VI .u8 0,VI .u8 0,VI .u8 0,VI .u8 0,VI .u8 0,VI .u8 0,VI .u8 0,VI .u8 0,VI .u8 0,VI .u8 0,VI .u8 0,VI .u8 0,VI .u8 0,VI .u8 0,VI .u8 0,VI .u8 0,VI .u8 0,VI .u8 0] ++ ([VG (⟨#[]⟩:ByteArray)] ++ ([VS none 0 0] ++ ([VI .i64 x0] ++ ([VI .i64 0] ++ [])))))))] w fun e2 w1 =>
 ∃ (A3:Option Addr) (n4 c5:Nat),∃ i6:Int,e2=.returned (VT #[VS A3 n4 c5,VI .i64 i6])/\(
 vIf (i6 != 0)
 (Q (VT #[VS none 0 0,VI .i64 i6]) w1)
 (jnC (F36.l7 Q) ((x2A,x2n,x2c),x3,(A3,n4,c5),((WR .u64 (x1+1))),(0),(0),()) w1))
def F36.an:Ann:=⟨[(7,[(2,.kSl),(3,.kB),(10,.kSl),(12,.kI .u64),(13,.kI .i64),(14,.kI .i64)])],[(20,[(10,.kSl)])]⟩
theorem F36.of (x0:Int) (x1:Int) (x2A:Option Addr) (x2n x2c:Nat) (x3:Bool) (w:World) {Q:QT} (h:F36.vc x0 x1 x2A x2n x2c x3 w Q):Calls Tryz.prog 36 #[VI .i64 x0,VI .u64 x1,VS x2A x2n x2c,VB x3] w (fun e w'=>∃ v,e=.returned v/\Q v w'):=vcFn_of (A:=F36.an) noCount mixed h (by kernel_rfl)
def F37.vc (x0:List Value) (w:World) (Q:QT):Prop :=
 nw w x0 36 fun b1 w2 =>
 ldA 2 w2 b1 0 fun a3 =>
 ldSl w2 b1 (0+1) fun A4 n5 c6 =>
 Calls Tryz.prog 43 #[ofL a3,VI .i64 (n5:Int)] w2 fun e8 w7 =>
 ∃ (A9:Option Addr) (n10 c11:Nat),e8=.returned (VS A9 n10 c11)/\(
 Q (VS A9 n10 c11) w7)
def F37.an:Ann:=⟨[],[]⟩
theorem F37.of (x0:List Value) (w:World) {Q:QT} (h:F37.vc x0 w Q):Calls Tryz.prog 37 #[ofL x0] w (fun e w'=>∃ v,e=.returned v/\Q v w'):=vcFn_of (A:=F37.an) noCount mixed h (by kernel_rfl)
def F38s.b3c (Q:QT) (C3:(ST×ByteArray×Unit×Int×Int×Int×Unit)->WT) (x0:ST) (x1:ByteArray) (x2:Unit) (x8:Int) (x9:Int) (x10:Int) (w:World):Prop :=
 vIf (decide (x9 < x10))
 (dr x0.1 fun b1 o2 =>
 gd (decide (0<=(WR .i64 (Int.fdiv (WR .u64 (WR .i64 (x9+x10))) (2 ^ 1))))) <|
 gd (decide ((WR .i64 (Int.fdiv (WR .u64 (WR .i64 (x9+x10))) (2 ^ 1))) < (x0.2.1:Int))) <|
 ldA 2 w b1 (o2+((WR .i64 (Int.fdiv (WR .u64 (WR .i64 (x9+x10))) (2 ^ 1)))).toNat * 2) fun a3 =>
 Calls Tryz.prog 39 #[ofL a3,VG x1] w fun e5 w4 =>
 ∃ i6:Int,e5=.returned (VI .i64 i6)/\(
 vIf (decide (i6 < 0))
 (jnC C3 ((x0.1,x0.2.1,x0.2.2),x1,(),x8,((WR .i64 ((WR .i64 (Int.fdiv (WR .u64 (WR .i64 (x9+x10))) (2 ^ 1)))+1))),x10,()) w4)
 (jnC C3 ((x0.1,x0.2.1,x0.2.2),x1,(),x8,x9,((WR .i64 (Int.fdiv (WR .u64 (WR .i64 (x9+x10))) (2 ^ 1)))),()) w4)))
 (vIf (decide (x9 < x8))
 (dr x0.1 fun b7 o8 =>
 gd (decide (0<=x9)) <|
 gd (decide (x9 < (x0.2.1:Int))) <|
 ldA 2 w b7 (o8+(x9).toNat * 2) fun a9 =>
 Calls Tryz.prog 39 #[ofL a9,VG x1] w fun e11 w10 =>
 ∃ i12:Int,e11=.returned (VI .i64 i12)/\(
 Q (VT #[VI .i64 x9,VB (i12 == 0)]) w10))
 (Q (VT #[VI .i64 x9,VB false]) w))
def F38s.b3 (Q:QT):(ST×ByteArray×Unit×Int×Int×Int×Unit)->World->((ST×ByteArray×Unit×Int×Int×Int×Unit)->WT)->Prop:=fun s w C3=>∀ _:Nat->Value,F38s.b3c Q C3 s.1 s.2.1 s.2.2.1 s.2.2.2.1 s.2.2.2.2.1 s.2.2.2.2.2.1 w
def F38s.l3 (Q:QT):(ST×ByteArray×Unit×Int×Int×Int×Unit)->WT:=fun s w=>∃ n,loopC (F38s.b3 Q) n s w
def F38s.vc (x0A:Option Addr) (x0n x0c:Nat) (x1:ByteArray) (w:World) (Q:QT):Prop :=
 jnC (F38s.l3 Q) ((x0A,x0n,x0c),x1,(),((x0n:Int)),(0),((x0n:Int)),()) w
def F38s.an:Ann:=⟨[(3,[(0,.kSl),(1,.kS),(2,.kF 39),(8,.kI .i64),(9,.kI .i64),(10,.kI .i64)])],[]⟩
theorem F38s.of (x0A:Option Addr) (x0n x0c:Nat) (x1:ByteArray) (w:World) {Q:QT} (h:F38s.vc x0A x0n x0c x1 w Q):Calls Tryz.prog 38 #[VS x0A x0n x0c,VG x1,Value.func (.func 39) #[] #[]] w (fun e w'=>∃ v,e=.returned v/\Q v w'):=vcFn_of (A:=F38s.an) noCount mixed h (by kernel_rfl)
def F39.vc (x0:List Value) (x1:ByteArray) (w:World) (Q:QT):Prop :=
 nw w x0 62 fun b1 w2 =>
 ldS w2 b1 0 fun s3 =>
 Calls Tryz.prog 73 #[VG s3,VG x1] w2 fun e5 w4 =>
 ∃ i6:Int,e5=.returned (VI .i64 i6)/\(
 Q (VI .i64 i6) w4)
def F39.an:Ann:=⟨[],[]⟩
theorem F39.of (x0:List Value) (x1:ByteArray) (w:World) {Q:QT} (h:F39.vc x0 x1 w Q):Calls Tryz.prog 39 #[ofL x0,VG x1] w (fun e w'=>∃ v,e=.returned v/\Q v w'):=vcFn_of (A:=F39.an) noCount mixed h (by kernel_rfl)
def F40.vc (x0:List Value) (w:World) (Q:QT):Prop :=
 nw w x0 65 fun b1 w2 =>
 ldSl w2 b1 0 fun A3 n4 c5 =>
 ldSl w2 b1 (0+1) fun A6 n7 c8 =>
 Calls Tryz.prog 74 #[VS A3 n4 c5,VS A6 n7 c8] w2 fun e10 w9 =>
 ∃ (A11:Option Addr) (n12 c13:Nat),e10=.returned (VS A11 n12 c13)/\(
 Q (VS A11 n12 c13) w9)
def F40.an:Ann:=⟨[],[]⟩
theorem F40.of (x0:List Value) (w:World) {Q:QT} (h:F40.vc x0 w Q):Calls Tryz.prog 40 #[ofL x0] w (fun e w'=>∃ v,e=.returned v/\Q v w'):=vcFn_of (A:=F40.an) noCount mixed h (by kernel_rfl)
def F41.b2c (Q:QT) (C2:(ST×ByteArray×Int×Unit)->WT) (x0:ST) (x1:ByteArray) (x6:Int) (w:World):Prop :=
 vIf (decide (x6 < (x0.2.1:Int)))
 (dr x0.1 fun b1 o2 =>
 gd (decide (0<=x6)) <|
 gd (decide (x6 < (x0.2.1:Int))) <|
 ldS w b1 (o2+(x6).toNat * 2) fun s3 =>
 vIf (s3.toList == x1.toList)
 (dr x0.1 fun b4 o5 =>
 gd (decide (0<=x6)) <|
 gd (decide (x6 < (x0.2.1:Int))) <|
 ldI .i64 w b4 ((o5+(x6).toNat * 2)+1) fun i6 =>
 Q (VT #[VI .i64 i6,VB true]) w)
 (jnC C2 ((x0.1,x0.2.1,x0.2.2),x1,((WR .i64 (x6+1))),()) w))
 (Q (VT #[VI .i64 0,VB false]) w)
def F41.b2 (Q:QT):(ST×ByteArray×Int×Unit)->World->((ST×ByteArray×Int×Unit)->WT)->Prop:=fun s w C2=>∀ _:Nat->Value,F41.b2c Q C2 s.1 s.2.1 s.2.2.1 w
def F41.l2 (Q:QT):(ST×ByteArray×Int×Unit)->WT:=fun s w=>∃ n,loopC (F41.b2 Q) n s w
def F41.vc (x0A:Option Addr) (x0n x0c:Nat) (x1:ByteArray) (w:World) (Q:QT):Prop :=
 jnC (F41.l2 Q) ((x0A,x0n,x0c),x1,(0),()) w
def F41.an:Ann:=⟨[(2,[(0,.kSl),(1,.kS),(6,.kI .i64)])],[]⟩
theorem F41.of (x0A:Option Addr) (x0n x0c:Nat) (x1:ByteArray) (w:World) {Q:QT} (h:F41.vc x0A x0n x0c x1 w Q):Calls Tryz.prog 41 #[VS x0A x0n x0c,VG x1] w (fun e w'=>∃ v,e=.returned v/\Q v w'):=vcFn_of (A:=F41.an) noCount mixed h (by kernel_rfl)
def F42.k15c (Q:QT) (C7:(Int×NT×ST×Int×Unit)->WT) (x1:Int) (x2:NT) (x5:ST) (x7:Int) (x8:NT) (w:World):Prop :=
 ldI .i64 w x8.1 x8.2 fun i55 =>
 vIf (i55 == 3)
 (ldS w x8.1 (x8.2+1) fun s56 =>
 Calls Tryz.prog 76 #[VS x5.1 x5.2.1 x5.2.2,VG s56] w fun e58 w57 =>
 ∃ (A59:Option Addr) (n60 c61:Nat),e58=.returned (VS A59 n60 c61)/\(
 jnC C7 (x1,(x2.1,x2.2),(A59,n60,c61),((WR .i64 (x7+1))),()) w57))
 (jnC C7 (x1,(x2.1,x2.2),(x5.1,x5.2.1,x5.2.2),((WR .i64 (x7+1))),()) w)
def F42.k15 (Q:QT) (C7:(Int×NT×ST×Int×Unit)->WT):(Int×NT×ST×Int×NT×Unit)->WT:=fun s w=>∀ _:Nat->Value,F42.k15c Q C7 s.1 s.2.1 s.2.2.1 s.2.2.2.1 s.2.2.2.2.1 w
def F42.k14c (Q:QT) (C7:(Int×NT×ST×Int×Unit)->WT) (x1:Int) (x2:NT) (x5:ST) (x7:Int) (x8:NT) (x9:Int) (x65:Bool) (w:World):Prop :=
 vIf x65
 (ldS w.drew x8.1 (x8.2+1) fun s43 =>
 ldS w.drew x8.1 (x8.2+2) fun s44 =>
 Calls Tryz.prog 76 #[VS x5.1 x5.2.1 x5.2.2,VG s43] w.drew fun e46 w45 =>
 ∃ (A47:Option Addr) (n48 c49:Nat),e46=.returned (VS A47 n48 c49)/\(
 kp w.drew x8.1 (x8.2+2) 1 w45 <|
 Calls Tryz.prog 75 #[VS A47 n48 c49,ofL ([VG s44] ++ ([VI .i64 x9] ++ []))] w45 fun e51 w50 =>
 ∃ (A52:Option Addr) (n53 c54:Nat),e51=.returned (VS A52 n53 c54)/\(
 jnC (F42.k15 Q C7) (x1,(x2.1,x2.2),(A52,n53,c54),x7,(x8.1,x8.2),()) w50)))
 (jnC (F42.k15 Q C7) (x1,(x2.1,x2.2),(x5.1,x5.2.1,x5.2.2),x7,(x8.1,x8.2),()) w)
def F42.k14 (Q:QT) (C7:(Int×NT×ST×Int×Unit)->WT):(Int×NT×ST×Int×NT×Int×Bool×Unit)->WT:=fun s w=>∀ _:Nat->Value,F42.k14c Q C7 s.1 s.2.1 s.2.2.1 s.2.2.2.1 s.2.2.2.2.1 s.2.2.2.2.2.1 s.2.2.2.2.2.2.1 w
def F42.k13c (Q:QT) (C7:(Int×NT×ST×Int×Unit)->WT) (x1:Int) (x2:NT) (x5:ST) (x7:Int) (x8:NT) (x9:Int) (x10:Bool) (w:World):Prop :=
 ldI .i64 w x8.1 x8.2 fun i42 =>
 vIf (i42 == 2)
 (jnC (F42.k14 Q C7) (x1,(x2.1,x2.2),(x5.1,x5.2.1,x5.2.2),x7,(x8.1,x8.2),x9,x10,()) w)
 (jnC (F42.k14 Q C7) (x1,(x2.1,x2.2),(x5.1,x5.2.1,x5.2.2),x7,(x8.1,x8.2),x9,false,()) w)
def F42.k13 (Q:QT) (C7:(Int×NT×ST×Int×Unit)->WT):(Int×NT×ST×Int×NT×Int×Bool×Unit)->WT:=fun s w=>∀ _:Nat->Value,F42.k13c Q C7 s.1 s.2.1 s.2.2.1 s.2.2.2.1 s.2.2.2.2.1 s.2.2.2.2.2.1 s.2.2.2.2.2.2.1 w
def F42.k9c (Q:QT) (C7:(Int×NT×ST×Int×Unit)->WT) (x1:Int) (x2:NT) (x5:ST) (x7:Int) (w:World):Prop :=
 ldSl w x2.1 (x2.2+1) fun A20 n21 c22 =>
 dr A20 fun b23 o24 =>
 gd (decide (0<=x7)) <|
 gd (decide (x7 < (n21:Int))) <|
 ldA 4 w b23 (o24+(x7).toNat * 4) fun a25 =>
 nw w Z146 146 fun b26 w27 =>
 gd (a25.length == 4) <|
 st w27 b26 0 a25 fun w28 =>
 ldS w28 b26 (0+1) fun s29 =>
 Calls Tryz.prog 41 #[VS x5.1 x5.2.1 x5.2.2,VG s29] w28 fun e31 w30 =>
 ∃ i32:Int,∃ t33:Bool,e31=.returned (VT #[VI .i64 i32,VB t33])/\(
 ldI .i64 w30 b26 0 fun i34 =>
 vIf (i34 == 1)
 (ldS w30 b26 (0+1) fun s35 =>
 ldI .i64 w30 b26 (0+3) fun i36 =>
 Calls Tryz.prog 75 #[VS x5.1 x5.2.1 x5.2.2,ofL ([VG s35] ++ ([VI .i64 i36] ++ []))] w30 fun e38 w37 =>
 ∃ (A39:Option Addr) (n40 c41:Nat),e38=.returned (VS A39 n40 c41)/\(
 jnC (F42.k13 Q C7) (x1,(x2.1,x2.2),(A39,n40,c41),x7,(b26,0),i32,t33,()) w37))
 (jnC (F42.k13 Q C7) (x1,(x2.1,x2.2),(x5.1,x5.2.1,x5.2.2),x7,(b26,0),i32,t33,()) w30))
def F42.k9 (Q:QT) (C7:(Int×NT×ST×Int×Unit)->WT):(Int×NT×ST×Int×Unit)->WT:=fun s w=>∀ _:Nat->Value,F42.k9c Q C7 s.1 s.2.1 s.2.2.1 s.2.2.2.1 w
def F42.b7c (Q:QT) (C7:(Int×NT×ST×Int×Unit)->WT) (x1:Int) (x2:NT) (x5:ST) (x7:Int) (w:World):Prop :=
 ldSl w x2.1 (x2.2+1) fun A17 n18 c19 =>
 vIf (decide (x7 < (n18:Int)))
 (vIf (decide (x7 < x1))
 (jnC (F42.k9 Q C7) (x1,(x2.1,x2.2),(x5.1,x5.2.1,x5.2.2),x7,()) w)
 (Q (VS x5.1 x5.2.1 x5.2.2) w))
 (Q (VS x5.1 x5.2.1 x5.2.2) w)
def F42.b7 (Q:QT):(Int×NT×ST×Int×Unit)->World->((Int×NT×ST×Int×Unit)->WT)->Prop:=fun s w C7=>∀ _:Nat->Value,F42.b7c Q C7 s.1 s.2.1 s.2.2.1 s.2.2.2.1 w
def F42.l7 (Q:QT):(Int×NT×ST×Int×Unit)->WT:=fun s w=>∃ n,loopC (F42.b7 Q) n s w
def F42.b3c (Q:QT) (C3:(Int×NT×ST×Int×Unit)->WT) (x1:Int) (x2:NT) (x5:ST) (x6:Int) (w:World):Prop :=
 vIf (decide (x6 >= 0))
 (ldSl w x2.1 x2.2 fun A6 n7 c8 =>
 dr A6 fun b9 o10 =>
 gd (decide (0<=x6)) <|
 gd (decide (x6 < (n7:Int))) <|
 ldA 2 w b9 (o10+(x6).toNat * 2) fun a11 =>
 Calls Tryz.prog 75 #[VS x5.1 x5.2.1 x5.2.2,ofL a11] w fun e13 w12 =>
 ∃ (A14:Option Addr) (n15 c16:Nat),e13=.returned (VS A14 n15 c16)/\(
 jnC C3 (x1,(x2.1,x2.2),(A14,n15,c16),((WR .i64 (x6 - 1))),()) w12))
 (jnC (F42.l7 Q) (x1,(x2.1,x2.2),(x5.1,x5.2.1,x5.2.2),(0),()) w)
def F42.b3 (Q:QT):(Int×NT×ST×Int×Unit)->World->((Int×NT×ST×Int×Unit)->WT)->Prop:=fun s w C3=>∀ _:Nat->Value,F42.b3c Q C3 s.1 s.2.1 s.2.2.1 s.2.2.2.1 w
def F42.l3 (Q:QT):(Int×NT×ST×Int×Unit)->WT:=fun s w=>∃ n,loopC (F42.b3 Q) n s w
def F42.vc (x0:List Value) (x1:Int) (w:World) (Q:QT):Prop :=
 nw w x0 36 fun b1 w2 =>
 ldSl w2 b1 0 fun A3 n4 c5 =>
 jnC (F42.l3 Q) (x1,(b1,0),(none,0,0),((WR .i64 ((n4:Int) - 1))),()) w2
def F42.an:Ann:=⟨[(3,[(1,.kI .i64),(2,.kL),(5,.kSl),(6,.kI .i64)]),(7,[(1,.kI .i64),(2,.kL),(5,.kSl),(7,.kI .i64)])],[(9,[(1,.kI .i64),(2,.kL),(5,.kSl),(7,.kI .i64)]),(13,[(1,.kI .i64),(2,.kL),(5,.kSl),(7,.kI .i64),(8,.kL),(9,.kI .i64),(10,.kB)]),(14,[(1,.kI .i64),(2,.kL),(5,.kSl),(7,.kI .i64),(8,.kL),(9,.kI .i64),(65,.kB)]),(15,[(1,.kI .i64),(2,.kL),(5,.kSl),(7,.kI .i64),(8,.kL)])]⟩
theorem F42.of (x0:List Value) (x1:Int) (w:World) {Q:QT} (h:F42.vc x0 x1 w Q):Calls Tryz.prog 42 #[ofL x0,VI .i64 x1] w (fun e w'=>∃ v,e=.returned v/\Q v w'):=vcFn_of (A:=F42.an) noCount mixed h (by kernel_rfl)
def F43.b3c (Q:QT) (C3:(ST×ST×Int×Int×Unit)->WT) (x5:ST) (x18:ST) (x19:Int) (x20:Int) (w:World):Prop :=
 vIf (decide (x20 < x19))
 (dr x18.1 fun b15 o16 =>
 gd (decide (0<=x20)) <|
 gd (decide (x20 < (x18.2.1:Int))) <|
 ldA 4 w b15 (o16+(x20).toNat * 4) fun a17 =>
 nw w Z146 146 fun b18 w19 =>
 gd (a17.length == 4) <|
 st w19 b18 0 a17 fun w20 =>
 ldA 4 w20 b18 0 fun a21 =>
 Calls Tryz.prog 78 #[VS x5.1 x5.2.1 x5.2.2,ofL a21] w20 fun e23 w22 =>
 ∃ (A24:Option Addr) (n25 c26:Nat),e23=.returned (VS A24 n25 c26)/\(
 jnC C3 ((A24,n25,c26),(x18.1,x18.2.1,x18.2.2),x19,((WR .i64 (x20+1))),()) w22))
 (Q (VS x5.1 x5.2.1 x5.2.2) w)
def F43.b3 (Q:QT):(ST×ST×Int×Int×Unit)->World->((ST×ST×Int×Int×Unit)->WT)->Prop:=fun s w C3=>∀ _:Nat->Value,F43.b3c Q C3 s.1 s.2.1 s.2.2.1 s.2.2.2.1 w
def F43.l3 (Q:QT):(ST×ST×Int×Int×Unit)->WT:=fun s w=>∃ n,loopC (F43.b3 Q) n s w
def F43.vc (x0:List Value) (x1:Int) (w:World) (Q:QT):Prop :=
 nw w x0 36 fun b1 w2 =>
 ldA 2 w2 b1 0 fun a3 =>
 Calls Tryz.prog 77 #[ofL a3] w2 fun e5 w4 =>
 ∃ (A6:Option Addr) (n7 c8:Nat),e5=.returned (VS A6 n7 c8)/\(
 ldSl w4 b1 (0+1) fun A9 n10 c11 =>
 ldSl w4 b1 (0+1) fun A12 n13 c14 =>
 gd (decide (0<=(if 0 < (if (n13:Int) < x1 then (n13:Int) else x1) then (if (n13:Int) < x1 then (n13:Int) else x1) else 0))) <|
 gd (decide ((if 0 < (if (n13:Int) < x1 then (n13:Int) else x1) then (if (n13:Int) < x1 then (n13:Int) else x1) else 0)<=(c11:Int))) <|
 jnC (F43.l3 Q) ((A6,n7,c8),((slA A9 c11 0 4),((if 0 < (if (n13:Int) < x1 then (n13:Int) else x1) then (if (n13:Int) < x1 then (n13:Int) else x1) else 0)).toNat,c11),(((((if 0 < (if (n13:Int) < x1 then (n13:Int) else x1) then (if (n13:Int) < x1 then (n13:Int) else x1) else 0)).toNat:Nat):Int)),(0),()) w4)
def F43.an:Ann:=⟨[(3,[(5,.kSl),(18,.kSl),(19,.kI .i64),(20,.kI .i64)])],[]⟩
theorem F43.of (x0:List Value) (x1:Int) (w:World) {Q:QT} (h:F43.vc x0 x1 w Q):Calls Tryz.prog 43 #[ofL x0,VI .i64 x1] w (fun e w'=>∃ v,e=.returned v/\Q v w'):=vcFn_of (A:=F43.an) noCount mixed h (by kernel_rfl)
def F45.k15c (Q:QT) (C4:(ST×Int×Unit)->WT) (x0:ST) (x3:Int) (w:World):Prop :=
 gd (decide (0<=x3)) <|
 gd (decide (x3<=(x0.2.2:Int))) <|
 Q (VS (slA x0.1 x0.2.2 0 1) (x3).toNat x0.2.2) w
def F45.k15 (Q:QT) (C4:(ST×Int×Unit)->WT):(ST×Int×Unit)->WT:=fun s w=>∀ _:Nat->Value,F45.k15c Q C4 s.1 s.2.1 w
def F45.b9c (Q:QT) (C4:(ST×Int×Unit)->WT) (C9:(ST×Int×ST×Int×Unit)->WT) (x0:ST) (x3:Int) (x4:ST) (x5:Int) (w:World):Prop :=
 vIf (decide (x5 < (x4.2.1:Int)))
 (dr x4.1 fun b7 o8 =>
 gd (decide (0<=x5)) <|
 gd (decide (x5 < (x4.2.1:Int))) <|
 ldI .i64 w.drew b7 (o8+(x5).toNat * 1) fun i9 =>
 dr x4.1 fun b10 o11 =>
 gd (decide (0<=(WR .i64 (x5 - 1)))) <|
 gd (decide ((WR .i64 (x5 - 1)) < (x4.2.1:Int))) <|
 ldI .i64 w.drew b10 (o11+((WR .i64 (x5 - 1))).toNat * 1) fun i12 =>
 vIf (i9 != i12)
 (dr x4.1 fun b13 o14 =>
 gd (decide (0<=x5)) <|
 gd (decide (x5 < (x4.2.1:Int))) <|
 ldI .i64 w.drew b13 (o14+(x5).toNat * 1) fun i15 =>
 dr x0.1 fun b16 o17 =>
 gd (decide (0<=x3)) <|
 gd (decide (x3 < (x0.2.1:Int))) <|
 st w.drew b16 (o17+(x3).toNat * 1) [VI .i64 i15] fun w18 =>
 jnC C9 ((x0.1,x0.2.1,x0.2.2),((WR .i64 (x3+1))),(x4.1,x4.2.1,x4.2.2),((WR .i64 (x5+1))),()) w18)
 (jnC C9 ((x0.1,x0.2.1,x0.2.2),x3,(x4.1,x4.2.1,x4.2.2),((WR .i64 (x5+1))),()) w.drew))
 (gd (decide (0<=x3)) <|
 gd (decide (x3<=(x0.2.1:Int))) <|
 vIf ((x0.2.1 - (x3).toNat) == 0)
 (jnC (F45.k15 Q C4) ((x0.1,x0.2.1,x0.2.2),x3,()) w)
 (dr (slA x0.1 x0.2.2 (x3).toNat 1) fun b20 o21 =>
 st w b20 o21 (zeros (x0.2.1 - (x3).toNat) [VI .i64 0]) fun w19 =>
 jnC (F45.k15 Q C4) ((x0.1,x0.2.1,x0.2.2),x3,()) w19))
def F45.b9 (Q:QT) (C4:(ST×Int×Unit)->WT):(ST×Int×ST×Int×Unit)->World->((ST×Int×ST×Int×Unit)->WT)->Prop:=fun s w C9=>∀ _:Nat->Value,F45.b9c Q C4 C9 s.1 s.2.1 s.2.2.1 s.2.2.2.1 w
def F45.l9 (Q:QT) (C4:(ST×Int×Unit)->WT):(ST×Int×ST×Int×Unit)->WT:=fun s w=>∃ n,loopC (F45.b9 Q C4) n s w
def F45.b4c (Q:QT) (C4:(ST×Int×Unit)->WT) (x0:ST) (x3:Int) (w:World):Prop :=
 vIf (decide (x3 < (x0.2.1:Int)))
 (dr x0.1 fun b1 o2 =>
 gd (decide (0<=x3)) <|
 gd (decide (x3 < (x0.2.1:Int))) <|
 ldI .i64 w.drew b1 (o2+(x3).toNat * 1) fun i3 =>
 dr x0.1 fun b4 o5 =>
 gd (decide (0<=(WR .i64 (x3 - 1)))) <|
 gd (decide ((WR .i64 (x3 - 1)) < (x0.2.1:Int))) <|
 ldI .i64 w.drew b4 (o5+((WR .i64 (x3 - 1))).toNat * 1) fun i6 =>
 vIf (i3 == i6)
 (gd (decide (0<=x3)) <|
 gd (decide (x3<=(x0.2.1:Int))) <|
 jnC (F45.l9 Q C4) ((x0.1,x0.2.1,x0.2.2),x3,((slA x0.1 x0.2.2 (x3).toNat 1),(x0.2.1 - (x3).toNat),(x0.2.2 - (x3).toNat)),(1),()) w.drew)
 (jnC C4 ((x0.1,x0.2.1,x0.2.2),((WR .i64 (x3+1))),()) w.drew))
 (Q (VS x0.1 x0.2.1 x0.2.2) w)
def F45.b4 (Q:QT):(ST×Int×Unit)->World->((ST×Int×Unit)->WT)->Prop:=fun s w C4=>∀ _:Nat->Value,F45.b4c Q C4 s.1 s.2.1 w
def F45.l4 (Q:QT):(ST×Int×Unit)->WT:=fun s w=>∃ n,loopC (F45.b4 Q) n s w
def F45.vc (x0A:Option Addr) (x0n x0c:Nat) (w:World) (Q:QT):Prop :=
 vIf (decide ((x0n:Int) < 2))
 (Q (VS x0A x0n x0c) w)
 (jnC (F45.l4 Q) ((x0A,x0n,x0c),(1),()) w)
def F45.an:Ann:=⟨[(4,[(0,.kSl),(3,.kI .i64)]),(9,[(0,.kSl),(3,.kI .i64),(4,.kSl),(5,.kI .i64)])],[(15,[(0,.kSl),(3,.kI .i64)])]⟩
theorem F45.of (x0A:Option Addr) (x0n x0c:Nat) (w:World) {Q:QT} (h:F45.vc x0A x0n x0c w Q):Calls Tryz.prog 45 #[VS x0A x0n x0c] w (fun e w'=>∃ v,e=.returned v/\Q v w'):=vcFn_of (A:=F45.an) noCount mixed h (by kernel_rfl)
def F46.vc (x0:Option Addr) (x1:ByteArray) (w:World) (Q:QT):Prop :=
 Calls Tryz.prog 81 #[VP x0,VG x1] w fun e2 w1 =>
 ∃ (A3:Option Addr) (n4 c5:Nat),∃ i6:Int,e2=.returned (VT #[VS A3 n4 c5,VI .i64 i6])/\(
 Q (VT #[VI .i64 (n4:Int),VI .i64 i6]) w1)
def F46.an:Ann:=⟨[],[]⟩
theorem F46.of (x0:Option Addr) (x1:ByteArray) (w:World) {Q:QT} (h:F46.vc x0 x1 w Q):Calls Tryz.prog 46 #[VP x0,VG x1] w (fun e w'=>∃ v,e=.returned v/\Q v w'):=vcFn_of (A:=F46.an) noCount mixed h (by kernel_rfl)
def F47.k6c (Q:QT) (x2:Int) (x3:Int) (x10:ST) (w:World):Prop :=
 gd (decide (0<=(WR .i64 (x2+x3)))) <|
 gd (decide ((WR .i64 (x2+x3))<=(x10.2.2:Int))) <|
 gd (decide (0<=(WR .i64 (x2+x3)))) <|
 gd (decide ((WR .i64 (x2+x3))<=((((WR .i64 (x2+x3))).toNat:Nat):Int))) <|
 gd (decide (0<=x2)) <|
 gd (decide (x2<=((((WR .i64 (x2+x3))).toNat:Nat):Int))) <|
 Q (VT #[VS (slA x10.1 ((WR .i64 (x2+x3))).toNat (x2).toNat 1) (((WR .i64 (x2+x3))).toNat - (x2).toNat) (((WR .i64 (x2+x3))).toNat - (x2).toNat),VI .i64 0]) w
def F47.k6 (Q:QT):(Int×Int×ST×Unit)->WT:=fun s w=>∀ _:Nat->Value,F47.k6c Q s.1 s.2.1 s.2.2.1 w
def F47.vc (x0:Option Addr) (x1:ByteArray) (x2:Int) (x3:Int) (w:World) (Q:QT):Prop :=
 Calls Tryz.prog 81 #[VP x0,VG x1] w fun e2 w1 =>
 ∃ (A3:Option Addr) (n4 c5:Nat),∃ i6:Int,e2=.returned (VT #[VS A3 n4 c5,VI .i64 i6])/\(
 vIf (i6 != 0)
 (Q (VT #[VS none 0 0,VI .i64 i6]) w1)
 (vIf (decide (x2 < 0))
 (Q (VT #[VS none 0 0,VI .i64 20]) w1)
 (vIf (decide (x3 < 0))
 (Q (VT #[VS none 0 0,VI .i64 20]) w1)
 (vIf (decide (x2 > (n4:Int)))
 (Q (VT #[VS none 0 0,VI .i64 20]) w1)
 (vIf (decide (x3 > (WR .i64 ((n4:Int) - x2))))
 (Q (VT #[VS none 0 0,VI .i64 20]) w1)
 (jnC (F47.k6 Q) (x2,x3,(A3,n4,c5),()) w1))))))
def F47.an:Ann:=⟨[],[(6,[(2,.kI .i64),(3,.kI .i64),(10,.kSl)])]⟩
theorem F47.of (x0:Option Addr) (x1:ByteArray) (x2:Int) (x3:Int) (w:World) {Q:QT} (h:F47.vc x0 x1 x2 x3 w Q):Calls Tryz.prog 47 #[VP x0,VG x1,VI .i64 x2,VI .i64 x3] w (fun e w'=>∃ v,e=.returned v/\Q v w'):=vcFn_of (A:=F47.an) noCount mixed h (by kernel_rfl)
def F48.k4c (Q:QT) (x0:Int) (x3:NT) (w:World):Prop :=
 gd (decide (0<=x0)) <|
 gd (decide (x0 < 4)) <|
 ldS w x3.1 (x3.2+(x0).toNat * 1) fun s4 =>
 Q (VG s4) w
def F48.k4 (Q:QT):(Int×NT×Unit)->WT:=fun s w=>∀ _:Nat->Value,F48.k4c Q s.1 s.2.1 w
def F48.vc (x0:Int) (w:World) (Q:QT):Prop :=
 nw w Z152 152 fun b1 w2 =>
 gd (([VG (⟨#[]⟩:ByteArray)] ++ ([VG (⟨#[115,101,103,45]⟩:ByteArray)] ++ ([VG (⟨#[104,105,110,116,45]⟩:ByteArray)] ++ ([VG (⟨#[112,111,105,110,116,45]⟩:ByteArray)] ++ [])))).length == 4) <|
 st w2 b1 0 ([VG (⟨#[]⟩:ByteArray)] ++ ([VG (⟨#[115,101,103,45]⟩:ByteArray)] ++ ([VG (⟨#[104,105,110,116,45]⟩:ByteArray)] ++ ([VG (⟨#[112,111,105,110,116,45]⟩:ByteArray)] ++ [])))) fun w3 =>
 vIf (decide (x0<=0))
 (Q (VG (⟨#[]⟩:ByteArray)) w3)
 (vIf (decide (x0 >= 4))
 (Q (VG (⟨#[]⟩:ByteArray)) w3)
 (jnC (F48.k4 Q) (x0,(b1,0),()) w3))
def F48.an:Ann:=⟨[],[(4,[(0,.kI .i64),(3,.kL)])]⟩
theorem F48.of (x0:Int) (w:World) {Q:QT} (h:F48.vc x0 w Q):Calls Tryz.prog 48 #[VI .i64 x0] w (fun e w'=>∃ v,e=.returned v/\Q v w'):=vcFn_of (A:=F48.an) noCount mixed h (by kernel_rfl)
def F51.vc (x0:ByteArray) (x1A:Option Addr) (x1n x1c:Nat) (w:World) (Q:QT):Prop :=
 vIf (decide ((WR .i64 ((x1n:Int) - 4)) < (x0.size:Int)))
 (nw w ([VS none 0 0] ++ ([VI .i64 0] ++ ([VI .i64 4] ++ []))) 166 fun b1 w2 =>
 Q (VP (some ⟨b1,0,none⟩)) w2)
 (gd (decide (0<=(WR .i64 ((x1n:Int) - 4)))) <|
 gd (decide ((WR .i64 ((x1n:Int) - 4))<=(x1c:Int))) <|
 Calls Tryz.prog 89 #[VS (slA x1A x1c 0 1) ((WR .i64 ((x1n:Int) - 4))).toNat x1c] w fun e4 w3 =>
 ∃ (A5:Option Addr) (n6 c7:Nat),e4=.returned (VS A5 n6 c7)/\(
 nw w3 ([VS A5 n6 c7] ++ ([VI .i64 (x0.size:Int)] ++ ([VI .i64 0] ++ []))) 166 fun b8 w9 =>
 Calls Tryz.prog 90 #[VS x1A x1n x1c,VI .i64 (WR .i64 ((x1n:Int) - 4)),VI .i64 4] w9 fun e11 w10 =>
 ∃ i12:Int,∃ t13:Bool,e11=.returned (VT #[VI .u64 i12,VB t13])/\(
 ldSl w10 b8 0 fun A14 n15 c16 =>
 Calls Tryz.prog 91 #[VS A14 n15 c16] w10 fun e18 w17 =>
 ∃ i19:Int,e18=.returned (VI .u32 i19)/\(
 vIf ((WR .u32 i12) != i19)
 (st w17 b8 (0+2) [VI .i64 5] fun w20 =>
 Q (VP (some ⟨b8,0,none⟩)) w20)
 (ldSl w17 b8 0 fun A21 n22 c23 =>
 b2s w17 A21 n22 fun s24 =>
 Calls Tryz.prog 84 #[VG s24,VG x0] w17 fun e26 w25 =>
 ∃ t27:Bool,e26=.returned (VB t27)/\(
 vIf (!t27)
 (st w25 b8 (0+2) [VI .i64 3] fun w28 =>
 Q (VP (some ⟨b8,0,none⟩)) w28)
 (Q (VP (some ⟨b8,0,none⟩)) w25)))))))
def F51.an:Ann:=⟨[],[]⟩
theorem F51.of (x0:ByteArray) (x1A:Option Addr) (x1n x1c:Nat) (w:World) {Q:QT} (h:F51.vc x0 x1A x1n x1c w Q):Calls Tryz.prog 51 #[VG x0,VS x1A x1n x1c] w (fun e w'=>∃ v,e=.returned v/\Q v w'):=vcFn_of (A:=F51.an) noCount mixed h (by kernel_rfl)
def F52.vc (x0:Option Addr) (x1:Int) (w:World) (Q:QT):Prop :=
 nw w [VP x0] 106 fun b1 w2 =>
 nw w2 [VI .i64 x1] 3 fun b3 w4 =>
 nw w4 [VI .i64 0] 3 fun b5 w6 =>
 st w6 b5 0 [VI .i64 0] fun w7 =>
 ldP w7 b1 0 fun p8 =>
 Calls Tryz.prog 92 #[VP p8,Value.func (.func 93) #[] #[VP (some ⟨b1,0,none⟩),VP (some ⟨b3,0,none⟩),VP (some ⟨b5,0,none⟩)]] w7 fun e10 w9 =>
 e10=.returned (VT #[])/\(
 ldI .i64 w9 b5 0 fun i11 =>
 Q (VI .i64 i11) w9)
def F52.an:Ann:=⟨[],[]⟩
theorem F52.of (x0:Option Addr) (x1:Int) (w:World) {Q:QT} (h:F52.vc x0 x1 w Q):Calls Tryz.prog 52 #[VP x0,VI .i64 x1] w (fun e w'=>∃ v,e=.returned v/\Q v w'):=vcFn_of (A:=F52.an) noCount mixed h (by kernel_rfl)
def F53.vc (x0:Option Addr) (w:World) (Q:QT):Prop :=
 nw w [VP x0] 106 fun b1 w2 =>
 nw w2 [VI .u64 0] 41 fun b3 w4 =>
 st w4 b3 0 [VI .u64 0] fun w5 =>
 ldP w5 b1 0 fun p6 =>
 Calls Tryz.prog 92 #[VP p6,Value.func (.func 95) #[] #[VP (some ⟨b1,0,none⟩),VP (some ⟨b3,0,none⟩)]] w5 fun e8 w7 =>
 e8=.returned (VT #[])/\(
 ldI .u64 w7 b3 0 fun i9 =>
 Q (VI .u64 i9) w7)
def F53.an:Ann:=⟨[],[]⟩
theorem F53.of (x0:Option Addr) (w:World) {Q:QT} (h:F53.vc x0 w Q):Calls Tryz.prog 53 #[VP x0] w (fun e w'=>∃ v,e=.returned v/\Q v w'):=vcFn_of (A:=F53.an) noCount mixed h (by kernel_rfl)
def F54.k10c (Q:QT) (x0:Option Addr) (x4:NT) (x5:NT) (w:World):Prop :=
 Calls Tryz.prog 52 #[VP x0,VI .i64 1048576] w fun e37 w36 =>
 ∃ i38:Int,e37=.returned (VI .i64 i38)/\(
 st w36 x5.1 ((x5.2+36)+1) [VI .i64 i38] fun w39 =>
 Calls Tryz.prog 52 #[VP x0,VI .i64 1048576] w39 fun e41 w40 =>
 ∃ i42:Int,e41=.returned (VI .i64 i42)/\(
 st w40 x5.1 ((x5.2+36)+2) [VI .i64 i42] fun w43 =>
 ldA 39 w43 x5.1 x5.2 fun a44 =>
 gd (a44.length == 39) <|
 st w43 x4.1 x4.2 a44 fun w45 =>
 ldA 39 w45 x4.1 x4.2 fun a46 =>
 Q (ofL a46) w45))
def F54.k10 (Q:QT):(Option Addr×NT×NT×Unit)->WT:=fun s w=>∀ _:Nat->Value,F54.k10c Q s.1 s.2.1 s.2.2.1 w
def F54.k8c (Q:QT) (x0:Option Addr) (x4:NT) (x5:NT) (x6:NT) (w:World):Prop :=
 ldB w x6.1 (x6.2+2) fun t31 =>
 vIf t31
 (Calls Tryz.prog 52 #[VP x0,VI .i64 1048576] w fun e33 w32 =>
 ∃ i34:Int,e33=.returned (VI .i64 i34)/\(
 st w32 x5.1 (x5.2+35) [VI .i64 i34] fun w35 =>
 jnC (F54.k10 Q) (x0,(x4.1,x4.2),(x5.1,x5.2),()) w35))
 (jnC (F54.k10 Q) (x0,(x4.1,x4.2),(x5.1,x5.2),()) w)
def F54.k8 (Q:QT):(Option Addr×NT×NT×NT×Unit)->WT:=fun s w=>∀ _:Nat->Value,F54.k8c Q s.1 s.2.1 s.2.2.1 s.2.2.2.1 w
def F54.k6c (Q:QT) (x0:Option Addr) (x4:NT) (x5:NT) (x6:NT) (w:World):Prop :=
 ldB w x6.1 (x6.2+1) fun t26 =>
 vIf t26
 (Calls Tryz.prog 98 #[VP x0] w fun e28 w27 =>
 ∃ s29:ByteArray,e28=.returned (VG s29)/\(
 st w27 x5.1 (x5.2+34) [VG s29] fun w30 =>
 jnC (F54.k8 Q) (x0,(x4.1,x4.2),(x5.1,x5.2),(x6.1,x6.2),()) w30))
 (jnC (F54.k8 Q) (x0,(x4.1,x4.2),(x5.1,x5.2),(x6.1,x6.2),()) w)
def F54.k6 (Q:QT):(Option Addr×NT×NT×NT×Unit)->WT:=fun s w=>∀ _:Nat->Value,F54.k6c Q s.1 s.2.1 s.2.2.1 s.2.2.2.1 w
def F54.vc (x0:Option Addr) (x1:Int) (w:World) (Q:QT):Prop :=
 nw w Z113 113 fun b1 w2 =>
 Calls Tryz.prog 52 #[VP x0,VI .i64 8] w2 fun e4 w3 =>
 ∃ i5:Int,e4=.returned (VI .i64 i5)/\(
 gd (([VI .i64 x1] ++ ([VI .i64 0] ++ ([VI .i64 0] ++ []))).length == 3) <|
 nw w3 Z113 113 fun b6 w7 =>
 gd (([VI .i64 i5] ++ ([VI .u64 0] ++ ([VI .u8 0,VI .u8 0,VI .u8 0,VI .u8 0,VI .u8 0,VI .u8 0,VI .u8 0,VI .u8 0,VI .u8 0,VI .u8 0,VI .u8 0,VI .u8 0,VI .u8 0,VI .u8 0,VI .u8 0,VI .u8 0,VI .u8 0,VI .u8 0,VI .u8 0,VI .u8 0,VI .u8 0,VI .u8 0,VI .u8 0,VI .u8 0,VI .u8 0,VI .u8 0,VI .u8 0,VI .u8 0,VI .u8 0,VI .u8 0,VI .u8 0,VI .u8 0] ++ ([VG (⟨#[]⟩:ByteArray)] ++ ([VI .i64 0] ++ (([VI .i64 x1] ++ ([VI .i64 0] ++ ([VI .i64 0] ++ []))) ++ [])))))).length == 39) <|
 st w7 b6 0 ([VI .i64 i5] ++ ([VI .u64 0] ++ ([VI .u8 0,VI .u8 0,VI .u8 0,VI .u8 0,VI .u8 0,VI .u8 0,VI .u8 0,VI .u8 0,VI .u8 0,VI .u8 0,VI .u8 0,VI .u8 0,VI .u8 0,VI .u8 0,VI .u8 0,VI .u8 0,VI .u8 0,VI .u8 0,VI .u8 0,VI .u8 0,VI .u8 0,VI .u8 0,VI .u8 0,VI .u8 0,VI .u8 0,VI .u8 0,VI .u8 0,VI .u8 0,VI .u8 0,VI .u8 0,VI .u8 0,VI .u8 0] ++ ([VG (⟨#[]⟩:ByteArray)] ++ ([VI .i64 0] ++ (([VI .i64 x1] ++ ([VI .i64 0] ++ ([VI .i64 0] ++ []))) ++ [])))))) fun w8 =>
 Calls Tryz.prog 53 #[VP x0] w8 fun e10 w9 =>
 ∃ i11:Int,e10=.returned (VI .u64 i11)/\(
 st w9 b6 (0+1) [VI .u64 i11] fun w12 =>
 ldI .i64 w12 b6 0 fun i13 =>
 Calls Tryz.prog 96 #[VI .i64 i13] w12 fun e15 w14 =>
 ∃ a16:List Value,∃ t17:Bool,e15=.returned (VT #[ofL a16,VB t17])/\(
 nw w14 [VB false,VB false,VB false] 177 fun b18 w19 =>
 gd (a16.length == 3) <|
 st w19 b18 0 a16 fun w20 =>
 ldB w20 b18 0 fun t21 =>
 vIf t21
 (Calls Tryz.prog 97 #[VP x0] w20 fun e23 w22 =>
 ∃ a24:List Value,e23=.returned (ofL a24)/\(
 gd (a24.length == 32) <|
 st w22 b6 (0+2) a24 fun w25 =>
 jnC (F54.k6 Q) (x0,(b1,0),(b6,0),(b18,0),()) w25))
 (jnC (F54.k6 Q) (x0,(b1,0),(b6,0),(b18,0),()) w20))))
def F54.an:Ann:=⟨[],[(6,[(0,.kP),(4,.kL),(5,.kL),(6,.kL)]),(8,[(0,.kP),(4,.kL),(5,.kL),(6,.kL)]),(10,[(0,.kP),(4,.kL),(5,.kL)])]⟩
theorem F54.of (x0:Option Addr) (x1:Int) (w:World) {Q:QT} (h:F54.vc x0 x1 w Q):Calls Tryz.prog 54 #[VP x0,VI .i64 x1] w (fun e w'=>∃ v,e=.returned v/\Q v w'):=vcFn_of (A:=F54.an) noCount mixed h (by kernel_rfl)
def F55.vc (x0:Option Addr) (w:World) (Q:QT):Prop :=
 vIf x0.isNone
 (Q (VI .i64 1) w)
 (dr x0 fun b1 o2 =>
 ldI .i64 w b1 (o2+2) fun i3 =>
 vIf (i3 != 0)
 (dr x0 fun b4 o5 =>
 ldI .i64 w b4 (o5+2) fun i6 =>
 Q (VI .i64 i6) w)
 (dr x0 fun b7 o8 =>
 ldI .i64 w.drew b7 (o8+1) fun i9 =>
 dr x0 fun b10 o11 =>
 ldSl w.drew b10 o11 fun A12 n13 c14 =>
 vIf (i9 != (n13:Int))
 (Q (VI .i64 3) w.drew)
 (Q (VI .i64 0) w.drew)))
def F55.an:Ann:=⟨[],[]⟩
theorem F55.of (x0:Option Addr) (w:World) {Q:QT} (h:F55.vc x0 w Q):Calls Tryz.prog 55 #[VP x0] w (fun e w'=>∃ v,e=.returned v/\Q v w'):=vcFn_of (A:=F55.an) noCount mixed h (by kernel_rfl)
def F56.b2c (Q:QT) (C2:(Int×ST×Int×Int×Unit)->WT) (x1:Int) (x7:ST) (x8:Int) (x9:Int) (w:World):Prop :=
 vIf (decide (x9 < x8))
 (dr x7.1 fun b1 o2 =>
 gd (decide (0<=x9)) <|
 gd (decide (x9 < (x7.2.1:Int))) <|
 ldA 39 w b1 (o2+(x9).toNat * 39) fun a3 =>
 nw w Z113 113 fun b4 w5 =>
 gd (a3.length == 39) <|
 st w5 b4 0 a3 fun w6 =>
 ldA 39 w6 b4 0 fun a7 =>
 Calls Tryz.prog 99 #[ofL a7,VI .i64 x1] w6 fun e9 w8 =>
 ∃ t10:Bool,e9=.returned (VB t10)/\(
 vIf (!t10)
 (Q (VB false) w8)
 (jnC C2 (x1,(x7.1,x7.2.1,x7.2.2),x8,((WR .i64 (x9+1))),()) w8)))
 (Q (VB true) w)
def F56.b2 (Q:QT):(Int×ST×Int×Int×Unit)->World->((Int×ST×Int×Int×Unit)->WT)->Prop:=fun s w C2=>∀ _:Nat->Value,F56.b2c Q C2 s.1 s.2.1 s.2.2.1 s.2.2.2.1 w
def F56.l2 (Q:QT):(Int×ST×Int×Int×Unit)->WT:=fun s w=>∃ n,loopC (F56.b2 Q) n s w
def F56.vc (x0A:Option Addr) (x0n x0c:Nat) (x1:Int) (w:World) (Q:QT):Prop :=
 jnC (F56.l2 Q) (x1,(x0A,x0n,x0c),((x0n:Int)),(0),()) w
def F56.an:Ann:=⟨[(2,[(1,.kI .i64),(7,.kSl),(8,.kI .i64),(9,.kI .i64)])],[]⟩
theorem F56.of (x0A:Option Addr) (x0n x0c:Nat) (x1:Int) (w:World) {Q:QT} (h:F56.vc x0A x0n x0c x1 w Q):Calls Tryz.prog 56 #[VS x0A x0n x0c,VI .i64 x1] w (fun e w'=>∃ v,e=.returned v/\Q v w'):=vcFn_of (A:=F56.an) noCount mixed h (by kernel_rfl)
def F57.k6c (Q:QT) (x4:NT) (x5:NT) (x6:Int) (w:World):Prop :=
 ldI .u64 w x5.1 (x5.2+1) fun i19 =>
 gd (([VS none 0 0] ++ ([VI .u64 i19] ++ ([VI .i64 x6] ++ ([VB false] ++ ([VI .i64 x6] ++ ([VI .i64 0] ++ [])))))).length == 6) <|
 st w x4.1 x4.2 ([VS none 0 0] ++ ([VI .u64 i19] ++ ([VI .i64 x6] ++ ([VB false] ++ ([VI .i64 x6] ++ ([VI .i64 0] ++ [])))))) fun w20 =>
 ldA 6 w20 x4.1 x4.2 fun a21 =>
 Q (ofL a21) w20
def F57.k6 (Q:QT):(NT×NT×Int×Unit)->WT:=fun s w=>∀ _:Nat->Value,F57.k6c Q s.1 s.2.1 s.2.2.1 w
def F57.vc (x0A:Option Addr) (x0n x0c:Nat) (x1:Int) (w:World) (Q:QT):Prop :=
 nw w Z43 43 fun b1 w2 =>
 Calls Tryz.prog 100 #[VS x0A x0n x0c,VI .i64 0] w2 fun e4 w3 =>
 ∃ a5:List Value,∃ i6:Int,∃ i7:Int,e4=.returned (VT #[ofL a5,VI .i64 i6,VI .i64 i7])/\(
 nw w3 Z92 92 fun b8 w9 =>
 gd (a5.length == 38) <|
 st w9 b8 0 a5 fun w10 =>
 vIf (i7 != 0)
 (gd (([VS none 0 0] ++ ([VI .u64 0] ++ ([VI .i64 0] ++ ([VB false] ++ ([VI .i64 0] ++ ([VI .i64 i7] ++ [])))))).length == 6) <|
 st w10 b1 0 ([VS none 0 0] ++ ([VI .u64 0] ++ ([VI .i64 0] ++ ([VB false] ++ ([VI .i64 0] ++ ([VI .i64 i7] ++ [])))))) fun w11 =>
 ldA 6 w11 b1 0 fun a12 =>
 Q (ofL a12) w11)
 (ldI .i64 w10 b8 0 fun i13 =>
 vIf (i13 != 7)
 (gd (([VS none 0 0] ++ ([VI .u64 0] ++ ([VI .i64 0] ++ ([VB false] ++ ([VI .i64 0] ++ ([VI .i64 3] ++ [])))))).length == 6) <|
 st w10 b1 0 ([VS none 0 0] ++ ([VI .u64 0] ++ ([VI .i64 0] ++ ([VB false] ++ ([VI .i64 0] ++ ([VI .i64 3] ++ [])))))) fun w14 =>
 ldA 6 w14 b1 0 fun a15 =>
 Q (ofL a15) w14)
 (ldI .i64 w10 b8 (0+36) fun i16 =>
 vIf (i16 != x1)
 (gd (([VS none 0 0] ++ ([VI .u64 0] ++ ([VI .i64 0] ++ ([VB false] ++ ([VI .i64 0] ++ ([VI .i64 3] ++ [])))))).length == 6) <|
 st w10 b1 0 ([VS none 0 0] ++ ([VI .u64 0] ++ ([VI .i64 0] ++ ([VB false] ++ ([VI .i64 0] ++ ([VI .i64 3] ++ [])))))) fun w17 =>
 ldA 6 w17 b1 0 fun a18 =>
 Q (ofL a18) w17)
 (jnC (F57.k6 Q) ((b1,0),(b8,0),i6,()) w10))))
def F57.an:Ann:=⟨[],[(6,[(4,.kL),(5,.kL),(6,.kI .i64)])]⟩
theorem F57.of (x0A:Option Addr) (x0n x0c:Nat) (x1:Int) (w:World) {Q:QT} (h:F57.vc x0A x0n x0c x1 w Q):Calls Tryz.prog 57 #[VS x0A x0n x0c,VI .i64 x1] w (fun e w'=>∃ v,e=.returned v/\Q v w'):=vcFn_of (A:=F57.an) noCount mixed h (by kernel_rfl)
def F58.vc (x0:Int) (x1:Nat×Nat) (w:World) (Q:QT):Prop :=
 nw w Z43 43 fun b1 w2 =>
 st w2 x1.1 (x1.2+5) [VI .i64 x0] fun w3 =>
 ldA 6 w3 x1.1 x1.2 fun a4 =>
 gd (a4.length == 6) <|
 st w3 b1 0 a4 fun w5 =>
 ldA 6 w5 b1 0 fun a6 =>
 Q (ofL a6) w5
def F58.an:Ann:=⟨[],[]⟩
theorem F58.of (x0:Int) (x1:Nat×Nat) (w:World) {Q:QT} (h:F58.vc x0 x1 w Q):Calls Tryz.prog 58 #[VI .i64 x0,VP (some ⟨x1.1,x1.2,none⟩)] w (fun e w'=>∃ v,e=.returned v/\Q v w'):=vcFn_of (A:=F58.an) noCount mixed h (by kernel_rfl)
def F59.k7c (Q:QT) (x2:NT) (x4:NT) (x6:NT) (x7:Int) (w:World):Prop :=
 ldI .u64 w x6.1 (x6.2+1) fun i23 =>
 st w x2.1 (x2.2+1) [VI .u64 i23] fun w24 =>
 st w24 x2.1 (x2.2+2) [VI .i64 x7] fun w25 =>
 st w25 x2.1 (x2.2+4) [VI .i64 x7] fun w26 =>
 st w26 x2.1 (x2.2+3) [VB true] fun w27 =>
 ldA 6 w27 x2.1 x2.2 fun a28 =>
 gd (a28.length == 6) <|
 st w27 x4.1 x4.2 a28 fun w29 =>
 ldA 6 w29 x4.1 x4.2 fun a30 =>
 Q (VT #[ofL a30,VB true]) w29
def F59.k7 (Q:QT):(NT×NT×NT×Int×Unit)->WT:=fun s w=>∀ _:Nat->Value,F59.k7c Q s.1 s.2.1 s.2.2.1 s.2.2.2.1 w
def F59.k5c (Q:QT) (x2:NT) (x4:NT) (x6:NT) (x7:Int) (x50:Bool) (w:World):Prop :=
 vIf x50
 (st w x2.1 (x2.2+5) [VI .i64 3] fun w19 =>
 ldA 6 w19 x2.1 x2.2 fun a20 =>
 gd (a20.length == 6) <|
 st w19 x4.1 x4.2 a20 fun w21 =>
 ldA 6 w21 x4.1 x4.2 fun a22 =>
 Q (VT #[ofL a22,VB true]) w21)
 (jnC (F59.k7 Q) ((x2.1,x2.2),(x4.1,x4.2),(x6.1,x6.2),x7,()) w)
def F59.k5 (Q:QT):(NT×NT×NT×Int×Bool×Unit)->WT:=fun s w=>∀ _:Nat->Value,F59.k5c Q s.1 s.2.1 s.2.2.1 s.2.2.2.1 s.2.2.2.2.1 w
def F59.k4c (Q:QT) (x1:ST) (x2:NT) (x4:NT) (x6:NT) (x7:Int) (w:World):Prop :=
 ldI .u64 w x6.1 (x6.2+1) fun i17 =>
 ldI .u64 w x2.1 (x2.2+1) fun i18 =>
 vIf (decide (i17<=i18))
 (jnC (F59.k5 Q) ((x2.1,x2.2),(x4.1,x4.2),(x6.1,x6.2),x7,true,()) w)
 (ldI .i64 w x6.1 (x6.2+36) fun i31 =>
 ldSl w x2.1 x2.2 fun A32 n33 c34 =>
 vIf (i31 != (n33:Int))
 (jnC (F59.k5 Q) ((x2.1,x2.2),(x4.1,x4.2),(x6.1,x6.2),x7,true,()) w)
 (ldI .i64 w x6.1 (x6.2+37) fun i35 =>
 ldI .i64 w x2.1 (x2.2+2) fun i36 =>
 vIf (i35 != i36)
 (jnC (F59.k5 Q) ((x2.1,x2.2),(x4.1,x4.2),(x6.1,x6.2),x7,true,()) w)
 (jnC (F59.k5 Q) ((x2.1,x2.2),(x4.1,x4.2),(x6.1,x6.2),x7,(x7 != (x1.2.1:Int)),()) w)))
def F59.k4 (Q:QT):(ST×NT×NT×NT×Int×Unit)->WT:=fun s w=>∀ _:Nat->Value,F59.k4c Q s.1 s.2.1 s.2.2.1 s.2.2.2.1 s.2.2.2.2.1 w
def F59.k3c (Q:QT) (x1:ST) (x2:NT) (x4:NT) (x6:NT) (x7:Int) (x23:Bool) (w:World):Prop :=
 vIf x23
 (ldA 6 w x2.1 x2.2 fun a14 =>
 gd (a14.length == 6) <|
 st w x4.1 x4.2 a14 fun w15 =>
 ldA 6 w15 x4.1 x4.2 fun a16 =>
 Q (VT #[ofL a16,VB false]) w15)
 (jnC (F59.k4 Q) ((x1.1,x1.2.1,x1.2.2),(x2.1,x2.2),(x4.1,x4.2),(x6.1,x6.2),x7,()) w)
def F59.k3 (Q:QT):(ST×NT×NT×NT×Int×Bool×Unit)->WT:=fun s w=>∀ _:Nat->Value,F59.k3c Q s.1 s.2.1 s.2.2.1 s.2.2.2.1 s.2.2.2.2.1 s.2.2.2.2.2.1 w
def F59.vc (x0:List Value) (x1A:Option Addr) (x1n x1c:Nat) (w:World) (Q:QT):Prop :=
 nw w x0 43 fun b1 w2 =>
 nw w2 Z43 43 fun b3 w4 =>
 ldI .i64 w4 b1 (0+2) fun i5 =>
 Calls Tryz.prog 100 #[VS x1A x1n x1c,VI .i64 i5] w4 fun e7 w6 =>
 ∃ a8:List Value,∃ i9:Int,∃ i10:Int,e7=.returned (VT #[ofL a8,VI .i64 i9,VI .i64 i10])/\(
 nw w6 Z92 92 fun b11 w12 =>
 gd (a8.length == 38) <|
 st w12 b11 0 a8 fun w13 =>
 vIf (i10 != 0)
 (jnC (F59.k3 Q) ((x1A,x1n,x1c),(b1,0),(b3,0),(b11,0),i9,true,()) w13)
 (ldI .i64 w13 b11 0 fun i37 =>
 jnC (F59.k3 Q) ((x1A,x1n,x1c),(b1,0),(b3,0),(b11,0),i9,(i37 != 8),()) w13))
def F59.an:Ann:=⟨[],[(3,[(1,.kSl),(2,.kL),(4,.kL),(6,.kL),(7,.kI .i64),(23,.kB)]),(4,[(1,.kSl),(2,.kL),(4,.kL),(6,.kL),(7,.kI .i64)]),(5,[(2,.kL),(4,.kL),(6,.kL),(7,.kI .i64),(50,.kB)]),(7,[(2,.kL),(4,.kL),(6,.kL),(7,.kI .i64)])]⟩
theorem F59.of (x0:List Value) (x1A:Option Addr) (x1n x1c:Nat) (w:World) {Q:QT} (h:F59.vc x0 x1A x1n x1c w Q):Calls Tryz.prog 59 #[ofL x0,VS x1A x1n x1c] w (fun e w'=>∃ v,e=.returned v/\Q v w'):=vcFn_of (A:=F59.an) noCount mixed h (by kernel_rfl)
def F60.k15c (Q:QT) (x13:Int) (w:World):Prop :=
 Q (VT #[VS none 0 0,VI .i64 0,VI .u64 0,VI .i64 x13]) w
def F60.k15 (Q:QT):(Int×Unit)->WT:=fun s w=>∀ _:Nat->Value,F60.k15c Q s.1 w
def F60.k14c (Q:QT) (C4:(ST×Int×Int×ST×Int×Int×Int×Unit)->WT) (x10:ST) (x14:NT) (x15:Int) (w:World):Prop :=
 ldI .u64 w.drew x14.1 (x14.2+1) fun i33 =>
 Q (VT #[VS x10.1 x10.2.1 x10.2.2,VI .i64 x15,VI .u64 i33,VI .i64 0]) w.drew
def F60.k14 (Q:QT) (C4:(ST×Int×Int×ST×Int×Int×Int×Unit)->WT):(ST×NT×Int×Unit)->WT:=fun s w=>∀ _:Nat->Value,F60.k14c Q C4 s.1 s.2.1 s.2.2.1 w
def F60.b4c (Q:QT) (C4:(ST×Int×Int×ST×Int×Int×Int×Unit)->WT) (x0:ST) (x1:Int) (x2:Int) (x10:ST) (x11:Int) (x12:Int) (x13:Int) (w:World):Prop :=
 Calls Tryz.prog 100 #[VS x0.1 x0.2.1 x0.2.2,VI .i64 x1] w fun e2 w1 =>
 ∃ a3:List Value,∃ i4:Int,∃ i5:Int,e2=.returned (VT #[ofL a3,VI .i64 i4,VI .i64 i5])/\(
 nw w1 Z92 92 fun b6 w7 =>
 gd (a3.length == 38) <|
 st w7 b6 0 a3 fun w8 =>
 vIf (i5 != 0)
 (jnC (F60.k15 Q) (i5,()) w8)
 (vIf ((x10.2.1:Int) == 0)
 (ldI .i64 w8 b6 0 fun i9 =>
 Calls Tryz.prog 101 #[VI .i64 i9] w8 fun e11 w10 =>
 ∃ t12:Bool,e11=.returned (VB t12)/\(
 vIf (!t12)
 (jnC (F60.k15 Q) (x13,()) w10)
 (vIf (!((x10.2.1:Int) == 0))
 (ldI .u64 w10 b6 (0+1) fun i13 =>
 vIf (i13 == 0)
 (jnC (F60.k15 Q) (x13,()) w10)
 (ldI .u64 w10 b6 (0+1) fun i14 =>
 vIf ((WR .u64 (i14 - 1)) != x12)
 (jnC (F60.k15 Q) (x13,()) w10)
 (ldI .i64 w10 b6 0 fun i15 =>
 Calls Tryz.prog 101 #[VI .i64 i15] w10 fun e17 w16 =>
 ∃ t18:Bool,e17=.returned (VB t18)/\(
 vIf t18
 (ldA 38 w16 b6 0 fun a19 =>
 Calls Tryz.prog 102 #[ofL a19,ofL ([VI .i64 x2] ++ ([VI .i64 x1] ++ ([VI .i64 (WR .i64 (i4 - x1))] ++ [])))] w16 fun e21 w20 =>
 ∃ a22:List Value,e21=.returned (ofL a22)/\(
 gd (a22.length == 39) <|
 nw w20 (a22 ++ []) 113 fun b23 w24 =>
 app w24 39 96 Z113 113 x10.1 x10.2.1 x10.2.2 (VS (some ⟨b23,0,none⟩) 1 1) fun A25 n26 c27 w28 =>
 ldI .u64 w28 b6 (0+1) fun i29 =>
 jnC C4 ((x0.1,x0.2.1,x0.2.2),i4,x2,(A25,n26,c27),x11,i29,x13,()) w28))
 (ldI .i64 w16 b6 0 fun i30 =>
 vIf (i30 != 6)
 (jnC (F60.k15 Q) (x13,()) w16)
 (ldI .i64 w16 b6 (0+36) fun i31 =>
 vIf (i31 != (x10.2.1:Int))
 (jnC (F60.k15 Q) (x13,()) w16)
 (ldI .i64 w16 b6 (0+37) fun i32 =>
 vIf (i32 != (WR .i64 (x1 - x11)))
 (jnC (F60.k15 Q) (x13,()) w16)
 (jnC (F60.k14 Q C4) ((x10.1,x10.2.1,x10.2.2),(b6,0),i4,()) w16))))))))
 (ldI .i64 w10 b6 0 fun i34 =>
 Calls Tryz.prog 101 #[VI .i64 i34] w10 fun e36 w35 =>
 ∃ t37:Bool,e36=.returned (VB t37)/\(
 vIf t37
 (ldA 38 w35 b6 0 fun a38 =>
 Calls Tryz.prog 102 #[ofL a38,ofL ([VI .i64 x2] ++ ([VI .i64 x1] ++ ([VI .i64 (WR .i64 (i4 - x1))] ++ [])))] w35 fun e40 w39 =>
 ∃ a41:List Value,e40=.returned (ofL a41)/\(
 gd (a41.length == 39) <|
 nw w39 (a41 ++ []) 113 fun b42 w43 =>
 app w43 39 96 Z113 113 x10.1 x10.2.1 x10.2.2 (VS (some ⟨b42,0,none⟩) 1 1) fun A44 n45 c46 w47 =>
 ldI .u64 w47 b6 (0+1) fun i48 =>
 jnC C4 ((x0.1,x0.2.1,x0.2.2),i4,x2,(A44,n45,c46),x11,i48,x13,()) w47))
 (ldI .i64 w35 b6 0 fun i49 =>
 vIf (i49 != 6)
 (jnC (F60.k15 Q) (x13,()) w35)
 (ldI .i64 w35 b6 (0+36) fun i50 =>
 vIf (i50 != (x10.2.1:Int))
 (jnC (F60.k15 Q) (x13,()) w35)
 (ldI .i64 w35 b6 (0+37) fun i51 =>
 vIf (i51 != (WR .i64 (x1 - x11)))
 (jnC (F60.k15 Q) (x13,()) w35)
 (jnC (F60.k14 Q C4) ((x10.1,x10.2.1,x10.2.2),(b6,0),i4,()) w35)))))))))
 (vIf (!((x10.2.1:Int) == 0))
 (ldI .u64 w8 b6 (0+1) fun i52 =>
 vIf (i52 == 0)
 (jnC (F60.k15 Q) (x13,()) w8)
 (ldI .u64 w8 b6 (0+1) fun i53 =>
 vIf ((WR .u64 (i53 - 1)) != x12)
 (jnC (F60.k15 Q) (x13,()) w8)
 (ldI .i64 w8 b6 0 fun i54 =>
 Calls Tryz.prog 101 #[VI .i64 i54] w8 fun e56 w55 =>
 ∃ t57:Bool,e56=.returned (VB t57)/\(
 vIf t57
 (ldA 38 w55 b6 0 fun a58 =>
 Calls Tryz.prog 102 #[ofL a58,ofL ([VI .i64 x2] ++ ([VI .i64 x1] ++ ([VI .i64 (WR .i64 (i4 - x1))] ++ [])))] w55 fun e60 w59 =>
 ∃ a61:List Value,e60=.returned (ofL a61)/\(
 gd (a61.length == 39) <|
 nw w59 (a61 ++ []) 113 fun b62 w63 =>
 app w63 39 96 Z113 113 x10.1 x10.2.1 x10.2.2 (VS (some ⟨b62,0,none⟩) 1 1) fun A64 n65 c66 w67 =>
 ldI .u64 w67 b6 (0+1) fun i68 =>
 jnC C4 ((x0.1,x0.2.1,x0.2.2),i4,x2,(A64,n65,c66),x11,i68,x13,()) w67))
 (ldI .i64 w55 b6 0 fun i69 =>
 vIf (i69 != 6)
 (jnC (F60.k15 Q) (x13,()) w55)
 (ldI .i64 w55 b6 (0+36) fun i70 =>
 vIf (i70 != (x10.2.1:Int))
 (jnC (F60.k15 Q) (x13,()) w55)
 (ldI .i64 w55 b6 (0+37) fun i71 =>
 vIf (i71 != (WR .i64 (x1 - x11)))
 (jnC (F60.k15 Q) (x13,()) w55)
 (jnC (F60.k14 Q C4) ((x10.1,x10.2.1,x10.2.2),(b6,0),i4,()) w55))))))))
 (ldI .i64 w8 b6 0 fun i72 =>
 Calls Tryz.prog 101 #[VI .i64 i72] w8 fun e74 w73 =>
 ∃ t75:Bool,e74=.returned (VB t75)/\(
 vIf t75
 (ldA 38 w73 b6 0 fun a76 =>
 Calls Tryz.prog 102 #[ofL a76,ofL ([VI .i64 x2] ++ ([VI .i64 x1] ++ ([VI .i64 (WR .i64 (i4 - x1))] ++ [])))] w73 fun e78 w77 =>
 ∃ a79:List Value,e78=.returned (ofL a79)/\(
 gd (a79.length == 39) <|
 nw w77 (a79 ++ []) 113 fun b80 w81 =>
 app w81 39 96 Z113 113 x10.1 x10.2.1 x10.2.2 (VS (some ⟨b80,0,none⟩) 1 1) fun A82 n83 c84 w85 =>
 ldI .u64 w85 b6 (0+1) fun i86 =>
 jnC C4 ((x0.1,x0.2.1,x0.2.2),i4,x2,(A82,n83,c84),x11,i86,x13,()) w85))
 (ldI .i64 w73 b6 0 fun i87 =>
 vIf (i87 != 6)
 (jnC (F60.k15 Q) (x13,()) w73)
 (ldI .i64 w73 b6 (0+36) fun i88 =>
 vIf (i88 != (x10.2.1:Int))
 (jnC (F60.k15 Q) (x13,()) w73)
 (ldI .i64 w73 b6 (0+37) fun i89 =>
 vIf (i89 != (WR .i64 (x1 - x11)))
 (jnC (F60.k15 Q) (x13,()) w73)
 (jnC (F60.k14 Q C4) ((x10.1,x10.2.1,x10.2.2),(b6,0),i4,()) w73)))))))))
def F60.b4 (Q:QT):(ST×Int×Int×ST×Int×Int×Int×Unit)->World->((ST×Int×Int×ST×Int×Int×Int×Unit)->WT)->Prop:=fun s w C4=>∀ _:Nat->Value,F60.b4c Q C4 s.1 s.2.1 s.2.2.1 s.2.2.2.1 s.2.2.2.2.1 s.2.2.2.2.2.1 s.2.2.2.2.2.2.1 w
def F60.l4 (Q:QT):(ST×Int×Int×ST×Int×Int×Int×Unit)->WT:=fun s w=>∃ n,loopC (F60.b4 Q) n s w
def F60.vc (x0A:Option Addr) (x0n x0c:Nat) (x1:Int) (x2:Int) (w:World) (Q:QT):Prop :=
 jnC (F60.l4 Q) ((x0A,x0n,x0c),x1,x2,(none,0,0),x1,(0),(3),()) w
def F60.an:Ann:=⟨[(4,[(0,.kSl),(1,.kI .i64),(2,.kI .i64),(10,.kSl),(11,.kI .i64),(12,.kI .u64),(13,.kI .i64)])],[(14,[(10,.kSl),(14,.kL),(15,.kI .i64)]),(15,[(13,.kI .i64)])]⟩
theorem F60.of (x0A:Option Addr) (x0n x0c:Nat) (x1:Int) (x2:Int) (w:World) {Q:QT} (h:F60.vc x0A x0n x0c x1 x2 w Q):Calls Tryz.prog 60 #[VS x0A x0n x0c,VI .i64 x1,VI .i64 x2] w (fun e w'=>∃ v,e=.returned v/\Q v w'):=vcFn_of (A:=F60.an) noCount mixed h (by kernel_rfl)
def F61.b2c (Q:QT) (C2:(Option Addr×Int×NT×Int×Unit)->WT) (x0:Option Addr) (x1:Int) (x4:NT) (x5:Int) (w:World):Prop :=
 dr x0 fun b3 o4 =>
 ldSl w b3 (o4+4) fun A5 n6 c7 =>
 vIf (decide (x5 < (n6:Int)))
 (dr x0 fun b8 o9 =>
 ldSl w b8 (o9+4) fun A10 n11 c12 =>
 dr A10 fun b13 o14 =>
 gd (decide (0<=x5)) <|
 gd (decide (x5 < (n11:Int))) <|
 ldI .i64 w b13 (o14+(x5).toNat * 3) fun i15 =>
 vIf (i15 == x1)
 (dr x0 fun b16 o17 =>
 ldSl w b16 (o17+4) fun A18 n19 c20 =>
 dr A18 fun b21 o22 =>
 gd (decide (0<=x5)) <|
 gd (decide (x5 < (n19:Int))) <|
 ldA 2 w b21 ((o22+(x5).toNat * 3)+1) fun a23 =>
 gd (a23.length == 2) <|
 st w x4.1 x4.2 a23 fun w24 =>
 ldA 2 w24 x4.1 x4.2 fun a25 =>
 Q (ofL a25) w24)
 (jnC C2 (x0,x1,(x4.1,x4.2),((WR .i64 (x5+1))),()) w))
 (gd (([VS none 0 0] ++ ([VS none 0 0] ++ [])).length == 2) <|
 st w x4.1 x4.2 ([VS none 0 0] ++ ([VS none 0 0] ++ [])) fun w26 =>
 ldA 2 w26 x4.1 x4.2 fun a27 =>
 Q (ofL a27) w26)
def F61.b2 (Q:QT):(Option Addr×Int×NT×Int×Unit)->World->((Option Addr×Int×NT×Int×Unit)->WT)->Prop:=fun s w C2=>∀ _:Nat->Value,F61.b2c Q C2 s.1 s.2.1 s.2.2.1 s.2.2.2.1 w
def F61.l2 (Q:QT):(Option Addr×Int×NT×Int×Unit)->WT:=fun s w=>∃ n,loopC (F61.b2 Q) n s w
def F61.vc (x0:Option Addr) (x1:Int) (w:World) (Q:QT):Prop :=
 nw w [VS none 0 0,VS none 0 0] 65 fun b1 w2 =>
 jnC (F61.l2 Q) (x0,x1,(b1,0),(0),()) w2
def F61.an:Ann:=⟨[(2,[(0,.kP),(1,.kI .i64),(4,.kL),(5,.kI .i64)])],[]⟩
theorem F61.of (x0:Option Addr) (x1:Int) (w:World) {Q:QT} (h:F61.vc x0 x1 w Q):Calls Tryz.prog 61 #[VP x0,VI .i64 x1] w (fun e w'=>∃ v,e=.returned v/\Q v w'):=vcFn_of (A:=F61.an) noCount mixed h (by kernel_rfl)
def F62.b3c (Q:QT) (C3:(ST×ST×Int×Unit)->WT) (x1:ST) (x5:ST) (x6:Int) (w:World):Prop :=
 vIf (decide (x6 < (x1.2.1:Int)))
 (dr x1.1 fun b5 o6 =>
 gd (decide (0<=x6)) <|
 gd (decide (x6 < (x1.2.1:Int))) <|
 ldA 3 w.drew b5 (o6+(x6).toNat * 3) fun a7 =>
 dr x1.1 fun b8 o9 =>
 gd (decide (0<=x6)) <|
 gd (decide (x6 < (x1.2.1:Int))) <|
 ldSl w.drew b8 ((o9+(x6).toNat * 3)+2) fun A10 n11 c12 =>
 Calls Tryz.prog 103 #[VS x5.1 x5.2.1 x5.2.2,ofL a7,VI .i64 (n11:Int)] w.drew fun e14 w13 =>
 ∃ (A15:Option Addr) (n16 c17:Nat),e14=.returned (VS A15 n16 c17)/\(
 jnC C3 ((x1.1,x1.2.1,x1.2.2),(A15,n16,c17),((WR .i64 (x6+1))),()) w13))
 (Q (VS x5.1 x5.2.1 x5.2.2) w)
def F62.b3 (Q:QT):(ST×ST×Int×Unit)->World->((ST×ST×Int×Unit)->WT)->Prop:=fun s w C3=>∀ _:Nat->Value,F62.b3c Q C3 s.1 s.2.1 s.2.2.1 w
def F62.l3 (Q:QT):(ST×ST×Int×Unit)->WT:=fun s w=>∃ n,loopC (F62.b3 Q) n s w
def F62.vc (x0A:Option Addr) (x0n x0c:Nat) (x1A:Option Addr) (x1n x1c:Nat) (w:World) (Q:QT):Prop :=
 app w 1 1 [VI .u8 0] 5 none 0 0 (VS x0A x0n x0c) fun A1 n2 c3 w4 =>
 jnC (F62.l3 Q) ((x1A,x1n,x1c),(A1,n2,c3),(0),()) w4
def F62.an:Ann:=⟨[(3,[(1,.kSl),(5,.kSl),(6,.kI .i64)])],[]⟩
theorem F62.of (x0A:Option Addr) (x0n x0c:Nat) (x1A:Option Addr) (x1n x1c:Nat) (w:World) {Q:QT} (h:F62.vc x0A x0n x0c x1A x1n x1c w Q):Calls Tryz.prog 62 #[VS x0A x0n x0c,VS x1A x1n x1c] w (fun e w'=>∃ v,e=.returned v/\Q v w'):=vcFn_of (A:=F62.an) noCount mixed h (by kernel_rfl)
def F63.vc  (w:World) (Q:QT):Prop :=
 nw w ([VG (⟨#[]⟩:ByteArray)] ++ ([VG (⟨#[115,101,103,45]⟩:ByteArray)] ++ ([VG (⟨#[104,105,110,116,45]⟩:ByteArray)] ++ ([VG (⟨#[112,111,105,110,116,45]⟩:ByteArray)] ++ [])))) 9 fun b1 w2 =>
 Q (VS (some ⟨b1,0,none⟩) 4 4) w2
def F63.an:Ann:=⟨[],[]⟩
theorem F63.of  (w:World) {Q:QT} (h:F63.vc  w Q):Calls Tryz.prog 63 #[] w (fun e w'=>∃ v,e=.returned v/\Q v w'):=vcFn_of (A:=F63.an) noCount mixed h (by kernel_rfl)
def F64.vc (x0:ByteArray) (x1A:Option Addr) (x1n x1c:Nat) (w:World) (Q:QT):Prop :=
 nw w [VS none 0 0,VI .i64 0] 126 fun b1 w2 =>
 vIf (decide ((x1n:Int) < (WR .i64 ((x0.size:Int)+4))))
 (gd (([VS none 0 0] ++ ([VI .i64 4] ++ [])).length == 2) <|
 st w2 b1 0 ([VS none 0 0] ++ ([VI .i64 4] ++ [])) fun w3 =>
 ldA 2 w3 b1 0 fun a4 =>
 Q (ofL a4) w3)
 (gd (decide (0<=(WR .i64 ((x1n:Int) - 4)))) <|
 gd (decide ((WR .i64 ((x1n:Int) - 4))<=(x1c:Int))) <|
 gd (decide (0<=(WR .i64 ((x1n:Int) - 4)))) <|
 gd (decide ((WR .i64 ((x1n:Int) - 4))<=(x1n:Int))) <|
 Calls Tryz.prog 106 #[VS (slA x1A x1c 0 1) ((WR .i64 ((x1n:Int) - 4))).toNat x1c] w2.drew fun e6 w5 =>
 ∃ i7:Int,e6=.returned (VI .u32 i7)/\(
 Calls Tryz.prog 105 #[VS none 0 0,VI .u64 (WR .u64 i7),VI .i64 4] w5 fun e9 w8 =>
 ∃ (A10:Option Addr) (n11 c12:Nat),e9=.returned (VS A10 n11 c12)/\(
 Calls Tryz.prog 104 #[VS A10 n11 c12,VS (slA x1A x1c ((WR .i64 ((x1n:Int) - 4))).toNat 1) (x1n - ((WR .i64 ((x1n:Int) - 4))).toNat) (x1c - ((WR .i64 ((x1n:Int) - 4))).toNat)] w8 fun e14 w13 =>
 ∃ t15:Bool,e14=.returned (VB t15)/\(
 vIf (!t15)
 (gd (([VS none 0 0] ++ ([VI .i64 5] ++ [])).length == 2) <|
 st w13 b1 0 ([VS none 0 0] ++ ([VI .i64 5] ++ [])) fun w16 =>
 ldA 2 w16 b1 0 fun a17 =>
 Q (ofL a17) w16)
 (gd (decide (0<=(x0.size:Int))) <|
 gd (decide ((x0.size:Int)<=(x1c:Int))) <|
 b2s w13 (slA x1A x1c 0 1) (((x0.size:Int)).toNat) fun s18 =>
 vIf (!(s18.toList == x0.toList))
 (gd (([VS none 0 0] ++ ([VI .i64 3] ++ [])).length == 2) <|
 st w13 b1 0 ([VS none 0 0] ++ ([VI .i64 3] ++ [])) fun w19 =>
 ldA 2 w19 b1 0 fun a20 =>
 Q (ofL a20) w19)
 (gd (decide (0<=(WR .i64 ((x1n:Int) - 4)))) <|
 gd (decide ((WR .i64 ((x1n:Int) - 4))<=(x1c:Int))) <|
 gd (decide (0<=(x0.size:Int))) <|
 gd (decide ((x0.size:Int)<=((((WR .i64 ((x1n:Int) - 4))).toNat:Nat):Int))) <|
 gd (([VS (slA x1A x1c ((x0.size:Int)).toNat 1) (((WR .i64 ((x1n:Int) - 4))).toNat - ((x0.size:Int)).toNat) (x1c - ((x0.size:Int)).toNat)] ++ ([VI .i64 0] ++ [])).length == 2) <|
 st w13 b1 0 ([VS (slA x1A x1c ((x0.size:Int)).toNat 1) (((WR .i64 ((x1n:Int) - 4))).toNat - ((x0.size:Int)).toNat) (x1c - ((x0.size:Int)).toNat)] ++ ([VI .i64 0] ++ [])) fun w21 =>
 ldA 2 w21 b1 0 fun a22 =>
 Q (ofL a22) w21))))))
def F64.an:Ann:=⟨[],[]⟩
theorem F64.of (x0:ByteArray) (x1A:Option Addr) (x1n x1c:Nat) (w:World) {Q:QT} (h:F64.vc x0 x1A x1n x1c w Q):Calls Tryz.prog 64 #[VG x0,VS x1A x1n x1c] w (fun e w'=>∃ v,e=.returned v/\Q v w'):=vcFn_of (A:=F64.an) noCount mixed h (by kernel_rfl)
def F65.k13c (Q:QT) (x3:NT) (x6:NT) (x7:NT) (x8:NT) (x10:Int) (w:World):Prop :=
 ldA 36 w.drew x8.1 x8.2 fun a36 =>
 ldSl w.drew x3.1 x3.2 fun A37 n38 c39 =>
 gd (decide (0<=x10)) <|
 gd (decide (x10<=(n38:Int))) <|
 gd (a36.length == 36) <|
 st w.drew x6.1 x6.2 a36 fun w40 =>
 kp w.drew x3.1 x3.2 1 w40 <|
 gd (([VS (slA A37 c39 (x10).toNat 1) (n38 - (x10).toNat) (c39 - (x10).toNat)] ++ ([VI .i64 0] ++ [])).length == 2) <|
 st w40 x7.1 x7.2 ([VS (slA A37 c39 (x10).toNat 1) (n38 - (x10).toNat) (c39 - (x10).toNat)] ++ ([VI .i64 0] ++ [])) fun w41 =>
 ldA 36 w41 x6.1 x6.2 fun a42 =>
 ldA 2 w41 x7.1 x7.2 fun a43 =>
 Q (VT #[ofL a42,ofL a43]) w41
def F65.k13 (Q:QT):(NT×NT×NT×NT×Int×Unit)->WT:=fun s w=>∀ _:Nat->Value,F65.k13c Q s.1 s.2.1 s.2.2.1 s.2.2.2.1 s.2.2.2.2.1 w
def F65.k10c (Q:QT) (x1:Int) (x3:NT) (x6:NT) (x7:NT) (x8:NT) (x9:Int) (x10:Int) (w:World):Prop :=
 vIf (x1 == 0)
 (st w x8.1 (x8.2+1) [VI .i64 (WR .i64 x9)] fun w35 =>
 jnC (F65.k13 Q) ((x3.1,x3.2),(x6.1,x6.2),(x7.1,x7.2),(x8.1,x8.2),x10,()) w35)
 (st w x8.1 (x8.2+2) [VI .u64 x9] fun w44 =>
 jnC (F65.k13 Q) ((x3.1,x3.2),(x6.1,x6.2),(x7.1,x7.2),(x8.1,x8.2),x10,()) w44)
def F65.k10 (Q:QT):(Int×NT×NT×NT×NT×Int×Int×Unit)->WT:=fun s w=>∀ _:Nat->Value,F65.k10c Q s.1 s.2.1 s.2.2.1 s.2.2.2.1 s.2.2.2.2.1 s.2.2.2.2.2.1 s.2.2.2.2.2.2.1 w
def F65.k9c (Q:QT) (x1:Int) (x3:NT) (x6:NT) (x7:NT) (x8:NT) (x9:Int) (x10:Int) (x52:Bool) (w:World):Prop :=
 vIf x52
 (ldA 36 w x8.1 x8.2 fun a30 =>
 gd (a30.length == 36) <|
 st w x6.1 x6.2 a30 fun w31 =>
 gd (([VS none 0 0] ++ ([VI .i64 20] ++ [])).length == 2) <|
 st w31 x7.1 x7.2 ([VS none 0 0] ++ ([VI .i64 20] ++ [])) fun w32 =>
 ldA 36 w32 x6.1 x6.2 fun a33 =>
 ldA 2 w32 x7.1 x7.2 fun a34 =>
 Q (VT #[ofL a33,ofL a34]) w32)
 (jnC (F65.k10 Q) (x1,(x3.1,x3.2),(x6.1,x6.2),(x7.1,x7.2),(x8.1,x8.2),x9,x10,()) w)
def F65.k9 (Q:QT):(Int×NT×NT×NT×NT×Int×Int×Bool×Unit)->WT:=fun s w=>∀ _:Nat->Value,F65.k9c Q s.1 s.2.1 s.2.2.1 s.2.2.2.1 s.2.2.2.2.1 s.2.2.2.2.2.1 s.2.2.2.2.2.2.1 s.2.2.2.2.2.2.2.1 w
def F65.b23c (Q:QT) (C23:(NT×NT×NT×NT×Int×Unit)->WT) (x3:NT) (x6:NT) (x7:NT) (x8:NT) (x15:Int) (w:World):Prop :=
 vIf (decide (x15 < 32))
 (ldSl w x3.1 x3.2 fun A75 n76 c77 =>
 dr A75 fun b78 o79 =>
 gd (decide (0<=x15)) <|
 gd (decide (x15 < (n76:Int))) <|
 ldI .u8 w b78 (o79+(x15).toNat * 1) fun i80 =>
 gd (decide (0<=x15)) <|
 gd (decide (x15 < 32)) <|
 st w x8.1 ((x8.2+4)+(x15).toNat * 1) [VI .u8 i80] fun w81 =>
 jnC C23 ((x3.1,x3.2),(x6.1,x6.2),(x7.1,x7.2),(x8.1,x8.2),((WR .i64 (x15+1))),()) w81)
 (ldA 36 w.drew x8.1 x8.2 fun a82 =>
 ldSl w.drew x3.1 x3.2 fun A83 n84 c85 =>
 gd (decide ((32:Int)<=(n84:Int))) <|
 gd (a82.length == 36) <|
 st w.drew x6.1 x6.2 a82 fun w86 =>
 kp w.drew x3.1 x3.2 1 w86 <|
 gd (([VS (slA A83 c85 32 1) (n84 - 32) (c85 - 32)] ++ ([VI .i64 0] ++ [])).length == 2) <|
 st w86 x7.1 x7.2 ([VS (slA A83 c85 32 1) (n84 - 32) (c85 - 32)] ++ ([VI .i64 0] ++ [])) fun w87 =>
 ldA 36 w87 x6.1 x6.2 fun a88 =>
 ldA 2 w87 x7.1 x7.2 fun a89 =>
 Q (VT #[ofL a88,ofL a89]) w87)
def F65.b23 (Q:QT):(NT×NT×NT×NT×Int×Unit)->World->((NT×NT×NT×NT×Int×Unit)->WT)->Prop:=fun s w C23=>∀ _:Nat->Value,F65.b23c Q C23 s.1 s.2.1 s.2.2.1 s.2.2.2.1 s.2.2.2.2.1 w
def F65.l23 (Q:QT):(NT×NT×NT×NT×Int×Unit)->WT:=fun s w=>∃ n,loopC (F65.b23 Q) n s w
def F65.k14c (Q:QT) (x1:Int) (x3:NT) (x6:NT) (x7:NT) (x8:NT) (w:World):Prop :=
 vIf (x1 == 2)
 (ldSl w x3.1 x3.2 fun A45 n46 c47 =>
 Calls Tryz.prog 108 #[VS A45 n46 c47,VI .i64 0] w fun e49 w48 =>
 ∃ s50:ByteArray,∃ i51:Int,∃ t52:Bool,e49=.returned (VT #[VG s50,VI .i64 i51,VB t52])/\(
 vIf (!t52)
 (ldA 36 w48 x8.1 x8.2 fun a53 =>
 gd (a53.length == 36) <|
 st w48 x6.1 x6.2 a53 fun w54 =>
 gd (([VS none 0 0] ++ ([VI .i64 4] ++ [])).length == 2) <|
 st w54 x7.1 x7.2 ([VS none 0 0] ++ ([VI .i64 4] ++ [])) fun w55 =>
 ldA 36 w55 x6.1 x6.2 fun a56 =>
 ldA 2 w55 x7.1 x7.2 fun a57 =>
 Q (VT #[ofL a56,ofL a57]) w55)
 (st w48 x8.1 (x8.2+3) [VG s50] fun w58 =>
 ldA 36 w58.drew x8.1 x8.2 fun a59 =>
 ldSl w58.drew x3.1 x3.2 fun A60 n61 c62 =>
 gd (decide (0<=i51)) <|
 gd (decide (i51<=(n61:Int))) <|
 gd (a59.length == 36) <|
 st w58.drew x6.1 x6.2 a59 fun w63 =>
 kp w58.drew x3.1 x3.2 1 w63 <|
 gd (([VS (slA A60 c62 (i51).toNat 1) (n61 - (i51).toNat) (c62 - (i51).toNat)] ++ ([VI .i64 0] ++ [])).length == 2) <|
 st w63 x7.1 x7.2 ([VS (slA A60 c62 (i51).toNat 1) (n61 - (i51).toNat) (c62 - (i51).toNat)] ++ ([VI .i64 0] ++ [])) fun w64 =>
 ldA 36 w64 x6.1 x6.2 fun a65 =>
 ldA 2 w64 x7.1 x7.2 fun a66 =>
 Q (VT #[ofL a65,ofL a66]) w64)))
 (ldSl w x3.1 x3.2 fun A67 n68 c69 =>
 vIf (decide ((n68:Int) < 32))
 (ldA 36 w x8.1 x8.2 fun a70 =>
 gd (a70.length == 36) <|
 st w x6.1 x6.2 a70 fun w71 =>
 gd (([VS none 0 0] ++ ([VI .i64 4] ++ [])).length == 2) <|
 st w71 x7.1 x7.2 ([VS none 0 0] ++ ([VI .i64 4] ++ [])) fun w72 =>
 ldA 36 w72 x6.1 x6.2 fun a73 =>
 ldA 2 w72 x7.1 x7.2 fun a74 =>
 Q (VT #[ofL a73,ofL a74]) w72)
 (jnC (F65.l23 Q) ((x3.1,x3.2),(x6.1,x6.2),(x7.1,x7.2),(x8.1,x8.2),(0),()) w))
def F65.k14 (Q:QT):(Int×NT×NT×NT×NT×Unit)->WT:=fun s w=>∀ _:Nat->Value,F65.k14c Q s.1 s.2.1 s.2.2.1 s.2.2.2.1 s.2.2.2.2.1 w
def F65.k5c (Q:QT) (x1:Int) (x2:Int) (x3:NT) (x6:NT) (x7:NT) (x8:NT) (x28:Bool) (w:World):Prop :=
 vIf x28
 (ldSl w x3.1 x3.2 fun A17 n18 c19 =>
 Calls Tryz.prog 107 #[VS A17 n18 c19,VI .i64 0] w fun e21 w20 =>
 ∃ i22:Int,∃ i23:Int,∃ i24:Int,e21=.returned (VT #[VI .u64 i22,VI .i64 i23,VI .i64 i24])/\(
 vIf (i24 != 0)
 (ldA 36 w20 x8.1 x8.2 fun a25 =>
 gd (a25.length == 36) <|
 st w20 x6.1 x6.2 a25 fun w26 =>
 gd (([VS none 0 0] ++ ([VI .i64 i24] ++ [])).length == 2) <|
 st w26 x7.1 x7.2 ([VS none 0 0] ++ ([VI .i64 i24] ++ [])) fun w27 =>
 ldA 36 w27 x6.1 x6.2 fun a28 =>
 ldA 2 w27 x7.1 x7.2 fun a29 =>
 Q (VT #[ofL a28,ofL a29]) w27)
 (vIf (x1 == 0)
 (vIf (decide (x2 < 0))
 (jnC (F65.k9 Q) (x1,(x3.1,x3.2),(x6.1,x6.2),(x7.1,x7.2),(x8.1,x8.2),i22,i23,true,()) w20)
 (jnC (F65.k9 Q) (x1,(x3.1,x3.2),(x6.1,x6.2),(x7.1,x7.2),(x8.1,x8.2),i22,i23,(decide (i22 > (WR .u64 x2))),()) w20))
 (jnC (F65.k9 Q) (x1,(x3.1,x3.2),(x6.1,x6.2),(x7.1,x7.2),(x8.1,x8.2),i22,i23,false,()) w20))))
 (jnC (F65.k14 Q) (x1,(x3.1,x3.2),(x6.1,x6.2),(x7.1,x7.2),(x8.1,x8.2),()) w)
def F65.k5 (Q:QT):(Int×Int×NT×NT×NT×NT×Bool×Unit)->WT:=fun s w=>∀ _:Nat->Value,F65.k5c Q s.1 s.2.1 s.2.2.1 s.2.2.2.1 s.2.2.2.2.1 s.2.2.2.2.2.1 s.2.2.2.2.2.2.1 w
def F65.vc (x0:List Value) (x1:Int) (x2:Int) (w:World) (Q:QT):Prop :=
 nw w x0 126 fun b1 w2 =>
 nw w2 Z129 129 fun b3 w4 =>
 nw w4 [VS none 0 0,VI .i64 0] 126 fun b5 w6 =>
 nw w6 Z129 129 fun b7 w8 =>
 gd (([VI .i64 x1] ++ ([VI .i64 0] ++ ([VI .u64 0] ++ ([VG (⟨#[]⟩:ByteArray)] ++ ([VI .u8 0,VI .u8 0,VI .u8 0,VI .u8 0,VI .u8 0,VI .u8 0,VI .u8 0,VI .u8 0,VI .u8 0,VI .u8 0,VI .u8 0,VI .u8 0,VI .u8 0,VI .u8 0,VI .u8 0,VI .u8 0,VI .u8 0,VI .u8 0,VI .u8 0,VI .u8 0,VI .u8 0,VI .u8 0,VI .u8 0,VI .u8 0,VI .u8 0,VI .u8 0,VI .u8 0,VI .u8 0,VI .u8 0,VI .u8 0,VI .u8 0,VI .u8 0] ++ []))))).length == 36) <|
 st w8 b7 0 ([VI .i64 x1] ++ ([VI .i64 0] ++ ([VI .u64 0] ++ ([VG (⟨#[]⟩:ByteArray)] ++ ([VI .u8 0,VI .u8 0,VI .u8 0,VI .u8 0,VI .u8 0,VI .u8 0,VI .u8 0,VI .u8 0,VI .u8 0,VI .u8 0,VI .u8 0,VI .u8 0,VI .u8 0,VI .u8 0,VI .u8 0,VI .u8 0,VI .u8 0,VI .u8 0,VI .u8 0,VI .u8 0,VI .u8 0,VI .u8 0,VI .u8 0,VI .u8 0,VI .u8 0,VI .u8 0,VI .u8 0,VI .u8 0,VI .u8 0,VI .u8 0,VI .u8 0,VI .u8 0] ++ []))))) fun w9 =>
 ldI .i64 w9 b1 (0+1) fun i10 =>
 vIf (i10 != 0)
 (ldA 36 w9.drew b7 0 fun a11 =>
 ldA 2 w9.drew b1 0 fun a12 =>
 gd (a11.length == 36) <|
 st w9.drew b3 0 a11 fun w13 =>
 kp w9.drew b1 0 2 w13 <|
 gd (a12.length == 2) <|
 st w13 b5 0 a12 fun w14 =>
 ldA 36 w14 b3 0 fun a15 =>
 ldA 2 w14 b5 0 fun a16 =>
 Q (VT #[ofL a15,ofL a16]) w14)
 (vIf (x1 == 0)
 (jnC (F65.k5 Q) (x1,x2,(b1,0),(b3,0),(b5,0),(b7,0),true,()) w9)
 (jnC (F65.k5 Q) (x1,x2,(b1,0),(b3,0),(b5,0),(b7,0),(x1 == 1),()) w9))
def F65.an:Ann:=⟨[(23,[(3,.kL),(6,.kL),(7,.kL),(8,.kL),(15,.kI .i64)])],[(5,[(1,.kI .i64),(2,.kI .i64),(3,.kL),(6,.kL),(7,.kL),(8,.kL),(28,.kB)]),(9,[(1,.kI .i64),(3,.kL),(6,.kL),(7,.kL),(8,.kL),(9,.kI .u64),(10,.kI .i64),(52,.kB)]),(10,[(1,.kI .i64),(3,.kL),(6,.kL),(7,.kL),(8,.kL),(9,.kI .u64),(10,.kI .i64)]),(13,[(3,.kL),(6,.kL),(7,.kL),(8,.kL),(10,.kI .i64)]),(14,[(1,.kI .i64),(3,.kL),(6,.kL),(7,.kL),(8,.kL)])]⟩
theorem F65.of (x0:List Value) (x1:Int) (x2:Int) (w:World) {Q:QT} (h:F65.vc x0 x1 x2 w Q):Calls Tryz.prog 65 #[ofL x0,VI .i64 x1,VI .i64 x2] w (fun e w'=>∃ v,e=.returned v/\Q v w'):=vcFn_of (A:=F65.an) noCount mixed h (by kernel_rfl)
def F66.vc (x0:Int) (w:World) (Q:QT):Prop :=
 vIf (decide (x0<=3))
 (vIf (x0 == 3)
 (Q (VT #[VB true,VB true,VB (decide (x0<=2))]) w)
 (Q (VT #[VB true,VB (x0 == 4),VB (decide (x0<=2))]) w))
 (vIf (x0 == 3)
 (Q (VT #[VB (x0 == 5),VB true,VB (decide (x0<=2))]) w)
 (Q (VT #[VB (x0 == 5),VB (x0 == 4),VB (decide (x0<=2))]) w))
def F66.an:Ann:=⟨[],[]⟩
theorem F66.of (x0:Int) (w:World) {Q:QT} (h:F66.vc x0 w Q):Calls Tryz.prog 66 #[VI .i64 x0] w (fun e w'=>∃ v,e=.returned v/\Q v w'):=vcFn_of (A:=F66.an) noCount mixed h (by kernel_rfl)
def F67.k3c (Q:QT) (x1:NT) (w:World):Prop :=
 ldI .i64 w x1.1 (x1.2+1) fun i7 =>
 Q (VI .i64 i7) w
def F67.k3 (Q:QT):(NT×Unit)->WT:=fun s w=>∀ _:Nat->Value,F67.k3c Q s.1 w
def F67.vc (x0:List Value) (w:World) (Q:QT):Prop :=
 nw w x0 126 fun b1 w2 =>
 ldI .i64 w2 b1 (0+1) fun i3 =>
 vIf (i3 == 0)
 (ldSl w2 b1 0 fun A4 n5 c6 =>
 vIf (decide ((n5:Int) > 0))
 (Q (VI .i64 3) w2)
 (jnC (F67.k3 Q) ((b1,0),()) w2))
 (jnC (F67.k3 Q) ((b1,0),()) w2)
def F67.an:Ann:=⟨[],[(3,[(1,.kL)])]⟩
theorem F67.of (x0:List Value) (w:World) {Q:QT} (h:F67.vc x0 w Q):Calls Tryz.prog 67 #[ofL x0] w (fun e w'=>∃ v,e=.returned v/\Q v w'):=vcFn_of (A:=F67.an) noCount mixed h (by kernel_rfl)
def F68.k8c (Q:QT) (C2:(ST×Int×Int×Unit)->WT) (x0:ST) (x1:Int) (x5:Int) (x6:NT) (x7:Bool) (x8:Bool) (x9:Bool) (w:World):Prop :=
 nw w Z90 90 fun b22 w23 =>
 gd (([VI .u8 0] ++ ([VI .u8 0] ++ ([VI .u8 0] ++ ([VI .u8 0] ++ ([VI .u8 0] ++ ([VI .u8 0] ++ ([VI .u8 0] ++ ([VI .u8 0] ++ ([VI .u8 0] ++ ([VI .u8 0] ++ ([VI .u8 0] ++ ([VI .u8 0] ++ ([VI .u8 0] ++ ([VI .u8 0] ++ ([VI .u8 0] ++ ([VI .u8 0] ++ ([VI .u8 0] ++ ([VI .u8 0] ++ ([VI .u8 0] ++ ([VI .u8 0] ++ ([VI .u8 0] ++ ([VI .u8 0] ++ ([VI .u8 0] ++ ([VI .u8 0] ++ ([VI .u8 0] ++ ([VI .u8 0] ++ ([VI .u8 0] ++ ([VI .u8 0] ++ ([VI .u8 0] ++ ([VI .u8 0] ++ ([VI .u8 0] ++ ([VI .u8 0] ++ [])))))))))))))))))))))))))))))))).length == 32) <|
 st w23 b22 0 ([VI .u8 0] ++ ([VI .u8 0] ++ ([VI .u8 0] ++ ([VI .u8 0] ++ ([VI .u8 0] ++ ([VI .u8 0] ++ ([VI .u8 0] ++ ([VI .u8 0] ++ ([VI .u8 0] ++ ([VI .u8 0] ++ ([VI .u8 0] ++ ([VI .u8 0] ++ ([VI .u8 0] ++ ([VI .u8 0] ++ ([VI .u8 0] ++ ([VI .u8 0] ++ ([VI .u8 0] ++ ([VI .u8 0] ++ ([VI .u8 0] ++ ([VI .u8 0] ++ ([VI .u8 0] ++ ([VI .u8 0] ++ ([VI .u8 0] ++ ([VI .u8 0] ++ ([VI .u8 0] ++ ([VI .u8 0] ++ ([VI .u8 0] ++ ([VI .u8 0] ++ ([VI .u8 0] ++ ([VI .u8 0] ++ ([VI .u8 0] ++ ([VI .u8 0] ++ [])))))))))))))))))))))))))))))))) fun w24 =>
 vIf (!x7)
 (ldA 32 w24 x6.1 (x6.2+2) fun a25 =>
 ldA 32 w24 b22 0 fun a26 =>
 eqAB 32 a25 a26 fun t27 =>
 vIf (!t27)
 (Q (VB false) w24)
 (vIf (!x8)
 (ldS w24 x6.1 (x6.2+34) fun s28 =>
 vIf (!(s28.toList == (⟨#[]⟩:ByteArray).toList))
 (Q (VB false) w24)
 (vIf x8
 (ldS w24 x6.1 (x6.2+34) fun s29 =>
 Calls Tryz.prog 109 #[VG s29] w24 fun e31 w30 =>
 ∃ t32:Bool,e31=.returned (VB t32)/\(
 vIf (!t32)
 (Q (VB false) w30)
 (vIf (!x9)
 (ldI .i64 w30 x6.1 (x6.2+35) fun i33 =>
 vIf (decide (i33 > 0))
 (Q (VB false) w30)
 (jnC C2 ((x0.1,x0.2.1,x0.2.2),x1,((WR .i64 (x5+1))),()) w30))
 (jnC C2 ((x0.1,x0.2.1,x0.2.2),x1,((WR .i64 (x5+1))),()) w30))))
 (vIf (!x9)
 (ldI .i64 w24 x6.1 (x6.2+35) fun i34 =>
 vIf (decide (i34 > 0))
 (Q (VB false) w24)
 (jnC C2 ((x0.1,x0.2.1,x0.2.2),x1,((WR .i64 (x5+1))),()) w24))
 (jnC C2 ((x0.1,x0.2.1,x0.2.2),x1,((WR .i64 (x5+1))),()) w24))))
 (vIf x8
 (ldS w24 x6.1 (x6.2+34) fun s35 =>
 Calls Tryz.prog 109 #[VG s35] w24 fun e37 w36 =>
 ∃ t38:Bool,e37=.returned (VB t38)/\(
 vIf (!t38)
 (Q (VB false) w36)
 (vIf (!x9)
 (ldI .i64 w36 x6.1 (x6.2+35) fun i39 =>
 vIf (decide (i39 > 0))
 (Q (VB false) w36)
 (jnC C2 ((x0.1,x0.2.1,x0.2.2),x1,((WR .i64 (x5+1))),()) w36))
 (jnC C2 ((x0.1,x0.2.1,x0.2.2),x1,((WR .i64 (x5+1))),()) w36))))
 (vIf (!x9)
 (ldI .i64 w24 x6.1 (x6.2+35) fun i40 =>
 vIf (decide (i40 > 0))
 (Q (VB false) w24)
 (jnC C2 ((x0.1,x0.2.1,x0.2.2),x1,((WR .i64 (x5+1))),()) w24))
 (jnC C2 ((x0.1,x0.2.1,x0.2.2),x1,((WR .i64 (x5+1))),()) w24)))))
 (vIf (!x8)
 (ldS w24 x6.1 (x6.2+34) fun s41 =>
 vIf (!(s41.toList == (⟨#[]⟩:ByteArray).toList))
 (Q (VB false) w24)
 (vIf x8
 (ldS w24 x6.1 (x6.2+34) fun s42 =>
 Calls Tryz.prog 109 #[VG s42] w24 fun e44 w43 =>
 ∃ t45:Bool,e44=.returned (VB t45)/\(
 vIf (!t45)
 (Q (VB false) w43)
 (vIf (!x9)
 (ldI .i64 w43 x6.1 (x6.2+35) fun i46 =>
 vIf (decide (i46 > 0))
 (Q (VB false) w43)
 (jnC C2 ((x0.1,x0.2.1,x0.2.2),x1,((WR .i64 (x5+1))),()) w43))
 (jnC C2 ((x0.1,x0.2.1,x0.2.2),x1,((WR .i64 (x5+1))),()) w43))))
 (vIf (!x9)
 (ldI .i64 w24 x6.1 (x6.2+35) fun i47 =>
 vIf (decide (i47 > 0))
 (Q (VB false) w24)
 (jnC C2 ((x0.1,x0.2.1,x0.2.2),x1,((WR .i64 (x5+1))),()) w24))
 (jnC C2 ((x0.1,x0.2.1,x0.2.2),x1,((WR .i64 (x5+1))),()) w24))))
 (vIf x8
 (ldS w24 x6.1 (x6.2+34) fun s48 =>
 Calls Tryz.prog 109 #[VG s48] w24 fun e50 w49 =>
 ∃ t51:Bool,e50=.returned (VB t51)/\(
 vIf (!t51)
 (Q (VB false) w49)
 (vIf (!x9)
 (ldI .i64 w49 x6.1 (x6.2+35) fun i52 =>
 vIf (decide (i52 > 0))
 (Q (VB false) w49)
 (jnC C2 ((x0.1,x0.2.1,x0.2.2),x1,((WR .i64 (x5+1))),()) w49))
 (jnC C2 ((x0.1,x0.2.1,x0.2.2),x1,((WR .i64 (x5+1))),()) w49))))
 (vIf (!x9)
 (ldI .i64 w24 x6.1 (x6.2+35) fun i53 =>
 vIf (decide (i53 > 0))
 (Q (VB false) w24)
 (jnC C2 ((x0.1,x0.2.1,x0.2.2),x1,((WR .i64 (x5+1))),()) w24))
 (jnC C2 ((x0.1,x0.2.1,x0.2.2),x1,((WR .i64 (x5+1))),()) w24))))
def F68.k8 (Q:QT) (C2:(ST×Int×Int×Unit)->WT):(ST×Int×Int×NT×Bool×Bool×Bool×Unit)->WT:=fun s w=>∀ _:Nat->Value,F68.k8c Q C2 s.1 s.2.1 s.2.2.1 s.2.2.2.1 s.2.2.2.2.1 s.2.2.2.2.2.1 s.2.2.2.2.2.2.1 w
def F68.b2c (Q:QT) (C2:(ST×Int×Int×Unit)->WT) (x0:ST) (x1:Int) (x5:Int) (w:World):Prop :=
 vIf (decide (x5 < (x0.2.1:Int)))
 (dr x0.1 fun b1 o2 =>
 gd (decide (0<=x5)) <|
 gd (decide (x5 < (x0.2.1:Int))) <|
 ldA 39 w b1 (o2+(x5).toNat * 39) fun a3 =>
 nw w Z113 113 fun b4 w5 =>
 gd (a3.length == 39) <|
 st w5 b4 0 a3 fun w6 =>
 ldI .i64 w6 b4 0 fun i7 =>
 Calls Tryz.prog 66 #[VI .i64 i7] w6 fun e9 w8 =>
 ∃ t10:Bool,∃ t11:Bool,∃ t12:Bool,e9=.returned (VT #[VB t10,VB t11,VB t12])/\(
 ldI .i64 w8 b4 0 fun i13 =>
 vIf (decide (i13 < 1))
 (Q (VB false) w8)
 (ldI .i64 w8 b4 0 fun i14 =>
 vIf (decide (i14 > 5))
 (Q (VB false) w8)
 (ldI .i64 w8 b4 (0+36) fun i15 =>
 vIf (i15 != x1)
 (Q (VB false) w8)
 (ldI .i64 w8 b4 ((0+36)+1) fun i16 =>
 vIf (decide (i16 < 0))
 (Q (VB false) w8)
 (ldI .i64 w8 b4 ((0+36)+1) fun i17 =>
 vIf (decide (i17 > 1048576))
 (Q (VB false) w8)
 (ldI .i64 w8 b4 ((0+36)+2) fun i18 =>
 vIf (decide (i18 < 0))
 (Q (VB false) w8)
 (ldI .i64 w8 b4 ((0+36)+2) fun i19 =>
 vIf (decide (i19 > 1048576))
 (Q (VB false) w8)
 (ldI .i64 w8 b4 (0+35) fun i20 =>
 vIf (decide (i20 < 0))
 (Q (VB false) w8)
 (ldI .i64 w8 b4 (0+35) fun i21 =>
 vIf (decide (i21 > 1048576))
 (Q (VB false) w8)
 (jnC (F68.k8 Q C2) ((x0.1,x0.2.1,x0.2.2),x1,x5,(b4,0),t10,t11,t12,()) w8)))))))))))
 (Q (VB true) w)
def F68.b2 (Q:QT):(ST×Int×Int×Unit)->World->((ST×Int×Int×Unit)->WT)->Prop:=fun s w C2=>∀ _:Nat->Value,F68.b2c Q C2 s.1 s.2.1 s.2.2.1 w
def F68.l2 (Q:QT):(ST×Int×Int×Unit)->WT:=fun s w=>∃ n,loopC (F68.b2 Q) n s w
def F68.vc (x0A:Option Addr) (x0n x0c:Nat) (x1:Int) (w:World) (Q:QT):Prop :=
 jnC (F68.l2 Q) ((x0A,x0n,x0c),x1,(0),()) w
def F68.an:Ann:=⟨[(2,[(0,.kSl),(1,.kI .i64),(5,.kI .i64)])],[(8,[(0,.kSl),(1,.kI .i64),(5,.kI .i64),(6,.kL),(7,.kB),(8,.kB),(9,.kB)])]⟩
theorem F68.of (x0A:Option Addr) (x0n x0c:Nat) (x1:Int) (w:World) {Q:QT} (h:F68.vc x0A x0n x0c x1 w Q):Calls Tryz.prog 68 #[VS x0A x0n x0c,VI .i64 x1] w (fun e w'=>∃ v,e=.returned v/\Q v w'):=vcFn_of (A:=F68.an) noCount mixed h (by kernel_rfl)
def F69.vc (x0A:Option Addr) (x0n x0c:Nat) (x1:Int) (w:World) (Q:QT):Prop :=
 nw w Z92 92 fun b1 w2 =>
 Calls Tryz.prog 110 #[VS x0A x0n x0c,VI .i64 x1] w2 fun e4 w3 =>
 ∃ a5:List Value,∃ i6:Int,e4=.returned (VT #[ofL a5,VI .i64 i6])/\(
 nw w3 Z196 196 fun b7 w8 =>
 gd (a5.length == 4) <|
 st w8 b7 0 a5 fun w9 =>
 vIf (i6 != 0)
 (gd (([VI .i64 0] ++ ([VI .u64 0] ++ ([VI .u8 0,VI .u8 0,VI .u8 0,VI .u8 0,VI .u8 0,VI .u8 0,VI .u8 0,VI .u8 0,VI .u8 0,VI .u8 0,VI .u8 0,VI .u8 0,VI .u8 0,VI .u8 0,VI .u8 0,VI .u8 0,VI .u8 0,VI .u8 0,VI .u8 0,VI .u8 0,VI .u8 0,VI .u8 0,VI .u8 0,VI .u8 0,VI .u8 0,VI .u8 0,VI .u8 0,VI .u8 0,VI .u8 0,VI .u8 0,VI .u8 0,VI .u8 0] ++ ([VG (⟨#[]⟩:ByteArray)] ++ ([VS none 0 0] ++ ([VI .i64 0] ++ ([VI .i64 0] ++ []))))))).length == 38) <|
 st w9 b1 0 ([VI .i64 0] ++ ([VI .u64 0] ++ ([VI .u8 0,VI .u8 0,VI .u8 0,VI .u8 0,VI .u8 0,VI .u8 0,VI .u8 0,VI .u8 0,VI .u8 0,VI .u8 0,VI .u8 0,VI .u8 0,VI .u8 0,VI .u8 0,VI .u8 0,VI .u8 0,VI .u8 0,VI .u8 0,VI .u8 0,VI .u8 0,VI .u8 0,VI .u8 0,VI .u8 0,VI .u8 0,VI .u8 0,VI .u8 0,VI .u8 0,VI .u8 0,VI .u8 0,VI .u8 0,VI .u8 0,VI .u8 0] ++ ([VG (⟨#[]⟩:ByteArray)] ++ ([VS none 0 0] ++ ([VI .i64 0] ++ ([VI .i64 0] ++ []))))))) fun w10 =>
 ldA 38 w10 b1 0 fun a11 =>
 Q (VT #[ofL a11,VI .i64 0,VI .i64 i6]) w10)
 (ldI .i64 w9 b7 0 fun i12 =>
 ldSl w9 b7 (0+2) fun A13 n14 c15 =>
 Calls Tryz.prog 111 #[VI .i64 i12,VS A13 n14 c15] w9 fun e17 w16 =>
 ∃ a18:List Value,∃ t19:Bool,e17=.returned (VT #[ofL a18,VB t19])/\(
 nw w16 Z92 92 fun b20 w21 =>
 gd (a18.length == 38) <|
 st w21 b20 0 a18 fun w22 =>
 vIf (!t19)
 (gd (([VI .i64 0] ++ ([VI .u64 0] ++ ([VI .u8 0,VI .u8 0,VI .u8 0,VI .u8 0,VI .u8 0,VI .u8 0,VI .u8 0,VI .u8 0,VI .u8 0,VI .u8 0,VI .u8 0,VI .u8 0,VI .u8 0,VI .u8 0,VI .u8 0,VI .u8 0,VI .u8 0,VI .u8 0,VI .u8 0,VI .u8 0,VI .u8 0,VI .u8 0,VI .u8 0,VI .u8 0,VI .u8 0,VI .u8 0,VI .u8 0,VI .u8 0,VI .u8 0,VI .u8 0,VI .u8 0,VI .u8 0] ++ ([VG (⟨#[]⟩:ByteArray)] ++ ([VS none 0 0] ++ ([VI .i64 0] ++ ([VI .i64 0] ++ []))))))).length == 38) <|
 st w22 b1 0 ([VI .i64 0] ++ ([VI .u64 0] ++ ([VI .u8 0,VI .u8 0,VI .u8 0,VI .u8 0,VI .u8 0,VI .u8 0,VI .u8 0,VI .u8 0,VI .u8 0,VI .u8 0,VI .u8 0,VI .u8 0,VI .u8 0,VI .u8 0,VI .u8 0,VI .u8 0,VI .u8 0,VI .u8 0,VI .u8 0,VI .u8 0,VI .u8 0,VI .u8 0,VI .u8 0,VI .u8 0,VI .u8 0,VI .u8 0,VI .u8 0,VI .u8 0,VI .u8 0,VI .u8 0,VI .u8 0,VI .u8 0] ++ ([VG (⟨#[]⟩:ByteArray)] ++ ([VS none 0 0] ++ ([VI .i64 0] ++ ([VI .i64 0] ++ []))))))) fun w23 =>
 ldA 38 w23 b1 0 fun a24 =>
 Q (VT #[ofL a24,VI .i64 0,VI .i64 3]) w23)
 (ldA 38 w22 b20 0 fun a25 =>
 Calls Tryz.prog 112 #[ofL a25] w22 fun e27 w26 =>
 ∃ i28:Int,e27=.returned (VI .i64 i28)/\(
 vIf (i28 != 0)
 (ldA 38 w26 b20 0 fun a29 =>
 Calls Tryz.prog 112 #[ofL a29] w26 fun e31 w30 =>
 ∃ i32:Int,e31=.returned (VI .i64 i32)/\(
 gd (([VI .i64 0] ++ ([VI .u64 0] ++ ([VI .u8 0,VI .u8 0,VI .u8 0,VI .u8 0,VI .u8 0,VI .u8 0,VI .u8 0,VI .u8 0,VI .u8 0,VI .u8 0,VI .u8 0,VI .u8 0,VI .u8 0,VI .u8 0,VI .u8 0,VI .u8 0,VI .u8 0,VI .u8 0,VI .u8 0,VI .u8 0,VI .u8 0,VI .u8 0,VI .u8 0,VI .u8 0,VI .u8 0,VI .u8 0,VI .u8 0,VI .u8 0,VI .u8 0,VI .u8 0,VI .u8 0,VI .u8 0] ++ ([VG (⟨#[]⟩:ByteArray)] ++ ([VS none 0 0] ++ ([VI .i64 0] ++ ([VI .i64 0] ++ []))))))).length == 38) <|
 st w30 b1 0 ([VI .i64 0] ++ ([VI .u64 0] ++ ([VI .u8 0,VI .u8 0,VI .u8 0,VI .u8 0,VI .u8 0,VI .u8 0,VI .u8 0,VI .u8 0,VI .u8 0,VI .u8 0,VI .u8 0,VI .u8 0,VI .u8 0,VI .u8 0,VI .u8 0,VI .u8 0,VI .u8 0,VI .u8 0,VI .u8 0,VI .u8 0,VI .u8 0,VI .u8 0,VI .u8 0,VI .u8 0,VI .u8 0,VI .u8 0,VI .u8 0,VI .u8 0,VI .u8 0,VI .u8 0,VI .u8 0,VI .u8 0] ++ ([VG (⟨#[]⟩:ByteArray)] ++ ([VS none 0 0] ++ ([VI .i64 0] ++ ([VI .i64 0] ++ []))))))) fun w33 =>
 ldA 38 w33 b1 0 fun a34 =>
 Q (VT #[ofL a34,VI .i64 0,VI .i64 i32]) w33))
 (ldI .u64 w26 b7 (0+1) fun i35 =>
 st w26 b20 (0+1) [VI .u64 i35] fun w36 =>
 ldA 38 w36.drew b20 0 fun a37 =>
 ldI .i64 w36.drew b7 (0+3) fun i38 =>
 gd (a37.length == 38) <|
 st w36.drew b1 0 a37 fun w39 =>
 kp w36.drew b7 (0+3) 1 w39 <|
 ldA 38 w39 b1 0 fun a40 =>
 Q (VT #[ofL a40,VI .i64 i38,VI .i64 0]) w39))))))
def F69.an:Ann:=⟨[],[]⟩
theorem F69.of (x0A:Option Addr) (x0n x0c:Nat) (x1:Int) (w:World) {Q:QT} (h:F69.vc x0A x0n x0c x1 w Q):Calls Tryz.prog 69 #[VS x0A x0n x0c,VI .i64 x1] w (fun e w'=>∃ v,e=.returned v/\Q v w'):=vcFn_of (A:=F69.an) noCount mixed h (by kernel_rfl)
def F70.k13c (Q:QT) (C4:(ST×Int×Int×ST×Int×Int×Unit)->WT) (x0:ST) (x1:Int) (x2:Int) (x10:ST) (x11:Int) (x12:Int) (x13:NT) (x14:Int) (w:World):Prop :=
 ldI .i64 w x13.1 x13.2 fun i14 =>
 vIf (decide (i14 > 5))
 (Q (VT #[VS none 0 0,VI .i64 0,VI .u64 0,VI .i64 3]) w)
 (ldA 38 w x13.1 x13.2 fun a15 =>
 Calls Tryz.prog 113 #[ofL a15,ofL ([VI .i64 x2] ++ ([VI .i64 x1] ++ ([VI .i64 (WR .i64 (x14 - x1))] ++ [])))] w fun e17 w16 =>
 ∃ a18:List Value,e17=.returned (ofL a18)/\(
 gd (a18.length == 39) <|
 nw w16 (a18 ++ []) 113 fun b19 w20 =>
 app w20 39 96 Z113 113 x10.1 x10.2.1 x10.2.2 (VS (some ⟨b19,0,none⟩) 1 1) fun A21 n22 c23 w24 =>
 jnC C4 ((x0.1,x0.2.1,x0.2.2),x14,x2,(A21,n22,c23),x11,((WR .i64 (x12+1))),()) w24))
def F70.k13 (Q:QT) (C4:(ST×Int×Int×ST×Int×Int×Unit)->WT):(ST×Int×Int×ST×Int×Int×NT×Int×Unit)->WT:=fun s w=>∀ _:Nat->Value,F70.k13c Q C4 s.1 s.2.1 s.2.2.1 s.2.2.2.1 s.2.2.2.2.1 s.2.2.2.2.2.1 s.2.2.2.2.2.2.1 s.2.2.2.2.2.2.2.1 w
def F70.k12c (Q:QT) (C4:(ST×Int×Int×ST×Int×Int×Unit)->WT) (x0:ST) (x1:Int) (x2:Int) (x10:ST) (x11:Int) (x12:Int) (x13:NT) (x14:Int) (x76:Bool) (w:World):Prop :=
 vIf x76
 (ldI .u64 w.drew x13.1 (x13.2+1) fun i13 =>
 Q (VT #[VS x10.1 x10.2.1 x10.2.2,VI .i64 x14,VI .u64 i13,VI .i64 0]) w.drew)
 (jnC (F70.k13 Q C4) ((x0.1,x0.2.1,x0.2.2),x1,x2,(x10.1,x10.2.1,x10.2.2),x11,x12,(x13.1,x13.2),x14,()) w)
def F70.k12 (Q:QT) (C4:(ST×Int×Int×ST×Int×Int×Unit)->WT):(ST×Int×Int×ST×Int×Int×NT×Int×Bool×Unit)->WT:=fun s w=>∀ _:Nat->Value,F70.k12c Q C4 s.1 s.2.1 s.2.2.1 s.2.2.2.1 s.2.2.2.2.1 s.2.2.2.2.2.1 s.2.2.2.2.2.2.1 s.2.2.2.2.2.2.2.1 s.2.2.2.2.2.2.2.2.1 w
def F70.k11c (Q:QT) (C4:(ST×Int×Int×ST×Int×Int×Unit)->WT) (x0:ST) (x1:Int) (x2:Int) (x10:ST) (x11:Int) (x12:Int) (x13:NT) (x14:Int) (w:World):Prop :=
 ldI .i64 w x13.1 x13.2 fun i10 =>
 vIf (i10 == 6)
 (vIf (decide ((x10.2.1:Int) > 0))
 (ldI .i64 w x13.1 (x13.2+36) fun i11 =>
 vIf (i11 == (x10.2.1:Int))
 (ldI .i64 w x13.1 (x13.2+37) fun i12 =>
 jnC (F70.k12 Q C4) ((x0.1,x0.2.1,x0.2.2),x1,x2,(x10.1,x10.2.1,x10.2.2),x11,x12,(x13.1,x13.2),x14,(i12 == (WR .i64 (x1 - x11))),()) w)
 (jnC (F70.k12 Q C4) ((x0.1,x0.2.1,x0.2.2),x1,x2,(x10.1,x10.2.1,x10.2.2),x11,x12,(x13.1,x13.2),x14,false,()) w))
 (jnC (F70.k12 Q C4) ((x0.1,x0.2.1,x0.2.2),x1,x2,(x10.1,x10.2.1,x10.2.2),x11,x12,(x13.1,x13.2),x14,false,()) w))
 (jnC (F70.k12 Q C4) ((x0.1,x0.2.1,x0.2.2),x1,x2,(x10.1,x10.2.1,x10.2.2),x11,x12,(x13.1,x13.2),x14,false,()) w)
def F70.k11 (Q:QT) (C4:(ST×Int×Int×ST×Int×Int×Unit)->WT):(ST×Int×Int×ST×Int×Int×NT×Int×Unit)->WT:=fun s w=>∀ _:Nat->Value,F70.k11c Q C4 s.1 s.2.1 s.2.2.1 s.2.2.2.1 s.2.2.2.2.1 s.2.2.2.2.2.1 s.2.2.2.2.2.2.1 s.2.2.2.2.2.2.2.1 w
def F70.k10c (Q:QT) (C4:(ST×Int×Int×ST×Int×Int×Unit)->WT) (x0:ST) (x1:Int) (x2:Int) (x10:ST) (x11:Int) (x12:Int) (x13:NT) (x14:Int) (x53:Bool) (w:World):Prop :=
 vIf x53
 (Q (VT #[VS none 0 0,VI .i64 0,VI .u64 0,VI .i64 3]) w)
 (jnC (F70.k11 Q C4) ((x0.1,x0.2.1,x0.2.2),x1,x2,(x10.1,x10.2.1,x10.2.2),x11,x12,(x13.1,x13.2),x14,()) w)
def F70.k10 (Q:QT) (C4:(ST×Int×Int×ST×Int×Int×Unit)->WT):(ST×Int×Int×ST×Int×Int×NT×Int×Bool×Unit)->WT:=fun s w=>∀ _:Nat->Value,F70.k10c Q C4 s.1 s.2.1 s.2.2.1 s.2.2.2.1 s.2.2.2.2.1 s.2.2.2.2.2.1 s.2.2.2.2.2.2.1 s.2.2.2.2.2.2.2.1 s.2.2.2.2.2.2.2.2.1 w
def F70.b4c (Q:QT) (C4:(ST×Int×Int×ST×Int×Int×Unit)->WT) (x0:ST) (x1:Int) (x2:Int) (x10:ST) (x11:Int) (x12:Int) (w:World):Prop :=
 vIf (decide (x12<=(x0.2.1:Int)))
 (Calls Tryz.prog 69 #[VS x0.1 x0.2.1 x0.2.2,VI .i64 x1] w fun e2 w1 =>
 ∃ a3:List Value,∃ i4:Int,∃ i5:Int,e2=.returned (VT #[ofL a3,VI .i64 i4,VI .i64 i5])/\(
 nw w1 Z92 92 fun b6 w7 =>
 gd (a3.length == 38) <|
 st w7 b6 0 a3 fun w8 =>
 vIf (i5 != 0)
 (Q (VT #[VS none 0 0,VI .i64 0,VI .u64 0,VI .i64 i5]) w8)
 (vIf (decide ((x10.2.1:Int) > 0))
 (ldI .u64 w8.drew b6 (0+1) fun i9 =>
 vIf (decide (i9 < 1))
 (jnC (F70.k10 Q C4) ((x0.1,x0.2.1,x0.2.2),x1,x2,(x10.1,x10.2.1,x10.2.2),x11,x12,(b6,0),i4,true,()) w8.drew)
 (ldI .u64 w8.drew b6 (0+1) fun i25 =>
 dr x10.1 fun b26 o27 =>
 gd (decide (0<=(WR .i64 ((x10.2.1:Int) - 1)))) <|
 gd (decide ((WR .i64 ((x10.2.1:Int) - 1)) < (x10.2.1:Int))) <|
 ldI .u64 w8.drew b26 ((o27+((WR .i64 ((x10.2.1:Int) - 1))).toNat * 39)+1) fun i28 =>
 jnC (F70.k10 Q C4) ((x0.1,x0.2.1,x0.2.2),x1,x2,(x10.1,x10.2.1,x10.2.2),x11,x12,(b6,0),i4,((WR .u64 (i25 - 1)) != i28),()) w8.drew))
 (jnC (F70.k10 Q C4) ((x0.1,x0.2.1,x0.2.2),x1,x2,(x10.1,x10.2.1,x10.2.2),x11,x12,(b6,0),i4,false,()) w8.drew))))
 (Q (VT #[VS none 0 0,VI .i64 0,VI .u64 0,VI .i64 3]) w)
def F70.b4 (Q:QT):(ST×Int×Int×ST×Int×Int×Unit)->World->((ST×Int×Int×ST×Int×Int×Unit)->WT)->Prop:=fun s w C4=>∀ _:Nat->Value,F70.b4c Q C4 s.1 s.2.1 s.2.2.1 s.2.2.2.1 s.2.2.2.2.1 s.2.2.2.2.2.1 w
def F70.l4 (Q:QT):(ST×Int×Int×ST×Int×Int×Unit)->WT:=fun s w=>∃ n,loopC (F70.b4 Q) n s w
def F70.vc (x0A:Option Addr) (x0n x0c:Nat) (x1:Int) (x2:Int) (w:World) (Q:QT):Prop :=
 jnC (F70.l4 Q) ((x0A,x0n,x0c),x1,x2,(none,0,0),x1,(0),()) w
def F70.an:Ann:=⟨[(4,[(0,.kSl),(1,.kI .i64),(2,.kI .i64),(10,.kSl),(11,.kI .i64),(12,.kI .i64)])],[(10,[(0,.kSl),(1,.kI .i64),(2,.kI .i64),(10,.kSl),(11,.kI .i64),(12,.kI .i64),(13,.kL),(14,.kI .i64),(53,.kB)]),(11,[(0,.kSl),(1,.kI .i64),(2,.kI .i64),(10,.kSl),(11,.kI .i64),(12,.kI .i64),(13,.kL),(14,.kI .i64)]),(12,[(0,.kSl),(1,.kI .i64),(2,.kI .i64),(10,.kSl),(11,.kI .i64),(12,.kI .i64),(13,.kL),(14,.kI .i64),(76,.kB)]),(13,[(0,.kSl),(1,.kI .i64),(2,.kI .i64),(10,.kSl),(11,.kI .i64),(12,.kI .i64),(13,.kL),(14,.kI .i64)])]⟩
theorem F70.of (x0A:Option Addr) (x0n x0c:Nat) (x1:Int) (x2:Int) (w:World) {Q:QT} (h:F70.vc x0A x0n x0c x1 x2 w Q):Calls Tryz.prog 70 #[VS x0A x0n x0c,VI .i64 x1,VI .i64 x2] w (fun e w'=>∃ v,e=.returned v/\Q v w'):=vcFn_of (A:=F70.an) noCount mixed h (by kernel_rfl)
def F71.vc (x0:List Value) (w:World) (Q:QT):Prop :=
 nw w x0 92 fun b1 w2 =>
 ldA 38 w2 b1 0 fun a3 =>
 Calls Tryz.prog 112 #[ofL a3] w2 fun e5 w4 =>
 ∃ i6:Int,e5=.returned (VI .i64 i6)/\(
 vIf (i6 != 0)
 (ldA 38 w4 b1 0 fun a7 =>
 Calls Tryz.prog 112 #[ofL a7] w4 fun e9 w8 =>
 ∃ i10:Int,e9=.returned (VI .i64 i10)/\(
 Q (VT #[VS none 0 0,VI .i64 i10]) w8))
 (ldI .i64 w4.drew b1 0 fun i11 =>
 ldI .u64 w4.drew b1 (0+1) fun i12 =>
 ldA 38 w4.drew b1 0 fun a13 =>
 Calls Tryz.prog 115 #[ofL a13] w4.drew fun e15 w14 =>
 ∃ (A16:Option Addr) (n17 c18:Nat),e15=.returned (VS A16 n17 c18)/\(
 kp w4.drew b1 (0+1) 1 w14 <|
 kp w4.drew b1 0 1 w14 <|
 Calls Tryz.prog 114 #[VI .i64 i11,VI .u64 i12,VS A16 n17 c18] w14 fun e20 w19 =>
 ∃ (A21:Option Addr) (n22 c23:Nat),e20=.returned (VS A21 n22 c23)/\(
 Q (VT #[VS A21 n22 c23,VI .i64 0]) w19))))
def F71.an:Ann:=⟨[],[]⟩
theorem F71.of (x0:List Value) (w:World) {Q:QT} (h:F71.vc x0 w Q):Calls Tryz.prog 71 #[ofL x0] w (fun e w'=>∃ v,e=.returned v/\Q v w'):=vcFn_of (A:=F71.an) noCount mixed h (by kernel_rfl)
def F72.b7c (Q:QT) (C7:(ST×Int×ST×Int×Unit)->WT) (x0:ST) (x1:Int) (x7:ST) (x8:Int) (w:World):Prop :=
 vIf (decide (x8 < (x0.2.1:Int)))
 (dr x0.1 fun b7 o8 =>
 gd (decide (0<=x8)) <|
 gd (decide (x8 < (x0.2.1:Int))) <|
 ldA 38 w b7 (o8+(x8).toNat * 38) fun a9 =>
 nw w Z92 92 fun b10 w11 =>
 gd (a9.length == 38) <|
 st w11 b10 0 a9 fun w12 =>
 st w12 b10 (0+1) [VI .u64 (WR .u64 (x1+(WR .u64 x8)))] fun w13 =>
 ldA 38 w13 b10 0 fun a14 =>
 Calls Tryz.prog 71 #[ofL a14] w13 fun e16 w15 =>
 ∃ (A17:Option Addr) (n18 c19:Nat),∃ i20:Int,e16=.returned (VT #[VS A17 n18 c19,VI .i64 i20])/\(
 app w15 1 1 [VI .u8 0] 5 x7.1 x7.2.1 x7.2.2 (VS A17 n18 c19) fun A21 n22 c23 w24 =>
 jnC C7 ((x0.1,x0.2.1,x0.2.2),x1,(A21,n22,c23),((WR .i64 (x8+1))),()) w24))
 (Calls Tryz.prog 71 #[ofL ([VI .i64 6] ++ ([VI .u64 (WR .u64 (x1+(WR .u64 (x0.2.1:Int))))] ++ ([VI .u8 0,VI .u8 0,VI .u8 0,VI .u8 0,VI .u8 0,VI .u8 0,VI .u8 0,VI .u8 0,VI .u8 0,VI .u8 0,VI .u8 0,VI .u8 0,VI .u8 0,VI .u8 0,VI .u8 0,VI .u8 0,VI .u8 0,VI .u8 0,VI .u8 0,VI .u8 0,VI .u8 0,VI .u8 0,VI .u8 0,VI .u8 0,VI .u8 0,VI .u8 0,VI .u8 0,VI .u8 0,VI .u8 0,VI .u8 0,VI .u8 0,VI .u8 0] ++ ([VG (⟨#[]⟩:ByteArray)] ++ ([VS none 0 0] ++ ([VI .i64 (x0.2.1:Int)] ++ ([VI .i64 (x7.2.1:Int)] ++ [])))))))] w fun e26 w25 =>
 ∃ (A27:Option Addr) (n28 c29:Nat),∃ i30:Int,e26=.returned (VT #[VS A27 n28 c29,VI .i64 i30])/\(
 app w25 1 1 [VI .u8 0] 5 x7.1 x7.2.1 x7.2.2 (VS A27 n28 c29) fun A31 n32 c33 w34 =>
 Q (VT #[VS A31 n32 c33,VI .u64 (WR .u64 ((WR .u64 (x1+(WR .u64 (x0.2.1:Int))))+1)),VI .i64 0]) w34))
def F72.b7 (Q:QT):(ST×Int×ST×Int×Unit)->World->((ST×Int×ST×Int×Unit)->WT)->Prop:=fun s w C7=>∀ _:Nat->Value,F72.b7c Q C7 s.1 s.2.1 s.2.2.1 s.2.2.2.1 w
def F72.l7 (Q:QT):(ST×Int×ST×Int×Unit)->WT:=fun s w=>∃ n,loopC (F72.b7 Q) n s w
def F72.vc (x0A:Option Addr) (x0n x0c:Nat) (x1:Int) (w:World) (Q:QT):Prop :=
 Calls Tryz.prog 116 #[VS x0A x0n x0c] w fun e2 w1 =>
 ∃ i3:Int,e2=.returned (VI .i64 i3)/\(
 vIf (i3 != 0)
 (Calls Tryz.prog 116 #[VS x0A x0n x0c] w1 fun e5 w4 =>
 ∃ i6:Int,e5=.returned (VI .i64 i6)/\(
 Q (VT #[VS none 0 0,VI .u64 x1,VI .i64 i6]) w4))
 (vIf (decide ((WR .u64 ((WR .u64 (x1+(WR .u64 (x0n:Int))))+1))<=x1))
 (Q (VT #[VS none 0 0,VI .u64 x1,VI .i64 20]) w1)
 (jnC (F72.l7 Q) ((x0A,x0n,x0c),x1,(none,0,0),(0),()) w1)))
def F72.an:Ann:=⟨[(7,[(0,.kSl),(1,.kI .u64),(7,.kSl),(8,.kI .i64)])],[]⟩
theorem F72.of (x0A:Option Addr) (x0n x0c:Nat) (x1:Int) (w:World) {Q:QT} (h:F72.vc x0A x0n x0c x1 w Q):Calls Tryz.prog 72 #[VS x0A x0n x0c,VI .u64 x1] w (fun e w'=>∃ v,e=.returned v/\Q v w'):=vcFn_of (A:=F72.an) noCount mixed h (by kernel_rfl)
def F73.vc (x0:ByteArray) (x1:ByteArray) (w:World) (Q:QT):Prop :=
 Calls Tryz.prog 117 #[VG x0,VG x1] w fun e2 w1 =>
 ∃ i3:Int,e2=.returned (VI .i64 i3)/\(
 Q (VI .i64 i3) w1)
def F73.an:Ann:=⟨[],[]⟩
theorem F73.of (x0:ByteArray) (x1:ByteArray) (w:World) {Q:QT} (h:F73.vc x0 x1 w Q):Calls Tryz.prog 73 #[VG x0,VG x1] w (fun e w'=>∃ v,e=.returned v/\Q v w'):=vcFn_of (A:=F73.an) noCount mixed h (by kernel_rfl)
def F74.vc (x0A:Option Addr) (x0n x0c:Nat) (x1A:Option Addr) (x1n x1c:Nat) (w:World) (Q:QT):Prop :=
 Calls Tryz.prog 118 #[VS x0A x0n x0c,VS x1A x1n x1c,Value.func (.func 119) #[] #[]] w fun e2 w1 =>
 ∃ (A3:Option Addr) (n4 c5:Nat),e2=.returned (VS A3 n4 c5)/\(
 Q (VS A3 n4 c5) w1)
def F74.an:Ann:=⟨[],[]⟩
theorem F74.of (x0A:Option Addr) (x0n x0c:Nat) (x1A:Option Addr) (x1n x1c:Nat) (w:World) {Q:QT} (h:F74.vc x0A x0n x0c x1A x1n x1c w Q):Calls Tryz.prog 74 #[VS x0A x0n x0c,VS x1A x1n x1c] w (fun e w'=>∃ v,e=.returned v/\Q v w'):=vcFn_of (A:=F74.an) noCount mixed h (by kernel_rfl)
def F75.k9c (Q:QT) (C4:(ST×NT×ST×Bool×Int×Unit)->WT) (x0:ST) (x3:NT) (x5:ST) (x6:Bool) (x7:Int) (w:World):Prop :=
 dr x0.1 fun b14 o15 =>
 gd (decide (0<=x7)) <|
 gd (decide (x7 < (x0.2.1:Int))) <|
 ldS w.drew b14 (o15+(x7).toNat * 2) fun s16 =>
 ldS w.drew x3.1 x3.2 fun s17 =>
 vIf (!(s16.toList == s17.toList))
 (dr x0.1 fun b18 o19 =>
 gd (decide (0<=x7)) <|
 gd (decide (x7 < (x0.2.1:Int))) <|
 ldA 2 w.drew b18 (o19+(x7).toNat * 2) fun a20 =>
 gd (a20.length == 2) <|
 nw w.drew (a20 ++ []) 62 fun b21 w22 =>
 app w22 2 24 [VG (⟨#[]⟩:ByteArray),VI .i64 0] 62 x5.1 x5.2.1 x5.2.2 (VS (some ⟨b21,0,none⟩) 1 1) fun A23 n24 c25 w26 =>
 jnC C4 ((x0.1,x0.2.1,x0.2.2),(x3.1,x3.2),(A23,n24,c25),x6,((WR .i64 (x7+1))),()) w26)
 (jnC C4 ((x0.1,x0.2.1,x0.2.2),(x3.1,x3.2),(x5.1,x5.2.1,x5.2.2),x6,((WR .i64 (x7+1))),()) w.drew)
def F75.k9 (Q:QT) (C4:(ST×NT×ST×Bool×Int×Unit)->WT):(ST×NT×ST×Bool×Int×Unit)->WT:=fun s w=>∀ _:Nat->Value,F75.k9c Q C4 s.1 s.2.1 s.2.2.1 s.2.2.2.1 s.2.2.2.2.1 w
def F75.k7c (Q:QT) (C4:(ST×NT×ST×Bool×Int×Unit)->WT) (x0:ST) (x3:NT) (x5:ST) (x6:Bool) (x7:Int) (x25:Bool) (w:World):Prop :=
 vIf x25
 (ldA 2 w x3.1 x3.2 fun a7 =>
 gd (a7.length == 2) <|
 nw w (a7 ++ []) 62 fun b8 w9 =>
 app w9 2 24 [VG (⟨#[]⟩:ByteArray),VI .i64 0] 62 x5.1 x5.2.1 x5.2.2 (VS (some ⟨b8,0,none⟩) 1 1) fun A10 n11 c12 w13 =>
 jnC (F75.k9 Q C4) ((x0.1,x0.2.1,x0.2.2),(x3.1,x3.2),(A10,n11,c12),true,x7,()) w13)
 (jnC (F75.k9 Q C4) ((x0.1,x0.2.1,x0.2.2),(x3.1,x3.2),(x5.1,x5.2.1,x5.2.2),x6,x7,()) w)
def F75.k7 (Q:QT) (C4:(ST×NT×ST×Bool×Int×Unit)->WT):(ST×NT×ST×Bool×Int×Bool×Unit)->WT:=fun s w=>∀ _:Nat->Value,F75.k7c Q C4 s.1 s.2.1 s.2.2.1 s.2.2.2.1 s.2.2.2.2.1 s.2.2.2.2.2.1 w
def F75.b4c (Q:QT) (C4:(ST×NT×ST×Bool×Int×Unit)->WT) (x0:ST) (x3:NT) (x5:ST) (x6:Bool) (x7:Int) (w:World):Prop :=
 vIf (decide (x7 < (x0.2.1:Int)))
 (vIf (!x6)
 (dr x0.1 fun b3 o4 =>
 gd (decide (0<=x7)) <|
 gd (decide (x7 < (x0.2.1:Int))) <|
 ldS w.drew b3 (o4+(x7).toNat * 2) fun s5 =>
 ldS w.drew x3.1 x3.2 fun s6 =>
 jnC (F75.k7 Q C4) ((x0.1,x0.2.1,x0.2.2),(x3.1,x3.2),(x5.1,x5.2.1,x5.2.2),x6,x7,(!((Op.bytesLess s5.toList s6.toList) || (s5.toList == s6.toList))),()) w.drew)
 (jnC (F75.k7 Q C4) ((x0.1,x0.2.1,x0.2.2),(x3.1,x3.2),(x5.1,x5.2.1,x5.2.2),x6,x7,false,()) w.drew))
 (vIf (!x6)
 (ldA 2 w x3.1 x3.2 fun a27 =>
 gd (a27.length == 2) <|
 nw w (a27 ++ []) 62 fun b28 w29 =>
 app w29 2 24 [VG (⟨#[]⟩:ByteArray),VI .i64 0] 62 x5.1 x5.2.1 x5.2.2 (VS (some ⟨b28,0,none⟩) 1 1) fun A30 n31 c32 w33 =>
 Q (VS A30 n31 c32) w33)
 (Q (VS x5.1 x5.2.1 x5.2.2) w))
def F75.b4 (Q:QT):(ST×NT×ST×Bool×Int×Unit)->World->((ST×NT×ST×Bool×Int×Unit)->WT)->Prop:=fun s w C4=>∀ _:Nat->Value,F75.b4c Q C4 s.1 s.2.1 s.2.2.1 s.2.2.2.1 s.2.2.2.2.1 w
def F75.l4 (Q:QT):(ST×NT×ST×Bool×Int×Unit)->WT:=fun s w=>∃ n,loopC (F75.b4 Q) n s w
def F75.vc (x0A:Option Addr) (x0n x0c:Nat) (x1:List Value) (w:World) (Q:QT):Prop :=
 nw w x1 62 fun b1 w2 =>
 jnC (F75.l4 Q) ((x0A,x0n,x0c),(b1,0),(none,0,0),false,(0),()) w2
def F75.an:Ann:=⟨[(4,[(0,.kSl),(3,.kL),(5,.kSl),(6,.kB),(7,.kI .i64)])],[(7,[(0,.kSl),(3,.kL),(5,.kSl),(6,.kB),(7,.kI .i64),(25,.kB)]),(9,[(0,.kSl),(3,.kL),(5,.kSl),(6,.kB),(7,.kI .i64)])]⟩
theorem F75.of (x0A:Option Addr) (x0n x0c:Nat) (x1:List Value) (w:World) {Q:QT} (h:F75.vc x0A x0n x0c x1 w Q):Calls Tryz.prog 75 #[VS x0A x0n x0c,ofL x1] w (fun e w'=>∃ v,e=.returned v/\Q v w'):=vcFn_of (A:=F75.an) noCount mixed h (by kernel_rfl)
def F76.b3c (Q:QT) (C3:(ST×ByteArray×ST×Int×Unit)->WT) (x0:ST) (x1:ByteArray) (x5:ST) (x6:Int) (w:World):Prop :=
 vIf (decide (x6 < (x0.2.1:Int)))
 (dr x0.1 fun b1 o2 =>
 gd (decide (0<=x6)) <|
 gd (decide (x6 < (x0.2.1:Int))) <|
 ldS w b1 (o2+(x6).toNat * 2) fun s3 =>
 vIf (!(s3.toList == x1.toList))
 (dr x0.1 fun b4 o5 =>
 gd (decide (0<=x6)) <|
 gd (decide (x6 < (x0.2.1:Int))) <|
 ldA 2 w b4 (o5+(x6).toNat * 2) fun a6 =>
 gd (a6.length == 2) <|
 nw w (a6 ++ []) 62 fun b7 w8 =>
 app w8 2 24 [VG (⟨#[]⟩:ByteArray),VI .i64 0] 62 x5.1 x5.2.1 x5.2.2 (VS (some ⟨b7,0,none⟩) 1 1) fun A9 n10 c11 w12 =>
 jnC C3 ((x0.1,x0.2.1,x0.2.2),x1,(A9,n10,c11),((WR .i64 (x6+1))),()) w12)
 (jnC C3 ((x0.1,x0.2.1,x0.2.2),x1,(x5.1,x5.2.1,x5.2.2),((WR .i64 (x6+1))),()) w))
 (Q (VS x5.1 x5.2.1 x5.2.2) w)
def F76.b3 (Q:QT):(ST×ByteArray×ST×Int×Unit)->World->((ST×ByteArray×ST×Int×Unit)->WT)->Prop:=fun s w C3=>∀ _:Nat->Value,F76.b3c Q C3 s.1 s.2.1 s.2.2.1 s.2.2.2.1 w
def F76.l3 (Q:QT):(ST×ByteArray×ST×Int×Unit)->WT:=fun s w=>∃ n,loopC (F76.b3 Q) n s w
def F76.vc (x0A:Option Addr) (x0n x0c:Nat) (x1:ByteArray) (w:World) (Q:QT):Prop :=
 jnC (F76.l3 Q) ((x0A,x0n,x0c),x1,(none,0,0),(0),()) w
def F76.an:Ann:=⟨[(3,[(0,.kSl),(1,.kS),(5,.kSl),(6,.kI .i64)])],[]⟩
theorem F76.of (x0A:Option Addr) (x0n x0c:Nat) (x1:ByteArray) (w:World) {Q:QT} (h:F76.vc x0A x0n x0c x1 w Q):Calls Tryz.prog 76 #[VS x0A x0n x0c,VG x1] w (fun e w'=>∃ v,e=.returned v/\Q v w'):=vcFn_of (A:=F76.an) noCount mixed h (by kernel_rfl)
def F77.vc (x0:List Value) (w:World) (Q:QT):Prop :=
 nw w x0 36 fun b1 w2 =>
 ldSl w2 b1 0 fun A3 n4 c5 =>
 Calls Tryz.prog 120 #[VS A3 n4 c5] w2 fun e7 w6 =>
 ∃ (A8:Option Addr) (n9 c10:Nat),e7=.returned (VS A8 n9 c10)/\(
 Calls Tryz.prog 121 #[VS A8 n9 c10,Value.func (.func 122) #[] #[]] w6 fun e12 w11 =>
 e12=.returned (VT #[])/\(
 Calls Tryz.prog 123 #[VS A8 n9 c10,Value.func (.func 124) #[] #[]] w11 fun e14 w13 =>
 ∃ (A15:Option Addr) (n16 c17:Nat),e14=.returned (VS A15 n16 c17)/\(
 Q (VS A15 n16 c17) w13)))
def F77.an:Ann:=⟨[],[]⟩
theorem F77.of (x0:List Value) (w:World) {Q:QT} (h:F77.vc x0 w Q):Calls Tryz.prog 77 #[ofL x0] w (fun e w'=>∃ v,e=.returned v/\Q v w'):=vcFn_of (A:=F77.an) noCount mixed h (by kernel_rfl)
def F78.vc (x0A:Option Addr) (x0n x0c:Nat) (x1:List Value) (w:World) (Q:QT):Prop :=
 nw w x1 146 fun b1 w2 =>
 ldI .i64 w2 b1 0 fun i3 =>
 vIf (i3 == 1)
 (ldS w2 b1 (0+1) fun s4 =>
 ldI .i64 w2 b1 (0+3) fun i5 =>
 Calls Tryz.prog 125 #[VS x0A x0n x0c,VG s4,VI .i64 i5] w2 fun e7 w6 =>
 ∃ (A8:Option Addr) (n9 c10:Nat),e7=.returned (VS A8 n9 c10)/\(
 Q (VS A8 n9 c10) w6))
 (vIf (i3 == 3)
 (ldS w2 b1 (0+1) fun s11 =>
 Calls Tryz.prog 126 #[VS x0A x0n x0c,VG s11] w2 fun e13 w12 =>
 ∃ (A14:Option Addr) (n15 c16:Nat),∃ i17:Int,∃ t18:Bool,e13=.returned (VT #[VS A14 n15 c16,VI .i64 i17,VB t18])/\(
 Q (VS A14 n15 c16) w12))
 (vIf (i3 == 2)
 (ldS w2 b1 (0+1) fun s19 =>
 Calls Tryz.prog 126 #[VS x0A x0n x0c,VG s19] w2 fun e21 w20 =>
 ∃ (A22:Option Addr) (n23 c24:Nat),∃ i25:Int,∃ t26:Bool,e21=.returned (VT #[VS A22 n23 c24,VI .i64 i25,VB t26])/\(
 vIf t26
 (ldS w20 b1 (0+2) fun s27 =>
 Calls Tryz.prog 125 #[VS A22 n23 c24,VG s27,VI .i64 i25] w20 fun e29 w28 =>
 ∃ (A30:Option Addr) (n31 c32:Nat),e29=.returned (VS A30 n31 c32)/\(
 Q (VS A30 n31 c32) w28))
 (Q (VS x0A x0n x0c) w20)))
 (Q (VS x0A x0n x0c) w2)))
def F78.an:Ann:=⟨[],[]⟩
theorem F78.of (x0A:Option Addr) (x0n x0c:Nat) (x1:List Value) (w:World) {Q:QT} (h:F78.vc x0A x0n x0c x1 w Q):Calls Tryz.prog 78 #[VS x0A x0n x0c,ofL x1] w (fun e w'=>∃ v,e=.returned v/\Q v w'):=vcFn_of (A:=F78.an) noCount mixed h (by kernel_rfl)
def F81.vc (x0:Option Addr) (x1:ByteArray) (w:World) (Q:QT):Prop :=
 vIf x0.isNone
 (Q (VT #[VS none 0 0,VI .i64 1]) w)
 (dr x0 fun b1 o2 =>
 ldB w b1 (o2+6) fun t3 =>
 vIf t3
 (Q (VT #[VS none 0 0,VI .i64 11]) w)
 (dr x0 fun b4 o5 =>
 ldA 2 w b4 (o5+2) fun a6 =>
 Calls Tryz.prog 14 #[ofL a6,VG x1] w fun e8 w7 =>
 ∃ i9:Int,∃ t10:Bool,e8=.returned (VT #[VI .i64 i9,VB t10])/\(
 vIf (!t10)
 (Q (VT #[VS none 0 0,VI .i64 6]) w7)
 (dr x0 fun b11 o12 =>
 ldM w7 b11 (o12+4) fun m13 =>
 drM m13 fun r16 =>
 mlk w7 r16 .i64 i9 fun q14 =>
 lvA [VS none 0 0,VS none 0 0] q14 fun a15 =>
 Calls Tryz.prog 40 #[ofL a15] w7 fun e18 w17 =>
 ∃ (A19:Option Addr) (n20 c21:Nat),e18=.returned (VS A19 n20 c21)/\(
 Q (VT #[VS A19 n20 c21,VI .i64 0]) w17)))))
def F81.an:Ann:=⟨[],[]⟩
theorem F81.of (x0:Option Addr) (x1:ByteArray) (w:World) {Q:QT} (h:F81.vc x0 x1 w Q):Calls Tryz.prog 81 #[VP x0,VG x1] w (fun e w'=>∃ v,e=.returned v/\Q v w'):=vcFn_of (A:=F81.an) noCount mixed h (by kernel_rfl)
def F89.vc (x0A:Option Addr) (x0n x0c:Nat) (w:World) (Q:QT):Prop :=
 vIf x0A.isNone
 (Q (VS none 0 0) w)
 (nw w [] 5 fun b1 w2 =>
 app w2 1 1 [VI .u8 0] 5 (some ⟨b1,0,none⟩) 0 0 (VS x0A x0n x0c) fun A3 n4 c5 w6 =>
 Q (VS A3 n4 c5) w6)
def F89.an:Ann:=⟨[],[]⟩
theorem F89.of (x0A:Option Addr) (x0n x0c:Nat) (w:World) {Q:QT} (h:F89.vc x0A x0n x0c w Q):Calls Tryz.prog 89 #[VS x0A x0n x0c] w (fun e w'=>∃ v,e=.returned v/\Q v w'):=vcFn_of (A:=F89.an) noCount mixed h (by kernel_rfl)
def F90.b5c (Q:QT) (C5:(ST×Int×Int×Int×Int×Unit)->WT) (x0:ST) (x1:Int) (x8:Int) (x23:Int) (x24:Int) (w:World):Prop :=
 vIf (decide (x24 < x23))
 (dr x0.1 fun b4 o5 =>
 gd (decide (0<=(WR .i64 (x1+x24)))) <|
 gd (decide ((WR .i64 (x1+x24)) < (x0.2.1:Int))) <|
 ldI .u8 w b4 (o5+((WR .i64 (x1+x24))).toNat * 1) fun i6 =>
 gd (decide (0<=(WR .i64 (8 * x24)))) <|
 jnC C5 ((x0.1,x0.2.1,x0.2.2),x1,((iOr .u64 x8 (WR .u64 ((WR .u64 i6) * 2 ^ (min ((WR .i64 (8 * x24))).toNat 64))))),x23,((WR .i64 (x24+1))),()) w)
 (Q (VT #[VI .u64 x8,VB true]) w)
def F90.b5 (Q:QT):(ST×Int×Int×Int×Int×Unit)->World->((ST×Int×Int×Int×Int×Unit)->WT)->Prop:=fun s w C5=>∀ _:Nat->Value,F90.b5c Q C5 s.1 s.2.1 s.2.2.1 s.2.2.2.1 s.2.2.2.2.1 w
def F90.l5 (Q:QT):(ST×Int×Int×Int×Int×Unit)->WT:=fun s w=>∃ n,loopC (F90.b5 Q) n s w
def F90.k3c (Q:QT) (x0:ST) (x1:Int) (x2:Int) (w:World):Prop :=
 jnC (F90.l5 Q) ((x0.1,x0.2.1,x0.2.2),x1,(0),x2,(0),()) w
def F90.k3 (Q:QT):(ST×Int×Int×Unit)->WT:=fun s w=>∀ _:Nat->Value,F90.k3c Q s.1 s.2.1 s.2.2.1 w
def F90.vc (x0A:Option Addr) (x0n x0c:Nat) (x1:Int) (x2:Int) (w:World) (Q:QT):Prop :=
 vIf (decide (x2 < 1))
 (Q (VT #[VI .u64 0,VB false]) w)
 (vIf (decide (x2 > 8))
 (Q (VT #[VI .u64 0,VB false]) w)
 (Calls Tryz.prog 144 #[VS x0A x0n x0c,VI .i64 x1,VI .i64 x2] w fun e2 w1 =>
 ∃ t3:Bool,e2=.returned (VB t3)/\(
 vIf (!t3)
 (Q (VT #[VI .u64 0,VB false]) w1)
 (jnC (F90.k3 Q) ((x0A,x0n,x0c),x1,x2,()) w1))))
def F90.an:Ann:=⟨[(5,[(0,.kSl),(1,.kI .i64),(8,.kI .u64),(23,.kI .i64),(24,.kI .i64)])],[(3,[(0,.kSl),(1,.kI .i64),(2,.kI .i64)])]⟩
theorem F90.of (x0A:Option Addr) (x0n x0c:Nat) (x1:Int) (x2:Int) (w:World) {Q:QT} (h:F90.vc x0A x0n x0c x1 x2 w Q):Calls Tryz.prog 90 #[VS x0A x0n x0c,VI .i64 x1,VI .i64 x2] w (fun e w'=>∃ v,e=.returned v/\Q v w'):=vcFn_of (A:=F90.an) noCount mixed h (by kernel_rfl)
def F91.vc (x0A:Option Addr) (x0n x0c:Nat) (w:World) (Q:QT):Prop :=
 Calls Tryz.prog 145 #[VI .u32 0,VS x0A x0n x0c] w fun e2 w1 =>
 ∃ i3:Int,e2=.returned (VI .u32 i3)/\(
 Q (VI .u32 i3) w1)
def F91.an:Ann:=⟨[],[]⟩
theorem F91.of (x0A:Option Addr) (x0n x0c:Nat) (w:World) {Q:QT} (h:F91.vc x0A x0n x0c w Q):Calls Tryz.prog 91 #[VS x0A x0n x0c] w (fun e w'=>∃ v,e=.returned v/\Q v w'):=vcFn_of (A:=F91.an) noCount mixed h (by kernel_rfl)
def F92a.k1c (Q:QT) (x0:Option Addr) (x1:(NT×NT×NT× Unit)) (w:World):Prop :=
 dr x0 fun b4 o5 =>
 ldI .i64 w b4 (o5+1) fun i6 =>
 Calls Tryz.prog 93 #[VI .i64 i6,VP (some ⟨x1.1.1,x1.1.2,none⟩),VP (some ⟨x1.2.1.1,x1.2.1.2,none⟩),VP (some ⟨x1.2.2.1.1,x1.2.2.1.2,none⟩)] w fun e8 w7 =>
 ∃ i9:Int,∃ i10:Int,e8=.returned (VT #[VI .i64 i9,VI .i64 i10])/\(
 vIf (i10 != 0)
 (dr x0 fun b11 o12 =>
 st w7 b11 (o12+2) [VI .i64 i10] fun w13 =>
 Q (VT #[]) w13)
 (dr x0 fun b14 o15 =>
 st w7 b14 (o15+1) [VI .i64 i9] fun w16 =>
 Q (VT #[]) w16))
def F92a.k1 (Q:QT):(Option Addr×(NT×NT×NT× Unit)×Unit)->WT:=fun s w=>∀ _:Nat->Value,F92a.k1c Q s.1 s.2.1 w
def F92a.vc (x0:Option Addr) (x1:NT×NT×NT×Unit) (w:World) (Q:QT):Prop :=
 vIf x0.isNone
 (Q (VT #[]) w)
 (dr x0 fun b1 o2 =>
 ldI .i64 w b1 (o2+2) fun i3 =>
 vIf (i3 != 0)
 (Q (VT #[]) w)
 (jnC (F92a.k1 Q) (x0,((x1.1.1,x1.1.2),(x1.2.1.1,x1.2.1.2),(x1.2.2.1.1,x1.2.2.1.2),()),()) w))
def F92a.an:Ann:=⟨[],[(1,[(0,.kP),(1,.kH 93 3)])]⟩
theorem F92a.of (x0:Option Addr) (x1:NT×NT×NT×Unit) (w:World) {Q:QT} (h:F92a.vc x0 x1 w Q):Calls Tryz.prog 92 #[VP x0,Value.func (.func 93) #[] #[VP (some ⟨x1.1.1,x1.1.2,none⟩),VP (some ⟨x1.2.1.1,x1.2.1.2,none⟩),VP (some ⟨x1.2.2.1.1,x1.2.2.1.2,none⟩)]] w (fun e w'=>∃ v,e=.returned v/\Q v w'):=vcFn_of (A:=F92a.an) noCount mixed h (by kernel_rfl)
def F92b.k1c (Q:QT) (x0:Option Addr) (x1:(NT×NT× Unit)) (w:World):Prop :=
 dr x0 fun b4 o5 =>
 ldI .i64 w b4 (o5+1) fun i6 =>
 Calls Tryz.prog 95 #[VI .i64 i6,VP (some ⟨x1.1.1,x1.1.2,none⟩),VP (some ⟨x1.2.1.1,x1.2.1.2,none⟩)] w fun e8 w7 =>
 ∃ i9:Int,∃ i10:Int,e8=.returned (VT #[VI .i64 i9,VI .i64 i10])/\(
 vIf (i10 != 0)
 (dr x0 fun b11 o12 =>
 st w7 b11 (o12+2) [VI .i64 i10] fun w13 =>
 Q (VT #[]) w13)
 (dr x0 fun b14 o15 =>
 st w7 b14 (o15+1) [VI .i64 i9] fun w16 =>
 Q (VT #[]) w16))
def F92b.k1 (Q:QT):(Option Addr×(NT×NT× Unit)×Unit)->WT:=fun s w=>∀ _:Nat->Value,F92b.k1c Q s.1 s.2.1 w
def F92b.vc (x0:Option Addr) (x1:NT×NT×Unit) (w:World) (Q:QT):Prop :=
 vIf x0.isNone
 (Q (VT #[]) w)
 (dr x0 fun b1 o2 =>
 ldI .i64 w b1 (o2+2) fun i3 =>
 vIf (i3 != 0)
 (Q (VT #[]) w)
 (jnC (F92b.k1 Q) (x0,((x1.1.1,x1.1.2),(x1.2.1.1,x1.2.1.2),()),()) w))
def F92b.an:Ann:=⟨[],[(1,[(0,.kP),(1,.kH 95 2)])]⟩
theorem F92b.of (x0:Option Addr) (x1:NT×NT×Unit) (w:World) {Q:QT} (h:F92b.vc x0 x1 w Q):Calls Tryz.prog 92 #[VP x0,Value.func (.func 95) #[] #[VP (some ⟨x1.1.1,x1.1.2,none⟩),VP (some ⟨x1.2.1.1,x1.2.1.2,none⟩)]] w (fun e w'=>∃ v,e=.returned v/\Q v w'):=vcFn_of (A:=F92b.an) noCount mixed h (by kernel_rfl)
def F92c.k1c (Q:QT) (x0:Option Addr) (x1:(NT×NT× Unit)) (w:World):Prop :=
 dr x0 fun b4 o5 =>
 ldI .i64 w b4 (o5+1) fun i6 =>
 Calls Tryz.prog 146 #[VI .i64 i6,VP (some ⟨x1.1.1,x1.1.2,none⟩),VP (some ⟨x1.2.1.1,x1.2.1.2,none⟩)] w fun e8 w7 =>
 ∃ i9:Int,∃ i10:Int,e8=.returned (VT #[VI .i64 i9,VI .i64 i10])/\(
 vIf (i10 != 0)
 (dr x0 fun b11 o12 =>
 st w7 b11 (o12+2) [VI .i64 i10] fun w13 =>
 Q (VT #[]) w13)
 (dr x0 fun b14 o15 =>
 st w7 b14 (o15+1) [VI .i64 i9] fun w16 =>
 Q (VT #[]) w16))
def F92c.k1 (Q:QT):(Option Addr×(NT×NT× Unit)×Unit)->WT:=fun s w=>∀ _:Nat->Value,F92c.k1c Q s.1 s.2.1 w
def F92c.vc (x0:Option Addr) (x1:NT×NT×Unit) (w:World) (Q:QT):Prop :=
 vIf x0.isNone
 (Q (VT #[]) w)
 (dr x0 fun b1 o2 =>
 ldI .i64 w b1 (o2+2) fun i3 =>
 vIf (i3 != 0)
 (Q (VT #[]) w)
 (jnC (F92c.k1 Q) (x0,((x1.1.1,x1.1.2),(x1.2.1.1,x1.2.1.2),()),()) w))
def F92c.an:Ann:=⟨[],[(1,[(0,.kP),(1,.kH 146 2)])]⟩
theorem F92c.of (x0:Option Addr) (x1:NT×NT×Unit) (w:World) {Q:QT} (h:F92c.vc x0 x1 w Q):Calls Tryz.prog 92 #[VP x0,Value.func (.func 146) #[] #[VP (some ⟨x1.1.1,x1.1.2,none⟩),VP (some ⟨x1.2.1.1,x1.2.1.2,none⟩)]] w (fun e w'=>∃ v,e=.returned v/\Q v w'):=vcFn_of (A:=F92c.an) noCount mixed h (by kernel_rfl)
def F92d.k1c (Q:QT) (x0:Option Addr) (x1:(NT×NT× Unit)) (w:World):Prop :=
 dr x0 fun b4 o5 =>
 ldI .i64 w b4 (o5+1) fun i6 =>
 Calls Tryz.prog 147 #[VI .i64 i6,VP (some ⟨x1.1.1,x1.1.2,none⟩),VP (some ⟨x1.2.1.1,x1.2.1.2,none⟩)] w fun e8 w7 =>
 ∃ i9:Int,∃ i10:Int,e8=.returned (VT #[VI .i64 i9,VI .i64 i10])/\(
 vIf (i10 != 0)
 (dr x0 fun b11 o12 =>
 st w7 b11 (o12+2) [VI .i64 i10] fun w13 =>
 Q (VT #[]) w13)
 (dr x0 fun b14 o15 =>
 st w7 b14 (o15+1) [VI .i64 i9] fun w16 =>
 Q (VT #[]) w16))
def F92d.k1 (Q:QT):(Option Addr×(NT×NT× Unit)×Unit)->WT:=fun s w=>∀ _:Nat->Value,F92d.k1c Q s.1 s.2.1 w
def F92d.vc (x0:Option Addr) (x1:NT×NT×Unit) (w:World) (Q:QT):Prop :=
 vIf x0.isNone
 (Q (VT #[]) w)
 (dr x0 fun b1 o2 =>
 ldI .i64 w b1 (o2+2) fun i3 =>
 vIf (i3 != 0)
 (Q (VT #[]) w)
 (jnC (F92d.k1 Q) (x0,((x1.1.1,x1.1.2),(x1.2.1.1,x1.2.1.2),()),()) w))
def F92d.an:Ann:=⟨[],[(1,[(0,.kP),(1,.kH 147 2)])]⟩
theorem F92d.of (x0:Option Addr) (x1:NT×NT×Unit) (w:World) {Q:QT} (h:F92d.vc x0 x1 w Q):Calls Tryz.prog 92 #[VP x0,Value.func (.func 147) #[] #[VP (some ⟨x1.1.1,x1.1.2,none⟩),VP (some ⟨x1.2.1.1,x1.2.1.2,none⟩)]] w (fun e w'=>∃ v,e=.returned v/\Q v w'):=vcFn_of (A:=F92d.an) noCount mixed h (by kernel_rfl)
def F93.k6c (Q:QT) (x3:NT) (x7:Int) (x8:Int) (w:World):Prop :=
 st w x3.1 x3.2 [VI .i64 (WR .i64 x7)] fun w14 =>
 Q (VT #[VI .i64 x8,VI .i64 0]) w14
def F93.k6 (Q:QT):(NT×Int×Int×Unit)->WT:=fun s w=>∀ _:Nat->Value,F93.k6c Q s.1 s.2.1 s.2.2.1 w
def F93.vc (x0:Int) (x1:Nat×Nat) (x2:Nat×Nat) (x3:Nat×Nat) (w:World) (Q:QT):Prop :=
 ldP w x1.1 x1.2 fun p1 =>
 dr p1 fun b2 o3 =>
 ldSl w b2 o3 fun A4 n5 c6 =>
 Calls Tryz.prog 94 #[VS A4 n5 c6,VI .i64 x0] w fun e8 w7 =>
 ∃ i9:Int,∃ i10:Int,∃ i11:Int,e8=.returned (VT #[VI .u64 i9,VI .i64 i10,VI .i64 i11])/\(
 vIf (i11 != 0)
 (Q (VT #[VI .i64 0,VI .i64 i11]) w7)
 (ldI .i64 w7 x2.1 x2.2 fun i12 =>
 vIf (decide (i12 < 0))
 (Q (VT #[VI .i64 0,VI .i64 20]) w7)
 (ldI .i64 w7 x2.1 x2.2 fun i13 =>
 vIf (decide (i9 > (WR .u64 i13)))
 (Q (VT #[VI .i64 0,VI .i64 20]) w7)
 (jnC (F93.k6 Q) ((x3.1,x3.2),i9,i10,()) w7))))
def F93.an:Ann:=⟨[],[(6,[(3,.kL),(7,.kI .u64),(8,.kI .i64)])]⟩
theorem F93.of (x0:Int) (x1:Nat×Nat) (x2:Nat×Nat) (x3:Nat×Nat) (w:World) {Q:QT} (h:F93.vc x0 x1 x2 x3 w Q):Calls Tryz.prog 93 #[VI .i64 x0,VP (some ⟨x1.1,x1.2,none⟩),VP (some ⟨x2.1,x2.2,none⟩),VP (some ⟨x3.1,x3.2,none⟩)] w (fun e w'=>∃ v,e=.returned v/\Q v w'):=vcFn_of (A:=F93.an) noCount mixed h (by kernel_rfl)
def F94.k17c (Q:QT) (x8:Int) (w:World):Prop :=
 Q (VT #[VI .u64 0,VI .i64 0,VI .i64 x8]) w
def F94.k17 (Q:QT):(Int×Unit)->WT:=fun s w=>∀ _:Nat->Value,F94.k17c Q s.1 w
def F94.k15c (Q:QT) (C6:(Int×Int×Int×ST×Int×Int×Unit)->WT) (x7:Int) (x9:Int) (w:World):Prop :=
 Q (VT #[VI .u64 x7,VI .i64 x9,VI .i64 0]) w
def F94.k15 (Q:QT) (C6:(Int×Int×Int×ST×Int×Int×Unit)->WT):(Int×Int×Unit)->WT:=fun s w=>∀ _:Nat->Value,F94.k15c Q C6 s.1 s.2.1 w
def F94.k11c (Q:QT) (C6:(Int×Int×Int×ST×Int×Int×Unit)->WT) (x7:Int) (x8:Int) (x9:Int) (x10:Int) (x11:Int) (x23:ST) (x24:Int) (x25:Int) (x40:Bool) (w:World):Prop :=
 vIf x40
 (jnC (F94.k17 Q) ((20),()) w)
 (vIf (decide (x11 >= 128))
 (jnC C6 (x7,x8,x9,(x23.1,x23.2.1,x23.2.2),x24,((WR .i64 (x25+1))),()) w)
 (vIf (x11 == 0)
 (vIf (decide (x10 > 0))
 (jnC (F94.k17 Q) ((3),()) w)
 (jnC (F94.k15 Q C6) (x7,x9,()) w))
 (jnC (F94.k15 Q C6) (x7,x9,()) w)))
def F94.k11 (Q:QT) (C6:(Int×Int×Int×ST×Int×Int×Unit)->WT):(Int×Int×Int×Int×Int×ST×Int×Int×Bool×Unit)->WT:=fun s w=>∀ _:Nat->Value,F94.k11c Q C6 s.1 s.2.1 s.2.2.1 s.2.2.2.1 s.2.2.2.2.1 s.2.2.2.2.2.1 s.2.2.2.2.2.2.1 s.2.2.2.2.2.2.2.1 s.2.2.2.2.2.2.2.2.1 w
def F94.b6c (Q:QT) (C6:(Int×Int×Int×ST×Int×Int×Unit)->WT) (x7:Int) (x8:Int) (x9:Int) (x23:ST) (x24:Int) (x25:Int) (w:World):Prop :=
 vIf (decide (x25 < x24))
 (dr x23.1 fun b1 o2 =>
 gd (decide (0<=x25)) <|
 gd (decide (x25 < (x23.2.1:Int))) <|
 ldI .u8 w b1 (o2+(x25).toNat * 1) fun i3 =>
 gd (decide (0<=(WR .i64 (7 * x25)))) <|
 vIf (x25 == 9)
 (jnC (F94.k11 Q C6) (((iOr .u64 x7 (WR .u64 ((WR .u64 (iAnd .u8 i3 127)) * 2 ^ (min ((WR .i64 (7 * x25))).toNat 64))))),x8,((WR .i64 (x9+1))),x25,i3,(x23.1,x23.2.1,x23.2.2),x24,x25,(decide (i3 > 1)),()) w)
 (jnC (F94.k11 Q C6) (((iOr .u64 x7 (WR .u64 ((WR .u64 (iAnd .u8 i3 127)) * 2 ^ (min ((WR .i64 (7 * x25))).toNat 64))))),x8,((WR .i64 (x9+1))),x25,i3,(x23.1,x23.2.1,x23.2.2),x24,x25,false,()) w))
 (jnC (F94.k17 Q) (x8,()) w)
def F94.b6 (Q:QT):(Int×Int×Int×ST×Int×Int×Unit)->World->((Int×Int×Int×ST×Int×Int×Unit)->WT)->Prop:=fun s w C6=>∀ _:Nat->Value,F94.b6c Q C6 s.1 s.2.1 s.2.2.1 s.2.2.2.1 s.2.2.2.2.1 s.2.2.2.2.2.1 w
def F94.l6 (Q:QT):(Int×Int×Int×ST×Int×Int×Unit)->WT:=fun s w=>∃ n,loopC (F94.b6 Q) n s w
def F94.k3c (Q:QT) (x0:ST) (x1:Int) (w:World):Prop :=
 gd (decide (0<=x1)) <|
 gd (decide (x1<=(x0.2.1:Int))) <|
 jnC (F94.l6 Q) ((0),(4),x1,((slA x0.1 x0.2.2 (x1).toNat 1),(x0.2.1 - (x1).toNat),(x0.2.2 - (x1).toNat)),((((x0.2.1 - (x1).toNat):Nat):Int)),(0),()) w
def F94.k3 (Q:QT):(ST×Int×Unit)->WT:=fun s w=>∀ _:Nat->Value,F94.k3c Q s.1 s.2.1 w
def F94.k2c (Q:QT) (x0:ST) (x1:Int) (x19:Bool) (w:World):Prop :=
 vIf x19
 (Q (VT #[VI .u64 0,VI .i64 0,VI .i64 2]) w)
 (jnC (F94.k3 Q) ((x0.1,x0.2.1,x0.2.2),x1,()) w)
def F94.k2 (Q:QT):(ST×Int×Bool×Unit)->WT:=fun s w=>∀ _:Nat->Value,F94.k2c Q s.1 s.2.1 s.2.2.1 w
def F94.vc (x0A:Option Addr) (x0n x0c:Nat) (x1:Int) (w:World) (Q:QT):Prop :=
 vIf (decide (x1 < 0))
 (jnC (F94.k2 Q) ((x0A,x0n,x0c),x1,true,()) w)
 (jnC (F94.k2 Q) ((x0A,x0n,x0c),x1,(decide (x1 > (x0n:Int))),()) w)
def F94.an:Ann:=⟨[(6,[(7,.kI .u64),(8,.kI .i64),(9,.kI .i64),(23,.kSl),(24,.kI .i64),(25,.kI .i64)])],[(2,[(0,.kSl),(1,.kI .i64),(19,.kB)]),(3,[(0,.kSl),(1,.kI .i64)]),(11,[(7,.kI .u64),(8,.kI .i64),(9,.kI .i64),(10,.kI .i64),(11,.kI .u8),(23,.kSl),(24,.kI .i64),(25,.kI .i64),(40,.kB)]),(15,[(7,.kI .u64),(9,.kI .i64)]),(17,[(8,.kI .i64)])]⟩
theorem F94.of (x0A:Option Addr) (x0n x0c:Nat) (x1:Int) (w:World) {Q:QT} (h:F94.vc x0A x0n x0c x1 w Q):Calls Tryz.prog 94 #[VS x0A x0n x0c,VI .i64 x1] w (fun e w'=>∃ v,e=.returned v/\Q v w'):=vcFn_of (A:=F94.an) noCount mixed h (by kernel_rfl)
def F95.vc (x0:Int) (x1:Nat×Nat) (x2:Nat×Nat) (w:World) (Q:QT):Prop :=
 ldP w x1.1 x1.2 fun p1 =>
 dr p1 fun b2 o3 =>
 ldSl w b2 o3 fun A4 n5 c6 =>
 Calls Tryz.prog 94 #[VS A4 n5 c6,VI .i64 x0] w fun e8 w7 =>
 ∃ i9:Int,∃ i10:Int,∃ i11:Int,e8=.returned (VT #[VI .u64 i9,VI .i64 i10,VI .i64 i11])/\(
 st w7 x2.1 x2.2 [VI .u64 i9] fun w12 =>
 Q (VT #[VI .i64 i10,VI .i64 i11]) w12)
def F95.an:Ann:=⟨[],[]⟩
theorem F95.of (x0:Int) (x1:Nat×Nat) (x2:Nat×Nat) (w:World) {Q:QT} (h:F95.vc x0 x1 x2 w Q):Calls Tryz.prog 95 #[VI .i64 x0,VP (some ⟨x1.1,x1.2,none⟩),VP (some ⟨x2.1,x2.2,none⟩)] w (fun e w'=>∃ v,e=.returned v/\Q v w'):=vcFn_of (A:=F95.an) noCount mixed h (by kernel_rfl)
def F96.k9c (Q:QT) (x2:NT) (x4:NT) (w:World):Prop :=
 st w x4.1 x4.2 [VB true] fun w6 =>
 ldA 3 w6 x4.1 x4.2 fun a7 =>
 gd (a7.length == 3) <|
 st w6 x2.1 x2.2 a7 fun w8 =>
 ldA 3 w8 x2.1 x2.2 fun a9 =>
 Q (VT #[ofL a9,VB true]) w8
def F96.k9 (Q:QT):(NT×NT×Unit)->WT:=fun s w=>∀ _:Nat->Value,F96.k9c Q s.1 s.2.1 w
def F96.k12c (Q:QT) (x2:NT) (x4:NT) (w:World):Prop :=
 st w x4.1 (x4.2+1) [VB true] fun w11 =>
 ldA 3 w11 x4.1 x4.2 fun a12 =>
 gd (a12.length == 3) <|
 st w11 x2.1 x2.2 a12 fun w13 =>
 ldA 3 w13 x2.1 x2.2 fun a14 =>
 Q (VT #[ofL a14,VB true]) w13
def F96.k12 (Q:QT):(NT×NT×Unit)->WT:=fun s w=>∀ _:Nat->Value,F96.k12c Q s.1 s.2.1 w
def F96.k14c (Q:QT) (x2:NT) (x4:NT) (w:World):Prop :=
 ldA 3 w x4.1 x4.2 fun a15 =>
 gd (a15.length == 3) <|
 st w x2.1 x2.2 a15 fun w16 =>
 ldA 3 w16 x2.1 x2.2 fun a17 =>
 Q (VT #[ofL a17,VB false]) w16
def F96.k14 (Q:QT):(NT×NT×Unit)->WT:=fun s w=>∀ _:Nat->Value,F96.k14c Q s.1 s.2.1 w
def F96.k5c (Q:QT) (x2:NT) (x4:NT) (x5:Int) (w:World):Prop :=
 vIf (x5 == 5)
 (jnC (F96.k9 Q) ((x2.1,x2.2),(x4.1,x4.2),()) w)
 (vIf (x5 == 3)
 (st w x4.1 x4.2 [VB true] fun w10 =>
 jnC (F96.k12 Q) ((x2.1,x2.2),(x4.1,x4.2),()) w10)
 (vIf (x5 == 4)
 (jnC (F96.k12 Q) ((x2.1,x2.2),(x4.1,x4.2),()) w)
 (jnC (F96.k14 Q) ((x2.1,x2.2),(x4.1,x4.2),()) w)))
def F96.k5 (Q:QT):(NT×NT×Int×Unit)->WT:=fun s w=>∀ _:Nat->Value,F96.k5c Q s.1 s.2.1 s.2.2.1 w
def F96.vc (x0:Int) (w:World) (Q:QT):Prop :=
 nw w [VB false,VB false,VB false] 177 fun b1 w2 =>
 nw w2 [VB false,VB false,VB false] 177 fun b3 w4 =>
 vIf (x0 == 1)
 (vIf (x0 == 1)
 (st w4 b3 (0+2) [VB true] fun w5 =>
 jnC (F96.k9 Q) ((b1,0),(b3,0),()) w5)
 (jnC (F96.k5 Q) ((b1,0),(b3,0),x0,()) w4))
 (vIf (x0 == 2)
 (st w4 b3 (0+2) [VB true] fun w18 =>
 jnC (F96.k9 Q) ((b1,0),(b3,0),()) w18)
 (jnC (F96.k5 Q) ((b1,0),(b3,0),x0,()) w4))
def F96.an:Ann:=⟨[],[(5,[(2,.kL),(4,.kL),(5,.kI .i64)]),(9,[(2,.kL),(4,.kL)]),(12,[(2,.kL),(4,.kL)]),(14,[(2,.kL),(4,.kL)])]⟩
theorem F96.of (x0:Int) (w:World) {Q:QT} (h:F96.vc x0 w Q):Calls Tryz.prog 96 #[VI .i64 x0] w (fun e w'=>∃ v,e=.returned v/\Q v w'):=vcFn_of (A:=F96.an) noCount mixed h (by kernel_rfl)
def F97.vc (x0:Option Addr) (w:World) (Q:QT):Prop :=
 nw w [VP x0] 106 fun b1 w2 =>
 nw w2 Z90 90 fun b3 w4 =>
 nw w4 Z90 90 fun b5 w6 =>
 ldP w6 b1 0 fun p7 =>
 Calls Tryz.prog 92 #[VP p7,Value.func (.func 146) #[] #[VP (some ⟨b1,0,none⟩),VP (some ⟨b5,0,none⟩)]] w6 fun e9 w8 =>
 e9=.returned (VT #[])/\(
 ldA 32 w8 b5 0 fun a10 =>
 gd (a10.length == 32) <|
 st w8 b3 0 a10 fun w11 =>
 ldA 32 w11 b3 0 fun a12 =>
 Q (ofL a12) w11)
def F97.an:Ann:=⟨[],[]⟩
theorem F97.of (x0:Option Addr) (w:World) {Q:QT} (h:F97.vc x0 w Q):Calls Tryz.prog 97 #[VP x0] w (fun e w'=>∃ v,e=.returned v/\Q v w'):=vcFn_of (A:=F97.an) noCount mixed h (by kernel_rfl)
def F98.vc (x0:Option Addr) (w:World) (Q:QT):Prop :=
 nw w [VP x0] 106 fun b1 w2 =>
 nw w2 [VG (⟨#[]⟩:ByteArray)] 9 fun b3 w4 =>
 st w4 b3 0 [VG (⟨#[]⟩:ByteArray)] fun w5 =>
 ldP w5 b1 0 fun p6 =>
 Calls Tryz.prog 92 #[VP p6,Value.func (.func 147) #[] #[VP (some ⟨b1,0,none⟩),VP (some ⟨b3,0,none⟩)]] w5 fun e8 w7 =>
 e8=.returned (VT #[])/\(
 ldS w7 b3 0 fun s9 =>
 Q (VG s9) w7)
def F98.an:Ann:=⟨[],[]⟩
theorem F98.of (x0:Option Addr) (w:World) {Q:QT} (h:F98.vc x0 w Q):Calls Tryz.prog 98 #[VP x0] w (fun e w'=>∃ v,e=.returned v/\Q v w'):=vcFn_of (A:=F98.an) noCount mixed h (by kernel_rfl)
def F99.k8c (Q:QT) (x2:NT) (w:World):Prop :=
 ldS w x2.1 (x2.2+34) fun s18 =>
 Q (VB (s18.toList == (⟨#[]⟩:ByteArray).toList)) w
def F99.k8 (Q:QT):(NT×Unit)->WT:=fun s w=>∀ _:Nat->Value,F99.k8c Q s.1 w
def F99.k5c (Q:QT) (x2:NT) (x5:NT) (x43:Bool) (w:World):Prop :=
 vIf x43
 (Q (VB false) w)
 (ldB w x5.1 (x5.2+1) fun t13 =>
 vIf t13
 (ldS w x2.1 (x2.2+34) fun s14 =>
 Calls Tryz.prog 150 #[VG s14] w fun e16 w15 =>
 ∃ t17:Bool,e16=.returned (VB t17)/\(
 Q (VB t17) w15))
 (jnC (F99.k8 Q) ((x2.1,x2.2),()) w))
def F99.k5 (Q:QT):(NT×NT×Bool×Unit)->WT:=fun s w=>∀ _:Nat->Value,F99.k5c Q s.1 s.2.1 s.2.2.1 w
def F99.k3c (Q:QT) (x2:NT) (x5:NT) (x13:Bool) (w:World):Prop :=
 vIf x13
 (Q (VB false) w)
 (ldB w x5.1 (x5.2+2) fun t11 =>
 vIf (!t11)
 (ldI .i64 w x2.1 (x2.2+35) fun i12 =>
 vIf (i12 != 0)
 (jnC (F99.k5 Q) ((x2.1,x2.2),(x5.1,x5.2),true,()) w)
 (ldB w x5.1 x5.2 fun t19 =>
 vIf (!t19)
 (ldA 32 w x2.1 (x2.2+2) fun a20 =>
 eqAB 32 a20 ([VI .u8 0] ++ ([VI .u8 0] ++ ([VI .u8 0] ++ ([VI .u8 0] ++ ([VI .u8 0] ++ ([VI .u8 0] ++ ([VI .u8 0] ++ ([VI .u8 0] ++ ([VI .u8 0] ++ ([VI .u8 0] ++ ([VI .u8 0] ++ ([VI .u8 0] ++ ([VI .u8 0] ++ ([VI .u8 0] ++ ([VI .u8 0] ++ ([VI .u8 0] ++ ([VI .u8 0] ++ ([VI .u8 0] ++ ([VI .u8 0] ++ ([VI .u8 0] ++ ([VI .u8 0] ++ ([VI .u8 0] ++ ([VI .u8 0] ++ ([VI .u8 0] ++ ([VI .u8 0] ++ ([VI .u8 0] ++ ([VI .u8 0] ++ ([VI .u8 0] ++ ([VI .u8 0] ++ ([VI .u8 0] ++ ([VI .u8 0] ++ ([VI .u8 0] ++ [])))))))))))))))))))))))))))))))) fun t21 =>
 jnC (F99.k5 Q) ((x2.1,x2.2),(x5.1,x5.2),(!t21),()) w)
 (jnC (F99.k5 Q) ((x2.1,x2.2),(x5.1,x5.2),false,()) w)))
 (ldB w x5.1 x5.2 fun t22 =>
 vIf (!t22)
 (ldA 32 w x2.1 (x2.2+2) fun a23 =>
 eqAB 32 a23 ([VI .u8 0] ++ ([VI .u8 0] ++ ([VI .u8 0] ++ ([VI .u8 0] ++ ([VI .u8 0] ++ ([VI .u8 0] ++ ([VI .u8 0] ++ ([VI .u8 0] ++ ([VI .u8 0] ++ ([VI .u8 0] ++ ([VI .u8 0] ++ ([VI .u8 0] ++ ([VI .u8 0] ++ ([VI .u8 0] ++ ([VI .u8 0] ++ ([VI .u8 0] ++ ([VI .u8 0] ++ ([VI .u8 0] ++ ([VI .u8 0] ++ ([VI .u8 0] ++ ([VI .u8 0] ++ ([VI .u8 0] ++ ([VI .u8 0] ++ ([VI .u8 0] ++ ([VI .u8 0] ++ ([VI .u8 0] ++ ([VI .u8 0] ++ ([VI .u8 0] ++ ([VI .u8 0] ++ ([VI .u8 0] ++ ([VI .u8 0] ++ ([VI .u8 0] ++ [])))))))))))))))))))))))))))))))) fun t24 =>
 jnC (F99.k5 Q) ((x2.1,x2.2),(x5.1,x5.2),(!t24),()) w)
 (jnC (F99.k5 Q) ((x2.1,x2.2),(x5.1,x5.2),false,()) w)))
def F99.k3 (Q:QT):(NT×NT×Bool×Unit)->WT:=fun s w=>∀ _:Nat->Value,F99.k3c Q s.1 s.2.1 s.2.2.1 w
def F99.vc (x0:List Value) (x1:Int) (w:World) (Q:QT):Prop :=
 nw w x0 113 fun b1 w2 =>
 ldI .i64 w2 b1 0 fun i3 =>
 Calls Tryz.prog 96 #[VI .i64 i3] w2 fun e5 w4 =>
 ∃ a6:List Value,∃ t7:Bool,e5=.returned (VT #[ofL a6,VB t7])/\(
 nw w4 [VB false,VB false,VB false] 177 fun b8 w9 =>
 gd (a6.length == 3) <|
 st w9 b8 0 a6 fun w10 =>
 vIf (!t7)
 (jnC (F99.k3 Q) ((b1,0),(b8,0),true,()) w10)
 (ldI .i64 w10 b1 (0+36) fun i25 =>
 vIf (i25 != x1)
 (jnC (F99.k3 Q) ((b1,0),(b8,0),true,()) w10)
 (ldI .i64 w10 b1 ((0+36)+1) fun i26 =>
 Calls Tryz.prog 149 #[VI .i64 i26] w10 fun e28 w27 =>
 ∃ t29:Bool,e28=.returned (VB t29)/\(
 vIf (!t29)
 (jnC (F99.k3 Q) ((b1,0),(b8,0),true,()) w27)
 (ldI .i64 w27 b1 ((0+36)+2) fun i30 =>
 Calls Tryz.prog 149 #[VI .i64 i30] w27 fun e32 w31 =>
 ∃ t33:Bool,e32=.returned (VB t33)/\(
 vIf (!t33)
 (jnC (F99.k3 Q) ((b1,0),(b8,0),true,()) w31)
 (ldI .i64 w31 b1 (0+35) fun i34 =>
 Calls Tryz.prog 149 #[VI .i64 i34] w31 fun e36 w35 =>
 ∃ t37:Bool,e36=.returned (VB t37)/\(
 jnC (F99.k3 Q) ((b1,0),(b8,0),(!t37),()) w35))))))))
def F99.an:Ann:=⟨[],[(3,[(2,.kL),(5,.kL),(13,.kB)]),(5,[(2,.kL),(5,.kL),(43,.kB)]),(8,[(2,.kL)])]⟩
theorem F99.of (x0:List Value) (x1:Int) (w:World) {Q:QT} (h:F99.vc x0 x1 w Q):Calls Tryz.prog 99 #[ofL x0,VI .i64 x1] w (fun e w'=>∃ v,e=.returned v/\Q v w'):=vcFn_of (A:=F99.an) noCount mixed h (by kernel_rfl)
def F100.vc (x0A:Option Addr) (x0n x0c:Nat) (x1:Int) (w:World) (Q:QT):Prop :=
 nw w Z92 92 fun b1 w2 =>
 Calls Tryz.prog 151 #[VS x0A x0n x0c,VI .i64 x1] w2 fun e4 w3 =>
 ∃ a5:List Value,∃ i6:Int,e4=.returned (VT #[ofL a5,VI .i64 i6])/\(
 nw w3 Z233 233 fun b7 w8 =>
 gd (a5.length == 4) <|
 st w8 b7 0 a5 fun w9 =>
 vIf (i6 != 0)
 (gd (([VI .i64 0] ++ ([VI .u64 0] ++ ([VI .u8 0,VI .u8 0,VI .u8 0,VI .u8 0,VI .u8 0,VI .u8 0,VI .u8 0,VI .u8 0,VI .u8 0,VI .u8 0,VI .u8 0,VI .u8 0,VI .u8 0,VI .u8 0,VI .u8 0,VI .u8 0,VI .u8 0,VI .u8 0,VI .u8 0,VI .u8 0,VI .u8 0,VI .u8 0,VI .u8 0,VI .u8 0,VI .u8 0,VI .u8 0,VI .u8 0,VI .u8 0,VI .u8 0,VI .u8 0,VI .u8 0,VI .u8 0] ++ ([VG (⟨#[]⟩:ByteArray)] ++ ([VS none 0 0] ++ ([VI .i64 0] ++ ([VI .i64 0] ++ []))))))).length == 38) <|
 st w9 b1 0 ([VI .i64 0] ++ ([VI .u64 0] ++ ([VI .u8 0,VI .u8 0,VI .u8 0,VI .u8 0,VI .u8 0,VI .u8 0,VI .u8 0,VI .u8 0,VI .u8 0,VI .u8 0,VI .u8 0,VI .u8 0,VI .u8 0,VI .u8 0,VI .u8 0,VI .u8 0,VI .u8 0,VI .u8 0,VI .u8 0,VI .u8 0,VI .u8 0,VI .u8 0,VI .u8 0,VI .u8 0,VI .u8 0,VI .u8 0,VI .u8 0,VI .u8 0,VI .u8 0,VI .u8 0,VI .u8 0,VI .u8 0] ++ ([VG (⟨#[]⟩:ByteArray)] ++ ([VS none 0 0] ++ ([VI .i64 0] ++ ([VI .i64 0] ++ []))))))) fun w10 =>
 ldA 38 w10 b1 0 fun a11 =>
 Q (VT #[ofL a11,VI .i64 0,VI .i64 i6]) w10)
 (ldI .i64 w9 b7 0 fun i12 =>
 ldI .u64 w9 b7 (0+1) fun i13 =>
 ldSl w9 b7 (0+2) fun A14 n15 c16 =>
 Calls Tryz.prog 152 #[ofL ([VI .i64 i12] ++ ([VI .u64 i13] ++ ([VI .u8 0,VI .u8 0,VI .u8 0,VI .u8 0,VI .u8 0,VI .u8 0,VI .u8 0,VI .u8 0,VI .u8 0,VI .u8 0,VI .u8 0,VI .u8 0,VI .u8 0,VI .u8 0,VI .u8 0,VI .u8 0,VI .u8 0,VI .u8 0,VI .u8 0,VI .u8 0,VI .u8 0,VI .u8 0,VI .u8 0,VI .u8 0,VI .u8 0,VI .u8 0,VI .u8 0,VI .u8 0,VI .u8 0,VI .u8 0,VI .u8 0,VI .u8 0] ++ ([VG (⟨#[]⟩:ByteArray)] ++ ([VS none 0 0] ++ ([VI .i64 0] ++ ([VI .i64 0] ++ []))))))),VS A14 n15 c16] w9 fun e18 w17 =>
 ∃ a19:List Value,∃ t20:Bool,e18=.returned (VT #[ofL a19,VB t20])/\(
 nw w17 Z92 92 fun b21 w22 =>
 gd (a19.length == 38) <|
 st w22 b21 0 a19 fun w23 =>
 vIf (!t20)
 (gd (([VI .i64 0] ++ ([VI .u64 0] ++ ([VI .u8 0,VI .u8 0,VI .u8 0,VI .u8 0,VI .u8 0,VI .u8 0,VI .u8 0,VI .u8 0,VI .u8 0,VI .u8 0,VI .u8 0,VI .u8 0,VI .u8 0,VI .u8 0,VI .u8 0,VI .u8 0,VI .u8 0,VI .u8 0,VI .u8 0,VI .u8 0,VI .u8 0,VI .u8 0,VI .u8 0,VI .u8 0,VI .u8 0,VI .u8 0,VI .u8 0,VI .u8 0,VI .u8 0,VI .u8 0,VI .u8 0,VI .u8 0] ++ ([VG (⟨#[]⟩:ByteArray)] ++ ([VS none 0 0] ++ ([VI .i64 0] ++ ([VI .i64 0] ++ []))))))).length == 38) <|
 st w23 b1 0 ([VI .i64 0] ++ ([VI .u64 0] ++ ([VI .u8 0,VI .u8 0,VI .u8 0,VI .u8 0,VI .u8 0,VI .u8 0,VI .u8 0,VI .u8 0,VI .u8 0,VI .u8 0,VI .u8 0,VI .u8 0,VI .u8 0,VI .u8 0,VI .u8 0,VI .u8 0,VI .u8 0,VI .u8 0,VI .u8 0,VI .u8 0,VI .u8 0,VI .u8 0,VI .u8 0,VI .u8 0,VI .u8 0,VI .u8 0,VI .u8 0,VI .u8 0,VI .u8 0,VI .u8 0,VI .u8 0,VI .u8 0] ++ ([VG (⟨#[]⟩:ByteArray)] ++ ([VS none 0 0] ++ ([VI .i64 0] ++ ([VI .i64 0] ++ []))))))) fun w24 =>
 ldA 38 w24 b1 0 fun a25 =>
 Q (VT #[ofL a25,VI .i64 0,VI .i64 3]) w24)
 (ldA 38 w23 b21 0 fun a26 =>
 Calls Tryz.prog 153 #[ofL a26] w23 fun e28 w27 =>
 ∃ i29:Int,e28=.returned (VI .i64 i29)/\(
 vIf (i29 != 0)
 (gd (([VI .i64 0] ++ ([VI .u64 0] ++ ([VI .u8 0,VI .u8 0,VI .u8 0,VI .u8 0,VI .u8 0,VI .u8 0,VI .u8 0,VI .u8 0,VI .u8 0,VI .u8 0,VI .u8 0,VI .u8 0,VI .u8 0,VI .u8 0,VI .u8 0,VI .u8 0,VI .u8 0,VI .u8 0,VI .u8 0,VI .u8 0,VI .u8 0,VI .u8 0,VI .u8 0,VI .u8 0,VI .u8 0,VI .u8 0,VI .u8 0,VI .u8 0,VI .u8 0,VI .u8 0,VI .u8 0,VI .u8 0] ++ ([VG (⟨#[]⟩:ByteArray)] ++ ([VS none 0 0] ++ ([VI .i64 0] ++ ([VI .i64 0] ++ []))))))).length == 38) <|
 st w27 b1 0 ([VI .i64 0] ++ ([VI .u64 0] ++ ([VI .u8 0,VI .u8 0,VI .u8 0,VI .u8 0,VI .u8 0,VI .u8 0,VI .u8 0,VI .u8 0,VI .u8 0,VI .u8 0,VI .u8 0,VI .u8 0,VI .u8 0,VI .u8 0,VI .u8 0,VI .u8 0,VI .u8 0,VI .u8 0,VI .u8 0,VI .u8 0,VI .u8 0,VI .u8 0,VI .u8 0,VI .u8 0,VI .u8 0,VI .u8 0,VI .u8 0,VI .u8 0,VI .u8 0,VI .u8 0,VI .u8 0,VI .u8 0] ++ ([VG (⟨#[]⟩:ByteArray)] ++ ([VS none 0 0] ++ ([VI .i64 0] ++ ([VI .i64 0] ++ []))))))) fun w30 =>
 ldA 38 w30 b1 0 fun a31 =>
 Q (VT #[ofL a31,VI .i64 0,VI .i64 i29]) w30)
 (ldA 38 w27.drew b21 0 fun a32 =>
 ldI .i64 w27.drew b7 (0+3) fun i33 =>
 gd (a32.length == 38) <|
 st w27.drew b1 0 a32 fun w34 =>
 kp w27.drew b7 (0+3) 1 w34 <|
 ldA 38 w34 b1 0 fun a35 =>
 Q (VT #[ofL a35,VI .i64 i33,VI .i64 0]) w34))))))
def F100.an:Ann:=⟨[],[]⟩
theorem F100.of (x0A:Option Addr) (x0n x0c:Nat) (x1:Int) (w:World) {Q:QT} (h:F100.vc x0A x0n x0c x1 w Q):Calls Tryz.prog 100 #[VS x0A x0n x0c,VI .i64 x1] w (fun e w'=>∃ v,e=.returned v/\Q v w'):=vcFn_of (A:=F100.an) noCount mixed h (by kernel_rfl)
def F101.vc (x0:Int) (w:World) (Q:QT):Prop :=
 vIf (decide (x0 >= 1))
 (Q (VB (decide (x0<=5))) w)
 (Q (VB false) w)
def F101.an:Ann:=⟨[],[]⟩
theorem F101.of (x0:Int) (w:World) {Q:QT} (h:F101.vc x0 w Q):Calls Tryz.prog 101 #[VI .i64 x0] w (fun e w'=>∃ v,e=.returned v/\Q v w'):=vcFn_of (A:=F101.an) noCount mixed h (by kernel_rfl)
def F102.k5c (Q:QT) (x2:NT) (x4:NT) (x5:NT) (x13:Int) (w:World):Prop :=
 vIf (x13 == 5)
 (ldA 32 w x2.1 (x2.2+2) fun a23 =>
 gd (a23.length == 32) <|
 st w x5.1 (x5.2+2) a23 fun w24 =>
 ldA 39 w24 x5.1 x5.2 fun a25 =>
 gd (a25.length == 39) <|
 st w24 x4.1 x4.2 a25 fun w26 =>
 ldA 39 w26 x4.1 x4.2 fun a27 =>
 Q (ofL a27) w26)
 (vIf (x13 == 3)
 (ldA 32 w x2.1 (x2.2+2) fun a28 =>
 gd (a28.length == 32) <|
 st w x5.1 (x5.2+2) a28 fun w29 =>
 ldS w29 x2.1 (x2.2+34) fun s30 =>
 st w29 x5.1 (x5.2+34) [VG s30] fun w31 =>
 ldA 39 w31 x5.1 x5.2 fun a32 =>
 gd (a32.length == 39) <|
 st w31 x4.1 x4.2 a32 fun w33 =>
 ldA 39 w33 x4.1 x4.2 fun a34 =>
 Q (ofL a34) w33)
 (vIf (x13 == 4)
 (ldS w x2.1 (x2.2+34) fun s35 =>
 st w x5.1 (x5.2+34) [VG s35] fun w36 =>
 ldA 39 w36 x5.1 x5.2 fun a37 =>
 gd (a37.length == 39) <|
 st w36 x4.1 x4.2 a37 fun w38 =>
 ldA 39 w38 x4.1 x4.2 fun a39 =>
 Q (ofL a39) w38)
 (vIf (x13 == 6)
 (vIf (x13 == 6)
 (ldI .i64 w x2.1 (x2.2+37) fun i40 =>
 st w x5.1 (x5.2+35) [VI .i64 i40] fun w41 =>
 ldA 39 w41 x5.1 x5.2 fun a42 =>
 gd (a42.length == 39) <|
 st w41 x4.1 x4.2 a42 fun w43 =>
 ldA 39 w43 x4.1 x4.2 fun a44 =>
 Q (ofL a44) w43)
 (ldA 39 w x5.1 x5.2 fun a45 =>
 gd (a45.length == 39) <|
 st w x4.1 x4.2 a45 fun w46 =>
 ldA 39 w46 x4.1 x4.2 fun a47 =>
 Q (ofL a47) w46))
 (vIf (x13 == 8)
 (ldI .i64 w x2.1 (x2.2+37) fun i48 =>
 st w x5.1 (x5.2+35) [VI .i64 i48] fun w49 =>
 ldA 39 w49 x5.1 x5.2 fun a50 =>
 gd (a50.length == 39) <|
 st w49 x4.1 x4.2 a50 fun w51 =>
 ldA 39 w51 x4.1 x4.2 fun a52 =>
 Q (ofL a52) w51)
 (ldA 39 w x5.1 x5.2 fun a53 =>
 gd (a53.length == 39) <|
 st w x4.1 x4.2 a53 fun w54 =>
 ldA 39 w54 x4.1 x4.2 fun a55 =>
 Q (ofL a55) w54)))))
def F102.k5 (Q:QT):(NT×NT×NT×Int×Unit)->WT:=fun s w=>∀ _:Nat->Value,F102.k5c Q s.1 s.2.1 s.2.2.1 s.2.2.2.1 w
def F102.vc (x0:List Value) (x1:List Value) (w:World) (Q:QT):Prop :=
 nw w x0 92 fun b1 w2 =>
 nw w2 x1 111 fun b3 w4 =>
 nw w4 Z113 113 fun b5 w6 =>
 ldI .i64 w6 b1 0 fun i7 =>
 ldI .u64 w6 b1 (0+1) fun i8 =>
 ldA 3 w6 b3 0 fun a9 =>
 gd (a9.length == 3) <|
 nw w6 Z113 113 fun b10 w11 =>
 gd (([VI .i64 i7] ++ ([VI .u64 i8] ++ ([VI .u8 0,VI .u8 0,VI .u8 0,VI .u8 0,VI .u8 0,VI .u8 0,VI .u8 0,VI .u8 0,VI .u8 0,VI .u8 0,VI .u8 0,VI .u8 0,VI .u8 0,VI .u8 0,VI .u8 0,VI .u8 0,VI .u8 0,VI .u8 0,VI .u8 0,VI .u8 0,VI .u8 0,VI .u8 0,VI .u8 0,VI .u8 0,VI .u8 0,VI .u8 0,VI .u8 0,VI .u8 0,VI .u8 0,VI .u8 0,VI .u8 0,VI .u8 0] ++ ([VG (⟨#[]⟩:ByteArray)] ++ ([VI .i64 0] ++ (a9 ++ [])))))).length == 39) <|
 st w11 b10 0 ([VI .i64 i7] ++ ([VI .u64 i8] ++ ([VI .u8 0,VI .u8 0,VI .u8 0,VI .u8 0,VI .u8 0,VI .u8 0,VI .u8 0,VI .u8 0,VI .u8 0,VI .u8 0,VI .u8 0,VI .u8 0,VI .u8 0,VI .u8 0,VI .u8 0,VI .u8 0,VI .u8 0,VI .u8 0,VI .u8 0,VI .u8 0,VI .u8 0,VI .u8 0,VI .u8 0,VI .u8 0,VI .u8 0,VI .u8 0,VI .u8 0,VI .u8 0,VI .u8 0,VI .u8 0,VI .u8 0,VI .u8 0] ++ ([VG (⟨#[]⟩:ByteArray)] ++ ([VI .i64 0] ++ (a9 ++ [])))))) fun w12 =>
 ldI .i64 w12 b1 0 fun i13 =>
 vIf (i13 == 1)
 (vIf (i13 == 1)
 (ldSl w12 b1 (0+35) fun A14 n15 c16 =>
 st w12 b10 (0+35) [VI .i64 (n15:Int)] fun w17 =>
 ldA 32 w17 b1 (0+2) fun a18 =>
 gd (a18.length == 32) <|
 st w17 b10 (0+2) a18 fun w19 =>
 ldA 39 w19 b10 0 fun a20 =>
 gd (a20.length == 39) <|
 st w19 b5 0 a20 fun w21 =>
 ldA 39 w21 b5 0 fun a22 =>
 Q (ofL a22) w21)
 (jnC (F102.k5 Q) ((b1,0),(b5,0),(b10,0),i13,()) w12))
 (vIf (i13 == 2)
 (ldSl w12 b1 (0+35) fun A56 n57 c58 =>
 st w12 b10 (0+35) [VI .i64 (n57:Int)] fun w59 =>
 ldA 32 w59 b1 (0+2) fun a60 =>
 gd (a60.length == 32) <|
 st w59 b10 (0+2) a60 fun w61 =>
 ldA 39 w61 b10 0 fun a62 =>
 gd (a62.length == 39) <|
 st w61 b5 0 a62 fun w63 =>
 ldA 39 w63 b5 0 fun a64 =>
 Q (ofL a64) w63)
 (jnC (F102.k5 Q) ((b1,0),(b5,0),(b10,0),i13,()) w12))
def F102.an:Ann:=⟨[],[(5,[(2,.kL),(4,.kL),(5,.kL),(13,.kI .i64)])]⟩
theorem F102.of (x0:List Value) (x1:List Value) (w:World) {Q:QT} (h:F102.vc x0 x1 w Q):Calls Tryz.prog 102 #[ofL x0,ofL x1] w (fun e w'=>∃ v,e=.returned v/\Q v w'):=vcFn_of (A:=F102.an) noCount mixed h (by kernel_rfl)
def F103.k8c (Q:QT) (C6:(ST×NT×ST×Int×Unit)->WT) (x0:ST) (x4:NT) (x7:ST) (x8:Int) (w:World):Prop :=
 dr x0.1 fun b13 o14 =>
 gd (decide (0<=x8)) <|
 gd (decide (x8 < (x0.2.1:Int))) <|
 ldI .u8 w b13 (o14+(x8).toNat * 1) fun i15 =>
 nw w ([VI .u8 i15] ++ []) 5 fun b16 w17 =>
 app w17 1 1 [VI .u8 0] 5 x7.1 x7.2.1 x7.2.2 (VS (some ⟨b16,0,none⟩) 1 1) fun A18 n19 c20 w21 =>
 jnC C6 ((x0.1,x0.2.1,x0.2.2),(x4.1,x4.2),(A18,n19,c20),((WR .i64 (x8+1))),()) w21
def F103.k8 (Q:QT) (C6:(ST×NT×ST×Int×Unit)->WT):(ST×NT×ST×Int×Unit)->WT:=fun s w=>∀ _:Nat->Value,F103.k8c Q C6 s.1 s.2.1 s.2.2.1 s.2.2.2.1 w
def F103.b6c (Q:QT) (C6:(ST×NT×ST×Int×Unit)->WT) (x0:ST) (x4:NT) (x7:ST) (x8:Int) (w:World):Prop :=
 vIf (decide (x8 < (x0.2.1:Int)))
 (ldI .i64 w x4.1 (x4.2+1) fun i12 =>
 vIf (decide (x8 < i12))
 (jnC (F103.k8 Q C6) ((x0.1,x0.2.1,x0.2.2),(x4.1,x4.2),(x7.1,x7.2.1,x7.2.2),x8,()) w)
 (Q (VS x7.1 x7.2.1 x7.2.2) w))
 (Q (VS x7.1 x7.2.1 x7.2.2) w)
def F103.b6 (Q:QT):(ST×NT×ST×Int×Unit)->World->((ST×NT×ST×Int×Unit)->WT)->Prop:=fun s w C6=>∀ _:Nat->Value,F103.b6c Q C6 s.1 s.2.1 s.2.2.1 s.2.2.2.1 w
def F103.l6 (Q:QT):(ST×NT×ST×Int×Unit)->WT:=fun s w=>∃ n,loopC (F103.b6 Q) n s w
def F103.b14c (Q:QT) (C12:(Int×NT×ST×Int×Unit)->WT) (C14:(Int×NT×ST×Int×Unit)->WT) (x2:Int) (x4:NT) (x7:ST) (x9:Int) (w:World):Prop :=
 ldI .i64 w x4.1 (x4.2+1) fun i29 =>
 vIf (decide ((x7.2.1:Int)<=(WR .i64 (i29+x9))))
 (nw w ([VI .u8 0] ++ []) 5 fun b30 w31 =>
 app w31 1 1 [VI .u8 0] 5 x7.1 x7.2.1 x7.2.2 (VS (some ⟨b30,0,none⟩) 1 1) fun A32 n33 c34 w35 =>
 jnC C14 (x2,(x4.1,x4.2),(A32,n33,c34),x9,()) w35)
 (ldI .i64 w.drew x4.1 (x4.2+1) fun i36 =>
 ldSl w.drew x4.1 (x4.2+2) fun A37 n38 c39 =>
 dr A37 fun b40 o41 =>
 gd (decide (0<=x9)) <|
 gd (decide (x9 < (n38:Int))) <|
 ldI .u8 w.drew b40 (o41+(x9).toNat * 1) fun i42 =>
 dr x7.1 fun b43 o44 =>
 gd (decide (0<=(WR .i64 (i36+x9)))) <|
 gd (decide ((WR .i64 (i36+x9)) < (x7.2.1:Int))) <|
 st w.drew b43 (o44+((WR .i64 (i36+x9))).toNat * 1) [VI .u8 i42] fun w45 =>
 jnC C12 (x2,(x4.1,x4.2),(x7.1,x7.2.1,x7.2.2),((WR .i64 (x9+1))),()) w45)
def F103.b14 (Q:QT) (C12:(Int×NT×ST×Int×Unit)->WT):(Int×NT×ST×Int×Unit)->World->((Int×NT×ST×Int×Unit)->WT)->Prop:=fun s w C14=>∀ _:Nat->Value,F103.b14c Q C12 C14 s.1 s.2.1 s.2.2.1 s.2.2.2.1 w
def F103.l14 (Q:QT) (C12:(Int×NT×ST×Int×Unit)->WT):(Int×NT×ST×Int×Unit)->WT:=fun s w=>∃ n,loopC (F103.b14 Q C12) n s w
def F103.k1014c (Q:QT) (C12:(Int×NT×ST×Int×Unit)->WT) (x2:Int) (x4:NT) (x7:ST) (x9:Int) (w:World):Prop :=
 jnC (F103.l14 Q C12) (x2,(x4.1,x4.2),(x7.1,x7.2.1,x7.2.2),x9,()) w
def F103.k1014 (Q:QT) (C12:(Int×NT×ST×Int×Unit)->WT):(Int×NT×ST×Int×Unit)->WT:=fun s w=>∀ _:Nat->Value,F103.k1014c Q C12 s.1 s.2.1 s.2.2.1 s.2.2.2.1 w
def F103.b12c (Q:QT) (C12:(Int×NT×ST×Int×Unit)->WT) (x2:Int) (x4:NT) (x7:ST) (x9:Int) (w:World):Prop :=
 ldSl w x4.1 (x4.2+2) fun A26 n27 c28 =>
 vIf (decide (x9 < (n27:Int)))
 (vIf (decide (x9 < x2))
 (jnC (F103.k1014 Q C12) (x2,(x4.1,x4.2),(x7.1,x7.2.1,x7.2.2),x9,()) w)
 (Q (VS x7.1 x7.2.1 x7.2.2) w))
 (Q (VS x7.1 x7.2.1 x7.2.2) w)
def F103.b12 (Q:QT):(Int×NT×ST×Int×Unit)->World->((Int×NT×ST×Int×Unit)->WT)->Prop:=fun s w C12=>∀ _:Nat->Value,F103.b12c Q C12 s.1 s.2.1 s.2.2.1 s.2.2.2.1 w
def F103.l12 (Q:QT):(Int×NT×ST×Int×Unit)->WT:=fun s w=>∃ n,loopC (F103.b12 Q) n s w
def F103.vc (x0A:Option Addr) (x0n x0c:Nat) (x1:List Value) (x2:Int) (w:World) (Q:QT):Prop :=
 nw w x1 188 fun b1 w2 =>
 ldA 3 w2 b1 0 fun a3 =>
 Calls Tryz.prog 154 #[ofL a3] w2 fun e5 w4 =>
 ∃ t6:Bool,e5=.returned (VB t6)/\(
 vIf (!t6)
 (app w4 1 1 [VI .u8 0] 5 none 0 0 (VS x0A x0n x0c) fun A7 n8 c9 w10 =>
 Q (VS A7 n8 c9) w10)
 (ldB w4 b1 0 fun t11 =>
 vIf t11
 (jnC (F103.l6 Q) ((x0A,x0n,x0c),(b1,0),(none,0,0),(0),()) w4)
 (app w4 1 1 [VI .u8 0] 5 none 0 0 (VS x0A x0n x0c) fun A22 n23 c24 w25 =>
 jnC (F103.l12 Q) (x2,(b1,0),(A22,n23,c24),(0),()) w25)))
def F103.an:Ann:=⟨[(6,[(0,.kSl),(4,.kL),(7,.kSl),(8,.kI .i64)]),(12,[(2,.kI .i64),(4,.kL),(7,.kSl),(9,.kI .i64)]),(14,[(2,.kI .i64),(4,.kL),(7,.kSl),(9,.kI .i64)])],[(8,[(0,.kSl),(4,.kL),(7,.kSl),(8,.kI .i64)]),(1014,[(2,.kI .i64),(4,.kL),(7,.kSl),(9,.kI .i64)])]⟩
theorem F103.of (x0A:Option Addr) (x0n x0c:Nat) (x1:List Value) (x2:Int) (w:World) {Q:QT} (h:F103.vc x0A x0n x0c x1 x2 w Q):Calls Tryz.prog 103 #[VS x0A x0n x0c,ofL x1,VI .i64 x2] w (fun e w'=>∃ v,e=.returned v/\Q v w'):=vcFn_of (A:=F103.an) noCount mixed h (by kernel_rfl)
def F104.b4c (Q:QT) (C4:(ST×ST×Int×Unit)->WT) (x0:ST) (x1:ST) (x5:Int) (w:World):Prop :=
 vIf (decide (x5 < (x0.2.1:Int)))
 (dr x0.1 fun b1 o2 =>
 gd (decide (0<=x5)) <|
 gd (decide (x5 < (x0.2.1:Int))) <|
 ldI .u8 w.drew b1 (o2+(x5).toNat * 1) fun i3 =>
 dr x1.1 fun b4 o5 =>
 gd (decide (0<=x5)) <|
 gd (decide (x5 < (x1.2.1:Int))) <|
 ldI .u8 w.drew b4 (o5+(x5).toNat * 1) fun i6 =>
 vIf (i3 != i6)
 (Q (VB false) w.drew)
 (jnC C4 ((x0.1,x0.2.1,x0.2.2),(x1.1,x1.2.1,x1.2.2),((WR .i64 (x5+1))),()) w.drew))
 (Q (VB true) w)
def F104.b4 (Q:QT):(ST×ST×Int×Unit)->World->((ST×ST×Int×Unit)->WT)->Prop:=fun s w C4=>∀ _:Nat->Value,F104.b4c Q C4 s.1 s.2.1 s.2.2.1 w
def F104.l4 (Q:QT):(ST×ST×Int×Unit)->WT:=fun s w=>∃ n,loopC (F104.b4 Q) n s w
def F104.vc (x0A:Option Addr) (x0n x0c:Nat) (x1A:Option Addr) (x1n x1c:Nat) (w:World) (Q:QT):Prop :=
 vIf ((x0n:Int) != (x1n:Int))
 (Q (VB false) w)
 (jnC (F104.l4 Q) ((x0A,x0n,x0c),(x1A,x1n,x1c),(0),()) w)
def F104.an:Ann:=⟨[(4,[(0,.kSl),(1,.kSl),(5,.kI .i64)])],[]⟩
theorem F104.of (x0A:Option Addr) (x0n x0c:Nat) (x1A:Option Addr) (x1n x1c:Nat) (w:World) {Q:QT} (h:F104.vc x0A x0n x0c x1A x1n x1c w Q):Calls Tryz.prog 104 #[VS x0A x0n x0c,VS x1A x1n x1c] w (fun e w'=>∃ v,e=.returned v/\Q v w'):=vcFn_of (A:=F104.an) noCount mixed h (by kernel_rfl)
def F105.k5c (Q:QT) (C3:(Int×Int×ST×Int×Unit)->WT) (x1:Int) (x2:Int) (x7:ST) (x8:Int) (w:World):Prop :=
 nw w ([VI .u8 (WR .u8 (Int.tmod x1 256))] ++ []) 5 fun b5 w6 =>
 app w6 1 1 [VI .u8 0] 5 x7.1 x7.2.1 x7.2.2 (VS (some ⟨b5,0,none⟩) 1 1) fun A7 n8 c9 w10 =>
 jnC C3 (((WR .u64 (Int.tdiv x1 256))),x2,(A7,n8,c9),((WR .i64 (x8+1))),()) w10
def F105.k5 (Q:QT) (C3:(Int×Int×ST×Int×Unit)->WT):(Int×Int×ST×Int×Unit)->WT:=fun s w=>∀ _:Nat->Value,F105.k5c Q C3 s.1 s.2.1 s.2.2.1 s.2.2.2.1 w
def F105.b3c (Q:QT) (C3:(Int×Int×ST×Int×Unit)->WT) (x1:Int) (x2:Int) (x7:ST) (x8:Int) (w:World):Prop :=
 vIf (decide (x8 < x2))
 (vIf (decide (x2<=8))
 (jnC (F105.k5 Q C3) (x1,x2,(x7.1,x7.2.1,x7.2.2),x8,()) w)
 (Q (VS x7.1 x7.2.1 x7.2.2) w))
 (Q (VS x7.1 x7.2.1 x7.2.2) w)
def F105.b3 (Q:QT):(Int×Int×ST×Int×Unit)->World->((Int×Int×ST×Int×Unit)->WT)->Prop:=fun s w C3=>∀ _:Nat->Value,F105.b3c Q C3 s.1 s.2.1 s.2.2.1 s.2.2.2.1 w
def F105.l3 (Q:QT):(Int×Int×ST×Int×Unit)->WT:=fun s w=>∃ n,loopC (F105.b3 Q) n s w
def F105.vc (x0A:Option Addr) (x0n x0c:Nat) (x1:Int) (x2:Int) (w:World) (Q:QT):Prop :=
 app w 1 1 [VI .u8 0] 5 none 0 0 (VS x0A x0n x0c) fun A1 n2 c3 w4 =>
 jnC (F105.l3 Q) (x1,x2,(A1,n2,c3),(0),()) w4
def F105.an:Ann:=⟨[(3,[(1,.kI .u64),(2,.kI .i64),(7,.kSl),(8,.kI .i64)])],[(5,[(1,.kI .u64),(2,.kI .i64),(7,.kSl),(8,.kI .i64)])]⟩
theorem F105.of (x0A:Option Addr) (x0n x0c:Nat) (x1:Int) (x2:Int) (w:World) {Q:QT} (h:F105.vc x0A x0n x0c x1 x2 w Q):Calls Tryz.prog 105 #[VS x0A x0n x0c,VI .u64 x1,VI .i64 x2] w (fun e w'=>∃ v,e=.returned v/\Q v w'):=vcFn_of (A:=F105.an) noCount mixed h (by kernel_rfl)
def F106.b23c (Q:QT) (C23:(Int×Int×Int×Unit)->WT) (x7:Int) (x10:Int) (x11:Int) (w:World):Prop :=
 vIf (decide (x11 < 32))
 (gd (decide (0<=(WR .u64 x11))) <|
 jnC C23 (x7,((WR .u32 ((WR .u32 (x10 * 2))+(Int.tmod (Int.fdiv x7 (2 ^ (min ((WR .u64 x11)).toNat 32))) 2)))),((WR .i64 (x11+1))),()) w)
 (Q (VI .u32 (iXor .u32 4294967295 x10)) w)
def F106.b23 (Q:QT):(Int×Int×Int×Unit)->World->((Int×Int×Int×Unit)->WT)->Prop:=fun s w C23=>∀ _:Nat->Value,F106.b23c Q C23 s.1 s.2.1 s.2.2.1 w
def F106.l23 (Q:QT):(Int×Int×Int×Unit)->WT:=fun s w=>∃ n,loopC (F106.b23 Q) n s w
def F106.b13c (Q:QT) (C13:(ST×Int×Int×Int×Unit)->WT) (x3:ST) (x6:Int) (x7:Int) (x8:Int) (w:World):Prop :=
 vIf (decide (x8 < (x3.2.1:Int)))
 (dr x3.1 fun b18 o19 =>
 gd (decide (0<=x8)) <|
 gd (decide (x8 < (x3.2.1:Int))) <|
 ldB w b18 (o19+(x8).toNat * 1) fun t20 =>
 vIf t20
 (vIf (decide (x7 >= 2147483648))
 (jnC C13 ((x3.1,x3.2.1,x3.2.2),x6,((iXor .u32 (WR .u32 ((WR .u32 (x7 * 2))+1)) x6)),((WR .i64 (x8+1))),()) w)
 (jnC C13 ((x3.1,x3.2.1,x3.2.2),x6,((WR .u32 ((WR .u32 (x7 * 2))+1))),((WR .i64 (x8+1))),()) w))
 (vIf (decide (x7 >= 2147483648))
 (jnC C13 ((x3.1,x3.2.1,x3.2.2),x6,((iXor .u32 (WR .u32 (x7 * 2)) x6)),((WR .i64 (x8+1))),()) w)
 (jnC C13 ((x3.1,x3.2.1,x3.2.2),x6,((WR .u32 (x7 * 2))),((WR .i64 (x8+1))),()) w)))
 (jnC (F106.l23 Q) (x7,(0),(0),()) w)
def F106.b13 (Q:QT):(ST×Int×Int×Int×Unit)->World->((ST×Int×Int×Int×Unit)->WT)->Prop:=fun s w C13=>∀ _:Nat->Value,F106.b13c Q C13 s.1 s.2.1 s.2.2.1 s.2.2.2.1 w
def F106.l13 (Q:QT):(ST×Int×Int×Int×Unit)->WT:=fun s w=>∃ n,loopC (F106.b13 Q) n s w
def F106.b7c (Q:QT) (C7:(ST×Int×Unit)->WT) (x3:ST) (x5:Int) (w:World):Prop :=
 vIf (decide (x5 < 32))
 (dr x3.1 fun b12 o13 =>
 gd (decide (0<=x5)) <|
 gd (decide (x5 < (x3.2.1:Int))) <|
 ldB w b12 (o13+(x5).toNat * 1) fun t14 =>
 dr x3.1 fun b15 o16 =>
 gd (decide (0<=x5)) <|
 gd (decide (x5 < (x3.2.1:Int))) <|
 st w b15 (o16+(x5).toNat * 1) [VB (!t14)] fun w17 =>
 jnC C7 ((x3.1,x3.2.1,x3.2.2),((WR .i64 (x5+1))),()) w17)
 (jnC (F106.l13 Q) ((x3.1,x3.2.1,x3.2.2),(517762881),(0),(0),()) w)
def F106.b7 (Q:QT):(ST×Int×Unit)->World->((ST×Int×Unit)->WT)->Prop:=fun s w C7=>∀ _:Nat->Value,F106.b7c Q C7 s.1 s.2.1 w
def F106.l7 (Q:QT):(ST×Int×Unit)->WT:=fun s w=>∃ n,loopC (F106.b7 Q) n s w
def F106.b3c (Q:QT) (C3:(ST×Int×Unit)->WT) (x3:ST) (x4:Int) (w:World):Prop :=
 vIf (decide (x4 < 32))
 (nw w ([VB false] ++ []) 4 fun b6 w7 =>
 app w7 1 1 [VB false] 4 x3.1 x3.2.1 x3.2.2 (VS (some ⟨b6,0,none⟩) 1 1) fun A8 n9 c10 w11 =>
 jnC C3 ((A8,n9,c10),((WR .i64 (x4+1))),()) w11)
 (jnC (F106.l7 Q) ((x3.1,x3.2.1,x3.2.2),(0),()) w)
def F106.b3 (Q:QT):(ST×Int×Unit)->World->((ST×Int×Unit)->WT)->Prop:=fun s w C3=>∀ _:Nat->Value,F106.b3c Q C3 s.1 s.2.1 w
def F106.l3 (Q:QT):(ST×Int×Unit)->WT:=fun s w=>∃ n,loopC (F106.b3 Q) n s w
def F106.vc (x0A:Option Addr) (x0n x0c:Nat) (w:World) (Q:QT):Prop :=
 Calls Tryz.prog 155 #[VS x0A x0n x0c] w fun e2 w1 =>
 ∃ (A3:Option Addr) (n4 c5:Nat),e2=.returned (VS A3 n4 c5)/\(
 jnC (F106.l3 Q) ((A3,n4,c5),(0),()) w1)
def F106.an:Ann:=⟨[(3,[(3,.kSl),(4,.kI .i64)]),(7,[(3,.kSl),(5,.kI .i64)]),(13,[(3,.kSl),(6,.kI .u32),(7,.kI .u32),(8,.kI .i64)]),(23,[(7,.kI .u32),(10,.kI .u32),(11,.kI .i64)])],[]⟩
theorem F106.of (x0A:Option Addr) (x0n x0c:Nat) (w:World) {Q:QT} (h:F106.vc x0A x0n x0c w Q):Calls Tryz.prog 106 #[VS x0A x0n x0c] w (fun e w'=>∃ v,e=.returned v/\Q v w'):=vcFn_of (A:=F106.an) noCount mixed h (by kernel_rfl)
def F107.b14c (Q:QT) (C14:(ST×Int×Int×Int×Int×Unit)->WT) (x0:ST) (x1:Int) (x7:Int) (x8:Int) (x9:Int) (w:World):Prop :=
 vIf (decide (x9 >= 0))
 (dr x0.1 fun b10 o11 =>
 gd (decide (0<=(WR .i64 (x1+x9)))) <|
 gd (decide ((WR .i64 (x1+x9)) < (x0.2.1:Int))) <|
 ldI .u8 w b10 (o11+((WR .i64 (x1+x9))).toNat * 1) fun i12 =>
 jnC C14 ((x0.1,x0.2.1,x0.2.2),x1,x7,((WR .u64 ((WR .u64 (x8 * 128))+(WR .u64 (Int.tmod i12 128))))),((WR .i64 (x9 - 1))),()) w)
 (Q (VT #[VI .u64 x8,VI .i64 (WR .i64 ((WR .i64 (x1+x7))+1)),VI .i64 0]) w)
def F107.b14 (Q:QT):(ST×Int×Int×Int×Int×Unit)->World->((ST×Int×Int×Int×Int×Unit)->WT)->Prop:=fun s w C14=>∀ _:Nat->Value,F107.b14c Q C14 s.1 s.2.1 s.2.2.1 s.2.2.2.1 s.2.2.2.2.1 w
def F107.l14 (Q:QT):(ST×Int×Int×Int×Int×Unit)->WT:=fun s w=>∃ n,loopC (F107.b14 Q) n s w
def F107.k12c (Q:QT) (x0:ST) (x1:Int) (x7:Int) (w:World):Prop :=
 jnC (F107.l14 Q) ((x0.1,x0.2.1,x0.2.2),x1,x7,(0),x7,()) w
def F107.k12 (Q:QT):(ST×Int×Int×Unit)->WT:=fun s w=>∀ _:Nat->Value,F107.k12c Q s.1 s.2.1 s.2.2.1 w
def F107.k11c (Q:QT) (x0:ST) (x1:Int) (x7:Int) (x72:Bool) (w:World):Prop :=
 vIf x72
 (Q (VT #[VI .u64 0,VI .i64 0,VI .i64 3]) w)
 (jnC (F107.k12 Q) ((x0.1,x0.2.1,x0.2.2),x1,x7,()) w)
def F107.k11 (Q:QT):(ST×Int×Int×Bool×Unit)->WT:=fun s w=>∀ _:Nat->Value,F107.k11c Q s.1 s.2.1 s.2.2.1 s.2.2.2.1 w
def F107.k8c (Q:QT) (x0:ST) (x1:Int) (x7:Int) (w:World):Prop :=
 vIf (decide ((WR .i64 (x1+x7)) >= (x0.2.1:Int)))
 (Q (VT #[VI .u64 0,VI .i64 0,VI .i64 4]) w)
 (vIf (decide (x7 > 0))
 (dr x0.1 fun b7 o8 =>
 gd (decide (0<=(WR .i64 (x1+x7)))) <|
 gd (decide ((WR .i64 (x1+x7)) < (x0.2.1:Int))) <|
 ldI .u8 w b7 (o8+((WR .i64 (x1+x7))).toNat * 1) fun i9 =>
 jnC (F107.k11 Q) ((x0.1,x0.2.1,x0.2.2),x1,x7,(i9 == 0),()) w)
 (jnC (F107.k11 Q) ((x0.1,x0.2.1,x0.2.2),x1,x7,false,()) w))
def F107.k8 (Q:QT):(ST×Int×Int×Unit)->WT:=fun s w=>∀ _:Nat->Value,F107.k8c Q s.1 s.2.1 s.2.2.1 w
def F107.k7c (Q:QT) (x0:ST) (x1:Int) (x7:Int) (x55:Bool) (w:World):Prop :=
 vIf x55
 (Q (VT #[VI .u64 0,VI .i64 0,VI .i64 20]) w)
 (jnC (F107.k8 Q) ((x0.1,x0.2.1,x0.2.2),x1,x7,()) w)
def F107.k7 (Q:QT):(ST×Int×Int×Bool×Unit)->WT:=fun s w=>∀ _:Nat->Value,F107.k7c Q s.1 s.2.1 s.2.2.1 s.2.2.2.1 w
def F107.k6c (Q:QT) (x0:ST) (x1:Int) (x7:Int) (w:World):Prop :=
 vIf (decide (x7 >= 9))
 (vIf (decide ((WR .i64 (x1+9)) < (x0.2.1:Int)))
 (dr x0.1 fun b4 o5 =>
 gd (decide (0<=(WR .i64 (x1+9)))) <|
 gd (decide ((WR .i64 (x1+9)) < (x0.2.1:Int))) <|
 ldI .u8 w b4 (o5+((WR .i64 (x1+9))).toNat * 1) fun i6 =>
 jnC (F107.k7 Q) ((x0.1,x0.2.1,x0.2.2),x1,x7,(decide (i6 > 1)),()) w)
 (jnC (F107.k7 Q) ((x0.1,x0.2.1,x0.2.2),x1,x7,false,()) w))
 (jnC (F107.k7 Q) ((x0.1,x0.2.1,x0.2.2),x1,x7,false,()) w)
def F107.k6 (Q:QT):(ST×Int×Int×Unit)->WT:=fun s w=>∀ _:Nat->Value,F107.k6c Q s.1 s.2.1 s.2.2.1 w
def F107.b4c (Q:QT) (C4:(ST×Int×Int×Unit)->WT) (x0:ST) (x1:Int) (x7:Int) (w:World):Prop :=
 vIf (decide ((WR .i64 (x1+x7)) < (x0.2.1:Int)))
 (vIf (decide (x7 < 10))
 (dr x0.1 fun b1 o2 =>
 gd (decide (0<=(WR .i64 (x1+x7)))) <|
 gd (decide ((WR .i64 (x1+x7)) < (x0.2.1:Int))) <|
 ldI .u8 w b1 (o2+((WR .i64 (x1+x7))).toNat * 1) fun i3 =>
 vIf (decide (i3 > 127))
 (jnC C4 ((x0.1,x0.2.1,x0.2.2),x1,((WR .i64 (x7+1))),()) w)
 (jnC (F107.k6 Q) ((x0.1,x0.2.1,x0.2.2),x1,x7,()) w))
 (jnC (F107.k6 Q) ((x0.1,x0.2.1,x0.2.2),x1,x7,()) w))
 (jnC (F107.k6 Q) ((x0.1,x0.2.1,x0.2.2),x1,x7,()) w)
def F107.b4 (Q:QT):(ST×Int×Int×Unit)->World->((ST×Int×Int×Unit)->WT)->Prop:=fun s w C4=>∀ _:Nat->Value,F107.b4c Q C4 s.1 s.2.1 s.2.2.1 w
def F107.l4 (Q:QT):(ST×Int×Int×Unit)->WT:=fun s w=>∃ n,loopC (F107.b4 Q) n s w
def F107.k3c (Q:QT) (x0:ST) (x1:Int) (w:World):Prop :=
 jnC (F107.l4 Q) ((x0.1,x0.2.1,x0.2.2),x1,(0),()) w
def F107.k3 (Q:QT):(ST×Int×Unit)->WT:=fun s w=>∀ _:Nat->Value,F107.k3c Q s.1 s.2.1 w
def F107.k2c (Q:QT) (x0:ST) (x1:Int) (x17:Bool) (w:World):Prop :=
 vIf x17
 (Q (VT #[VI .u64 0,VI .i64 0,VI .i64 2]) w)
 (jnC (F107.k3 Q) ((x0.1,x0.2.1,x0.2.2),x1,()) w)
def F107.k2 (Q:QT):(ST×Int×Bool×Unit)->WT:=fun s w=>∀ _:Nat->Value,F107.k2c Q s.1 s.2.1 s.2.2.1 w
def F107.vc (x0A:Option Addr) (x0n x0c:Nat) (x1:Int) (w:World) (Q:QT):Prop :=
 vIf (decide (x1 < 0))
 (jnC (F107.k2 Q) ((x0A,x0n,x0c),x1,true,()) w)
 (jnC (F107.k2 Q) ((x0A,x0n,x0c),x1,(decide (x1 > (x0n:Int))),()) w)
def F107.an:Ann:=⟨[(4,[(0,.kSl),(1,.kI .i64),(7,.kI .i64)]),(14,[(0,.kSl),(1,.kI .i64),(7,.kI .i64),(8,.kI .u64),(9,.kI .i64)])],[(2,[(0,.kSl),(1,.kI .i64),(17,.kB)]),(3,[(0,.kSl),(1,.kI .i64)]),(6,[(0,.kSl),(1,.kI .i64),(7,.kI .i64)]),(7,[(0,.kSl),(1,.kI .i64),(7,.kI .i64),(55,.kB)]),(8,[(0,.kSl),(1,.kI .i64),(7,.kI .i64)]),(11,[(0,.kSl),(1,.kI .i64),(7,.kI .i64),(72,.kB)]),(12,[(0,.kSl),(1,.kI .i64),(7,.kI .i64)])]⟩
theorem F107.of (x0A:Option Addr) (x0n x0c:Nat) (x1:Int) (w:World) {Q:QT} (h:F107.vc x0A x0n x0c x1 w Q):Calls Tryz.prog 107 #[VS x0A x0n x0c,VI .i64 x1] w (fun e w'=>∃ v,e=.returned v/\Q v w'):=vcFn_of (A:=F107.an) noCount mixed h (by kernel_rfl)
def F108.k3c (Q:QT) (x0:ST) (x1:Int) (w:World):Prop :=
 dr x0.1 fun b1 o2 =>
 gd (decide (0<=x1)) <|
 gd (decide (x1 < (x0.2.1:Int))) <|
 ldI .u8 w b1 (o2+(x1).toNat * 1) fun i3 =>
 gd (decide (0<=(WR .i64 (x1+1)))) <|
 gd (decide ((WR .i64 (x1+1))<=(x0.2.1:Int))) <|
 vIf (decide ((((x0.2.1 - ((WR .i64 (x1+1))).toNat):Nat):Int) < (WR .i64 i3)))
 (Q (VT #[VG (⟨#[]⟩:ByteArray),VI .i64 0,VB false]) w)
 (gd (decide (0<=(WR .i64 i3))) <|
 gd (decide ((WR .i64 i3)<=(((x0.2.2 - ((WR .i64 (x1+1))).toNat):Nat):Int))) <|
 b2s w (slA (slA x0.1 x0.2.2 ((WR .i64 (x1+1))).toNat 1) (x0.2.2 - ((WR .i64 (x1+1))).toNat) 0 1) (((WR .i64 i3)).toNat) fun s4 =>
 Q (VT #[VG s4,VI .i64 (WR .i64 ((WR .i64 (x1+1))+(WR .i64 i3))),VB true]) w)
def F108.k3 (Q:QT):(ST×Int×Unit)->WT:=fun s w=>∀ _:Nat->Value,F108.k3c Q s.1 s.2.1 w
def F108.k2c (Q:QT) (x0:ST) (x1:Int) (x16:Bool) (w:World):Prop :=
 vIf x16
 (Q (VT #[VG (⟨#[]⟩:ByteArray),VI .i64 0,VB false]) w)
 (jnC (F108.k3 Q) ((x0.1,x0.2.1,x0.2.2),x1,()) w)
def F108.k2 (Q:QT):(ST×Int×Bool×Unit)->WT:=fun s w=>∀ _:Nat->Value,F108.k2c Q s.1 s.2.1 s.2.2.1 w
def F108.vc (x0A:Option Addr) (x0n x0c:Nat) (x1:Int) (w:World) (Q:QT):Prop :=
 vIf (decide (x1 < 0))
 (jnC (F108.k2 Q) ((x0A,x0n,x0c),x1,true,()) w)
 (jnC (F108.k2 Q) ((x0A,x0n,x0c),x1,(decide (x1 >= (x0n:Int))),()) w)
def F108.an:Ann:=⟨[],[(2,[(0,.kSl),(1,.kI .i64),(16,.kB)]),(3,[(0,.kSl),(1,.kI .i64)])]⟩
theorem F108.of (x0A:Option Addr) (x0n x0c:Nat) (x1:Int) (w:World) {Q:QT} (h:F108.vc x0A x0n x0c x1 w Q):Calls Tryz.prog 108 #[VS x0A x0n x0c,VI .i64 x1] w (fun e w'=>∃ v,e=.returned v/\Q v w'):=vcFn_of (A:=F108.an) noCount mixed h (by kernel_rfl)
def F109.b3c (Q:QT) (C3:(ByteArray×ByteArray×Int×Unit)->WT) (x0:ByteArray) (x3:ByteArray) (x4:Int) (w:World):Prop :=
 vIf (decide (x4 < (x0.size:Int)))
 (gd (decide (0<=x4)) <|
 gd (decide (x4 < (x0.size:Int))) <|
 Calls Tryz.prog 156 #[VI .u8 (byteAt x0 (x4).toNat),VG x3] w fun e2 w1 =>
 ∃ t3:Bool,e2=.returned (VB t3)/\(
 vIf (!t3)
 (vIf (x4 == 0)
 (Q (VB false) w1)
 (gd (decide (0<=x4)) <|
 gd (decide (x4 < (x0.size:Int))) <|
 Calls Tryz.prog 156 #[VI .u8 (byteAt x0 (x4).toNat),VG (⟨#[46,95,45]⟩:ByteArray)] w1 fun e5 w4 =>
 ∃ t6:Bool,e5=.returned (VB t6)/\(
 vIf (!t6)
 (Q (VB false) w4)
 (jnC C3 (x0,x3,((WR .i64 (x4+1))),()) w4))))
 (jnC C3 (x0,x3,((WR .i64 (x4+1))),()) w1)))
 (vIf (decide ((x0.size:Int) >= 1))
 (Q (VB (decide ((x0.size:Int)<=32))) w)
 (Q (VB false) w))
def F109.b3 (Q:QT):(ByteArray×ByteArray×Int×Unit)->World->((ByteArray×ByteArray×Int×Unit)->WT)->Prop:=fun s w C3=>∀ _:Nat->Value,F109.b3c Q C3 s.1 s.2.1 s.2.2.1 w
def F109.l3 (Q:QT):(ByteArray×ByteArray×Int×Unit)->WT:=fun s w=>∃ n,loopC (F109.b3 Q) n s w
def F109.vc (x0:ByteArray) (w:World) (Q:QT):Prop :=
 jnC (F109.l3 Q) (x0,(⟨#[97,98,99,100,101,102,103,104,105,106,107,108,109,110,111,112,113,114,115,116,117,118,119,120,121,122,48,49,50,51,52,53,54,55,56,57]⟩:ByteArray),(0),()) w
def F109.an:Ann:=⟨[(3,[(0,.kS),(3,.kS),(4,.kI .i64)])],[]⟩
theorem F109.of (x0:ByteArray) (w:World) {Q:QT} (h:F109.vc x0 w Q):Calls Tryz.prog 109 #[VG x0] w (fun e w'=>∃ v,e=.returned v/\Q v w'):=vcFn_of (A:=F109.an) noCount mixed h (by kernel_rfl)
def F110.k14c (Q:QT) (x1:Int) (x4:NT) (x6:ST) (x7:Int) (x9:Int) (x13:Int) (w:World):Prop :=
 vIf (decide ((WR .i64 ((x6.2.1:Int) - 21)) < (WR .i64 x9)))
 (gd (([VI .i64 0] ++ ([VI .u64 0] ++ ([VS none 0 0] ++ ([VI .i64 0] ++ [])))).length == 4) <|
 st w x4.1 x4.2 ([VI .i64 0] ++ ([VI .u64 0] ++ ([VS none 0 0] ++ ([VI .i64 0] ++ [])))) fun w29 =>
 ldA 4 w29 x4.1 x4.2 fun a30 =>
 Q (VT #[ofL a30,VI .i64 4]) w29)
 (gd (decide (0<=(WR .i64 (17+(WR .i64 x9))))) <|
 gd (decide ((WR .i64 (17+(WR .i64 x9)))<=(x6.2.2:Int))) <|
 gd (decide ((17:Int)<=((((WR .i64 (17+(WR .i64 x9)))).toNat:Nat):Int))) <|
 gd (decide (0<=(WR .i64 (21+(WR .i64 x9))))) <|
 gd (decide ((WR .i64 (21+(WR .i64 x9)))<=(x6.2.2:Int))) <|
 Calls Tryz.prog 114 #[VI .i64 x13,VI .u64 x7,VS (slA x6.1 x6.2.2 17 1) (((WR .i64 (17+(WR .i64 x9)))).toNat - 17) (x6.2.2 - 17)] w.drew fun e32 w31 =>
 ∃ (A33:Option Addr) (n34 c35:Nat),e32=.returned (VS A33 n34 c35)/\(
 Calls Tryz.prog 104 #[VS A33 n34 c35,VS (slA x6.1 x6.2.2 0 1) ((WR .i64 (21+(WR .i64 x9)))).toNat x6.2.2] w31 fun e37 w36 =>
 ∃ t38:Bool,e37=.returned (VB t38)/\(
 vIf (!t38)
 (gd (([VI .i64 0] ++ ([VI .u64 0] ++ ([VS none 0 0] ++ ([VI .i64 0] ++ [])))).length == 4) <|
 st w36 x4.1 x4.2 ([VI .i64 0] ++ ([VI .u64 0] ++ ([VS none 0 0] ++ ([VI .i64 0] ++ [])))) fun w39 =>
 ldA 4 w39 x4.1 x4.2 fun a40 =>
 Q (VT #[ofL a40,VI .i64 5]) w39)
 (gd (decide (0<=(WR .i64 (17+(WR .i64 x9))))) <|
 gd (decide ((WR .i64 (17+(WR .i64 x9)))<=(x6.2.2:Int))) <|
 gd (decide ((17:Int)<=((((WR .i64 (17+(WR .i64 x9)))).toNat:Nat):Int))) <|
 gd (([VI .i64 x13] ++ ([VI .u64 x7] ++ ([VS (slA x6.1 x6.2.2 17 1) (((WR .i64 (17+(WR .i64 x9)))).toNat - 17) (x6.2.2 - 17)] ++ ([VI .i64 (WR .i64 ((WR .i64 (x1+21))+(WR .i64 x9)))] ++ [])))).length == 4) <|
 st w36 x4.1 x4.2 ([VI .i64 x13] ++ ([VI .u64 x7] ++ ([VS (slA x6.1 x6.2.2 17 1) (((WR .i64 (17+(WR .i64 x9)))).toNat - 17) (x6.2.2 - 17)] ++ ([VI .i64 (WR .i64 ((WR .i64 (x1+21))+(WR .i64 x9)))] ++ [])))) fun w41 =>
 ldA 4 w41 x4.1 x4.2 fun a42 =>
 Q (VT #[ofL a42,VI .i64 0]) w41))))
def F110.k14 (Q:QT):(Int×NT×ST×Int×Int×Int×Unit)->WT:=fun s w=>∀ _:Nat->Value,F110.k14c Q s.1 s.2.1 s.2.2.1 s.2.2.2.1 s.2.2.2.2.1 s.2.2.2.2.2.1 w
def F110.k13c (Q:QT) (x1:Int) (x4:NT) (x6:ST) (x7:Int) (x9:Int) (x13:Int) (x66:Bool) (w:World):Prop :=
 vIf x66
 (gd (([VI .i64 0] ++ ([VI .u64 0] ++ ([VS none 0 0] ++ ([VI .i64 0] ++ [])))).length == 4) <|
 st w x4.1 x4.2 ([VI .i64 0] ++ ([VI .u64 0] ++ ([VS none 0 0] ++ ([VI .i64 0] ++ [])))) fun w27 =>
 ldA 4 w27 x4.1 x4.2 fun a28 =>
 Q (VT #[ofL a28,VI .i64 3]) w27)
 (jnC (F110.k14 Q) (x1,(x4.1,x4.2),(x6.1,x6.2.1,x6.2.2),x7,x9,x13,()) w)
def F110.k13 (Q:QT):(Int×NT×ST×Int×Int×Int×Bool×Unit)->WT:=fun s w=>∀ _:Nat->Value,F110.k13c Q s.1 s.2.1 s.2.2.1 s.2.2.2.1 s.2.2.2.2.1 s.2.2.2.2.2.1 s.2.2.2.2.2.2.1 w
def F110.k3c (Q:QT) (x0:ST) (x1:Int) (x4:NT) (w:World):Prop :=
 gd (decide (0<=x1)) <|
 gd (decide (x1<=(x0.2.1:Int))) <|
 vIf (decide ((((x0.2.1 - (x1).toNat):Nat):Int) < 17))
 (gd (([VI .i64 0] ++ ([VI .u64 0] ++ ([VS none 0 0] ++ ([VI .i64 0] ++ [])))).length == 4) <|
 st w x4.1 x4.2 ([VI .i64 0] ++ ([VI .u64 0] ++ ([VS none 0 0] ++ ([VI .i64 0] ++ [])))) fun w5 =>
 ldA 4 w5 x4.1 x4.2 fun a6 =>
 Q (VT #[ofL a6,VI .i64 4]) w5)
 (Calls Tryz.prog 157 #[VS (slA x0.1 x0.2.2 (x1).toNat 1) (x0.2.1 - (x1).toNat) (x0.2.2 - (x1).toNat),VI .i64 1,VI .i64 8] w fun e8 w7 =>
 ∃ i9:Int,∃ t10:Bool,e8=.returned (VT #[VI .u64 i9,VB t10])/\(
 Calls Tryz.prog 157 #[VS (slA x0.1 x0.2.2 (x1).toNat 1) (x0.2.1 - (x1).toNat) (x0.2.2 - (x1).toNat),VI .i64 9,VI .i64 4] w7 fun e12 w11 =>
 ∃ i13:Int,∃ t14:Bool,e12=.returned (VT #[VI .u64 i13,VB t14])/\(
 Calls Tryz.prog 157 #[VS (slA x0.1 x0.2.2 (x1).toNat 1) (x0.2.1 - (x1).toNat) (x0.2.2 - (x1).toNat),VI .i64 13,VI .i64 4] w11 fun e16 w15 =>
 ∃ i17:Int,∃ t18:Bool,e16=.returned (VT #[VI .u64 i17,VB t18])/\(
 gd (decide ((13:Int)<=(((x0.2.2 - (x1).toNat):Nat):Int))) <|
 Calls Tryz.prog 106 #[VS (slA (slA x0.1 x0.2.2 (x1).toNat 1) (x0.2.2 - (x1).toNat) 0 1) 13 (x0.2.2 - (x1).toNat)] w15 fun e20 w19 =>
 ∃ i21:Int,e20=.returned (VI .u32 i21)/\(
 vIf (i17 != (WR .u64 i21))
 (gd (([VI .i64 0] ++ ([VI .u64 0] ++ ([VS none 0 0] ++ ([VI .i64 0] ++ [])))).length == 4) <|
 st w19 x4.1 x4.2 ([VI .i64 0] ++ ([VI .u64 0] ++ ([VS none 0 0] ++ ([VI .i64 0] ++ [])))) fun w22 =>
 ldA 4 w22 x4.1 x4.2 fun a23 =>
 Q (VT #[ofL a23,VI .i64 5]) w22)
 (dr (slA x0.1 x0.2.2 (x1).toNat 1) fun b24 o25 =>
 gd (decide ((0:Int) < (((x0.2.1 - (x1).toNat):Nat):Int))) <|
 ldI .u8 w19 b24 o25 fun i26 =>
 vIf ((WR .i64 i26) == 0)
 (jnC (F110.k13 Q) (x1,(x4.1,x4.2),((slA x0.1 x0.2.2 (x1).toNat 1),(x0.2.1 - (x1).toNat),(x0.2.2 - (x1).toNat)),i9,i13,((WR .i64 i26)),true,()) w19)
 (vIf (decide ((WR .i64 i26) > 8))
 (jnC (F110.k13 Q) (x1,(x4.1,x4.2),((slA x0.1 x0.2.2 (x1).toNat 1),(x0.2.1 - (x1).toNat),(x0.2.2 - (x1).toNat)),i9,i13,((WR .i64 i26)),true,()) w19)
 (jnC (F110.k13 Q) (x1,(x4.1,x4.2),((slA x0.1 x0.2.2 (x1).toNat 1),(x0.2.1 - (x1).toNat),(x0.2.2 - (x1).toNat)),i9,i13,((WR .i64 i26)),(decide (i13 > 65536)),()) w19))))))))
def F110.k3 (Q:QT):(ST×Int×NT×Unit)->WT:=fun s w=>∀ _:Nat->Value,F110.k3c Q s.1 s.2.1 s.2.2.1 w
def F110.k2c (Q:QT) (x0:ST) (x1:Int) (x4:NT) (x22:Bool) (w:World):Prop :=
 vIf x22
 (gd (([VI .i64 0] ++ ([VI .u64 0] ++ ([VS none 0 0] ++ ([VI .i64 0] ++ [])))).length == 4) <|
 st w x4.1 x4.2 ([VI .i64 0] ++ ([VI .u64 0] ++ ([VS none 0 0] ++ ([VI .i64 0] ++ [])))) fun w3 =>
 ldA 4 w3 x4.1 x4.2 fun a4 =>
 Q (VT #[ofL a4,VI .i64 2]) w3)
 (jnC (F110.k3 Q) ((x0.1,x0.2.1,x0.2.2),x1,(x4.1,x4.2),()) w)
def F110.k2 (Q:QT):(ST×Int×NT×Bool×Unit)->WT:=fun s w=>∀ _:Nat->Value,F110.k2c Q s.1 s.2.1 s.2.2.1 s.2.2.2.1 w
def F110.vc (x0A:Option Addr) (x0n x0c:Nat) (x1:Int) (w:World) (Q:QT):Prop :=
 nw w Z196 196 fun b1 w2 =>
 vIf (decide (x1 < 0))
 (jnC (F110.k2 Q) ((x0A,x0n,x0c),x1,(b1,0),true,()) w2)
 (jnC (F110.k2 Q) ((x0A,x0n,x0c),x1,(b1,0),(decide (x1 > (x0n:Int))),()) w2)
def F110.an:Ann:=⟨[],[(2,[(0,.kSl),(1,.kI .i64),(4,.kL),(22,.kB)]),(3,[(0,.kSl),(1,.kI .i64),(4,.kL)]),(13,[(1,.kI .i64),(4,.kL),(6,.kSl),(7,.kI .u64),(9,.kI .u64),(13,.kI .i64),(66,.kB)]),(14,[(1,.kI .i64),(4,.kL),(6,.kSl),(7,.kI .u64),(9,.kI .u64),(13,.kI .i64)])]⟩
theorem F110.of (x0A:Option Addr) (x0n x0c:Nat) (x1:Int) (w:World) {Q:QT} (h:F110.vc x0A x0n x0c x1 w Q):Calls Tryz.prog 110 #[VS x0A x0n x0c,VI .i64 x1] w (fun e w'=>∃ v,e=.returned v/\Q v w'):=vcFn_of (A:=F110.an) noCount mixed h (by kernel_rfl)
def F111.k18c (Q:QT) (x4:NT) (x6:NT) (w:World):Prop :=
 ldA 38 w x6.1 x6.2 fun a29 =>
 gd (a29.length == 38) <|
 st w x4.1 x4.2 a29 fun w30 =>
 ldA 38 w30 x4.1 x4.2 fun a31 =>
 Q (VT #[ofL a31,VB true]) w30
def F111.k18 (Q:QT):(NT×NT×Unit)->WT:=fun s w=>∀ _:Nat->Value,F111.k18c Q s.1 s.2.1 w
def F111.k15c (Q:QT) (x0:Int) (x1:ST) (x4:NT) (x6:NT) (w:World):Prop :=
 Calls Tryz.prog 158 #[VS x1.1 x1.2.1 x1.2.2] w fun e21 w20 =>
 ∃ a22:List Value,e21=.returned (ofL a22)/\(
 gd (a22.length == 32) <|
 st w20 x6.1 (x6.2+2) a22 fun w23 =>
 vIf (decide (x0<=2))
 (gd (decide ((32:Int)<=(x1.2.1:Int))) <|
 app w23 1 1 [VI .u8 0] 5 none 0 0 (VS (slA x1.1 x1.2.2 32 1) (x1.2.1 - 32) (x1.2.2 - 32)) fun A24 n25 c26 w27 =>
 st w27 x6.1 (x6.2+35) [VS A24 n25 c26] fun w28 =>
 jnC (F111.k18 Q) ((x4.1,x4.2),(x6.1,x6.2),()) w28)
 (jnC (F111.k18 Q) ((x4.1,x4.2),(x6.1,x6.2),()) w23))
def F111.k15 (Q:QT):(Int×ST×NT×NT×Unit)->WT:=fun s w=>∀ _:Nat->Value,F111.k15c Q s.1 s.2.1 s.2.2.1 s.2.2.2.1 w
def F111.k14c (Q:QT) (x0:Int) (x1:ST) (x4:NT) (x6:NT) (x72:Bool) (w:World):Prop :=
 vIf x72
 (ldA 38 w x6.1 x6.2 fun a17 =>
 gd (a17.length == 38) <|
 st w x4.1 x4.2 a17 fun w18 =>
 ldA 38 w18 x4.1 x4.2 fun a19 =>
 Q (VT #[ofL a19,VB false]) w18)
 (jnC (F111.k15 Q) (x0,(x1.1,x1.2.1,x1.2.2),(x4.1,x4.2),(x6.1,x6.2),()) w)
def F111.k14 (Q:QT):(Int×ST×NT×NT×Bool×Unit)->WT:=fun s w=>∀ _:Nat->Value,F111.k14c Q s.1 s.2.1 s.2.2.1 s.2.2.2.1 s.2.2.2.2.1 w
def F111.k25c (Q:QT) (x4:NT) (x6:NT) (w:World):Prop :=
 ldA 38 w x6.1 x6.2 fun a40 =>
 gd (a40.length == 38) <|
 st w x4.1 x4.2 a40 fun w41 =>
 ldA 38 w41 x4.1 x4.2 fun a42 =>
 Q (VT #[ofL a42,VB true]) w41
def F111.k25 (Q:QT):(NT×NT×Unit)->WT:=fun s w=>∀ _:Nat->Value,F111.k25c Q s.1 s.2.1 w
def F111.k22c (Q:QT) (x1:ST) (x4:NT) (x6:NT) (w:World):Prop :=
 Calls Tryz.prog 157 #[VS x1.1 x1.2.1 x1.2.2,VI .i64 8,VI .i64 8] w fun e36 w35 =>
 ∃ i37:Int,∃ t38:Bool,e36=.returned (VT #[VI .u64 i37,VB t38])/\(
 vIf (decide (i37 < 4294967296))
 (st w35 x6.1 (x6.2+36) [VI .i64 (WR .i64 i37)] fun w39 =>
 jnC (F111.k25 Q) ((x4.1,x4.2),(x6.1,x6.2),()) w39)
 (jnC (F111.k25 Q) ((x4.1,x4.2),(x6.1,x6.2),()) w35))
def F111.k22 (Q:QT):(ST×NT×NT×Unit)->WT:=fun s w=>∀ _:Nat->Value,F111.k22c Q s.1 s.2.1 s.2.2.1 w
def F111.k21c (Q:QT) (x1:ST) (x4:NT) (x6:NT) (x93:Bool) (w:World):Prop :=
 vIf x93
 (ldA 38 w x6.1 x6.2 fun a32 =>
 gd (a32.length == 38) <|
 st w x4.1 x4.2 a32 fun w33 =>
 ldA 38 w33 x4.1 x4.2 fun a34 =>
 Q (VT #[ofL a34,VB false]) w33)
 (jnC (F111.k22 Q) ((x1.1,x1.2.1,x1.2.2),(x4.1,x4.2),(x6.1,x6.2),()) w)
def F111.k21 (Q:QT):(ST×NT×NT×Bool×Unit)->WT:=fun s w=>∀ _:Nat->Value,F111.k21c Q s.1 s.2.1 s.2.2.1 s.2.2.2.1 w
def F111.k19c (Q:QT) (x0:Int) (x1:ST) (x4:NT) (x6:NT) (x7:Int) (w:World):Prop :=
 vIf (x0 == 7)
 (vIf (x7 != 16)
 (jnC (F111.k21 Q) ((x1.1,x1.2.1,x1.2.2),(x4.1,x4.2),(x6.1,x6.2),true,()) w)
 (gd (decide ((8:Int)<=(x1.2.2:Int))) <|
 b2s w (slA x1.1 x1.2.2 0 1) 8 fun s43 =>
 jnC (F111.k21 Q) ((x1.1,x1.2.1,x1.2.2),(x4.1,x4.2),(x6.1,x6.2),(!(s43.toList == (⟨#[115,116,105,108,108,97,103,101]⟩:ByteArray).toList)),()) w))
 (vIf (x7 != 8)
 (ldA 38 w x6.1 x6.2 fun a44 =>
 gd (a44.length == 38) <|
 st w x4.1 x4.2 a44 fun w45 =>
 ldA 38 w45 x4.1 x4.2 fun a46 =>
 Q (VT #[ofL a46,VB false]) w45)
 (Calls Tryz.prog 157 #[VS x1.1 x1.2.1 x1.2.2,VI .i64 0,VI .i64 4] w fun e48 w47 =>
 ∃ i49:Int,∃ t50:Bool,e48=.returned (VT #[VI .u64 i49,VB t50])/\(
 Calls Tryz.prog 157 #[VS x1.1 x1.2.1 x1.2.2,VI .i64 4,VI .i64 4] w47 fun e52 w51 =>
 ∃ i53:Int,∃ t54:Bool,e52=.returned (VT #[VI .u64 i53,VB t54])/\(
 st w51 x6.1 (x6.2+36) [VI .i64 (WR .i64 i49)] fun w55 =>
 st w55 x6.1 (x6.2+37) [VI .i64 (WR .i64 i53)] fun w56 =>
 ldA 38 w56 x6.1 x6.2 fun a57 =>
 gd (a57.length == 38) <|
 st w56 x4.1 x4.2 a57 fun w58 =>
 ldA 38 w58 x4.1 x4.2 fun a59 =>
 Q (VT #[ofL a59,VB true]) w58))))
def F111.k19 (Q:QT):(Int×ST×NT×NT×Int×Unit)->WT:=fun s w=>∀ _:Nat->Value,F111.k19c Q s.1 s.2.1 s.2.2.1 s.2.2.2.1 s.2.2.2.2.1 w
def F111.k13c (Q:QT) (x0:Int) (x1:ST) (x4:NT) (x6:NT) (x7:Int) (x62:Bool) (w:World):Prop :=
 vIf x62
 (vIf (decide (x7 < 32))
 (jnC (F111.k14 Q) (x0,(x1.1,x1.2.1,x1.2.2),(x4.1,x4.2),(x6.1,x6.2),true,()) w)
 (vIf (decide (x0 > 2))
 (jnC (F111.k14 Q) (x0,(x1.1,x1.2.1,x1.2.2),(x4.1,x4.2),(x6.1,x6.2),(decide (x7 > 32)),()) w)
 (jnC (F111.k14 Q) (x0,(x1.1,x1.2.1,x1.2.2),(x4.1,x4.2),(x6.1,x6.2),false,()) w)))
 (jnC (F111.k19 Q) (x0,(x1.1,x1.2.1,x1.2.2),(x4.1,x4.2),(x6.1,x6.2),x7,()) w)
def F111.k13 (Q:QT):(Int×ST×NT×NT×Int×Bool×Unit)->WT:=fun s w=>∀ _:Nat->Value,F111.k13c Q s.1 s.2.1 s.2.2.1 s.2.2.2.1 s.2.2.2.2.1 s.2.2.2.2.2.1 w
def F111.k12c (Q:QT) (x0:Int) (x1:ST) (x4:NT) (x6:NT) (x7:Int) (w:World):Prop :=
 vIf (decide (x0<=3))
 (jnC (F111.k13 Q) (x0,(x1.1,x1.2.1,x1.2.2),(x4.1,x4.2),(x6.1,x6.2),x7,true,()) w)
 (jnC (F111.k13 Q) (x0,(x1.1,x1.2.1,x1.2.2),(x4.1,x4.2),(x6.1,x6.2),x7,(x0 == 5),()) w)
def F111.k12 (Q:QT):(Int×ST×NT×NT×Int×Unit)->WT:=fun s w=>∀ _:Nat->Value,F111.k12c Q s.1 s.2.1 s.2.2.1 s.2.2.2.1 s.2.2.2.2.1 w
def F111.k6c (Q:QT) (x0:Int) (x1:ST) (x4:NT) (x6:NT) (w:World):Prop :=
 dr x1.1 fun b9 o10 =>
 gd (decide ((0:Int) < (x1.2.1:Int))) <|
 ldI .u8 w b9 o10 fun i11 =>
 gd (decide (0<=(WR .i64 (1+(WR .i64 i11))))) <|
 gd (decide ((WR .i64 (1+(WR .i64 i11)))<=(x1.2.2:Int))) <|
 gd (decide ((1:Int)<=((((WR .i64 (1+(WR .i64 i11)))).toNat:Nat):Int))) <|
 b2s w (slA x1.1 x1.2.2 1 1) (((WR .i64 (1+(WR .i64 i11)))).toNat - 1) fun s12 =>
 st w x6.1 (x6.2+34) [VG s12] fun w13 =>
 gd (decide (0<=(WR .i64 (1+(WR .i64 i11))))) <|
 gd (decide ((WR .i64 (1+(WR .i64 i11)))<=(x1.2.1:Int))) <|
 vIf (x0 == 4)
 (ldA 38 w13 x6.1 x6.2 fun a14 =>
 gd (a14.length == 38) <|
 st w13 x4.1 x4.2 a14 fun w15 =>
 ldA 38 w15 x4.1 x4.2 fun a16 =>
 Q (VT #[ofL a16,VB ((((x1.2.1 - ((WR .i64 (1+(WR .i64 i11)))).toNat):Nat):Int) == 0)]) w15)
 (jnC (F111.k12 Q) (x0,((slA x1.1 x1.2.2 ((WR .i64 (1+(WR .i64 i11)))).toNat 1),(x1.2.1 - ((WR .i64 (1+(WR .i64 i11)))).toNat),(x1.2.2 - ((WR .i64 (1+(WR .i64 i11)))).toNat)),(x4.1,x4.2),(x6.1,x6.2),((((x1.2.1 - ((WR .i64 (1+(WR .i64 i11)))).toNat):Nat):Int)),()) w13)
def F111.k6 (Q:QT):(Int×ST×NT×NT×Unit)->WT:=fun s w=>∀ _:Nat->Value,F111.k6c Q s.1 s.2.1 s.2.2.1 s.2.2.2.1 w
def F111.k5c (Q:QT) (x0:Int) (x1:ST) (x4:NT) (x6:NT) (x35:Bool) (w:World):Prop :=
 vIf x35
 (ldA 38 w x6.1 x6.2 fun a6 =>
 gd (a6.length == 38) <|
 st w x4.1 x4.2 a6 fun w7 =>
 ldA 38 w7 x4.1 x4.2 fun a8 =>
 Q (VT #[ofL a8,VB false]) w7)
 (jnC (F111.k6 Q) (x0,(x1.1,x1.2.1,x1.2.2),(x4.1,x4.2),(x6.1,x6.2),()) w)
def F111.k5 (Q:QT):(Int×ST×NT×NT×Bool×Unit)->WT:=fun s w=>∀ _:Nat->Value,F111.k5c Q s.1 s.2.1 s.2.2.1 s.2.2.2.1 s.2.2.2.2.1 w
def F111.k4c (Q:QT) (x0:Int) (x1:ST) (x4:NT) (x6:NT) (x7:Int) (x24:Bool) (w:World):Prop :=
 vIf x24
 (vIf (x7 == 0)
 (jnC (F111.k5 Q) (x0,(x1.1,x1.2.1,x1.2.2),(x4.1,x4.2),(x6.1,x6.2),true,()) w)
 (dr x1.1 fun b60 o61 =>
 gd (decide ((0:Int) < (x1.2.1:Int))) <|
 ldI .u8 w b60 o61 fun i62 =>
 jnC (F111.k5 Q) (x0,(x1.1,x1.2.1,x1.2.2),(x4.1,x4.2),(x6.1,x6.2),(decide (x7 < (WR .i64 (1+(WR .i64 i62))))),()) w))
 (jnC (F111.k12 Q) (x0,(x1.1,x1.2.1,x1.2.2),(x4.1,x4.2),(x6.1,x6.2),x7,()) w)
def F111.k4 (Q:QT):(Int×ST×NT×NT×Int×Bool×Unit)->WT:=fun s w=>∀ _:Nat->Value,F111.k4c Q s.1 s.2.1 s.2.2.1 s.2.2.2.1 s.2.2.2.2.1 s.2.2.2.2.2.1 w
def F111.vc (x0:Int) (x1A:Option Addr) (x1n x1c:Nat) (w:World) (Q:QT):Prop :=
 nw w Z92 92 fun b1 w2 =>
 nw w2 Z92 92 fun b3 w4 =>
 gd (([VI .i64 x0] ++ ([VI .u64 0] ++ ([VI .u8 0,VI .u8 0,VI .u8 0,VI .u8 0,VI .u8 0,VI .u8 0,VI .u8 0,VI .u8 0,VI .u8 0,VI .u8 0,VI .u8 0,VI .u8 0,VI .u8 0,VI .u8 0,VI .u8 0,VI .u8 0,VI .u8 0,VI .u8 0,VI .u8 0,VI .u8 0,VI .u8 0,VI .u8 0,VI .u8 0,VI .u8 0,VI .u8 0,VI .u8 0,VI .u8 0,VI .u8 0,VI .u8 0,VI .u8 0,VI .u8 0,VI .u8 0] ++ ([VG (⟨#[]⟩:ByteArray)] ++ ([VS none 0 0] ++ ([VI .i64 0] ++ ([VI .i64 0] ++ []))))))).length == 38) <|
 st w4 b3 0 ([VI .i64 x0] ++ ([VI .u64 0] ++ ([VI .u8 0,VI .u8 0,VI .u8 0,VI .u8 0,VI .u8 0,VI .u8 0,VI .u8 0,VI .u8 0,VI .u8 0,VI .u8 0,VI .u8 0,VI .u8 0,VI .u8 0,VI .u8 0,VI .u8 0,VI .u8 0,VI .u8 0,VI .u8 0,VI .u8 0,VI .u8 0,VI .u8 0,VI .u8 0,VI .u8 0,VI .u8 0,VI .u8 0,VI .u8 0,VI .u8 0,VI .u8 0,VI .u8 0,VI .u8 0,VI .u8 0,VI .u8 0] ++ ([VG (⟨#[]⟩:ByteArray)] ++ ([VS none 0 0] ++ ([VI .i64 0] ++ ([VI .i64 0] ++ []))))))) fun w5 =>
 vIf (x0 == 3)
 (jnC (F111.k4 Q) (x0,(x1A,x1n,x1c),(b1,0),(b3,0),((x1n:Int)),true,()) w5)
 (jnC (F111.k4 Q) (x0,(x1A,x1n,x1c),(b1,0),(b3,0),((x1n:Int)),(x0 == 4),()) w5)
def F111.an:Ann:=⟨[],[(4,[(0,.kI .i64),(1,.kSl),(4,.kL),(6,.kL),(7,.kI .i64),(24,.kB)]),(5,[(0,.kI .i64),(1,.kSl),(4,.kL),(6,.kL),(35,.kB)]),(6,[(0,.kI .i64),(1,.kSl),(4,.kL),(6,.kL)]),(12,[(0,.kI .i64),(1,.kSl),(4,.kL),(6,.kL),(7,.kI .i64)]),(13,[(0,.kI .i64),(1,.kSl),(4,.kL),(6,.kL),(7,.kI .i64),(62,.kB)]),(14,[(0,.kI .i64),(1,.kSl),(4,.kL),(6,.kL),(72,.kB)]),(15,[(0,.kI .i64),(1,.kSl),(4,.kL),(6,.kL)]),(18,[(4,.kL),(6,.kL)]),(19,[(0,.kI .i64),(1,.kSl),(4,.kL),(6,.kL),(7,.kI .i64)]),(21,[(1,.kSl),(4,.kL),(6,.kL),(93,.kB)]),(22,[(1,.kSl),(4,.kL),(6,.kL)]),(25,[(4,.kL),(6,.kL)])]⟩
theorem F111.of (x0:Int) (x1A:Option Addr) (x1n x1c:Nat) (w:World) {Q:QT} (h:F111.vc x0 x1A x1n x1c w Q):Calls Tryz.prog 111 #[VI .i64 x0,VS x1A x1n x1c] w (fun e w'=>∃ v,e=.returned v/\Q v w'):=vcFn_of (A:=F111.an) noCount mixed h (by kernel_rfl)
def F112.k10c (Q:QT) (x1:NT) (x3:Int) (w:World):Prop :=
 vIf (x3 == 7)
 (ldI .i64 w x1.1 (x1.2+36) fun i15 =>
 vIf (decide (i15 < 1))
 (Q (VI .i64 20) w)
 (ldI .i64 w x1.1 (x1.2+36) fun i16 =>
 vIf (decide (i16 > 99999999))
 (Q (VI .i64 20) w)
 (Q (VI .i64 0) w)))
 (Q (VI .i64 0) w)
def F112.k10 (Q:QT):(NT×Int×Unit)->WT:=fun s w=>∀ _:Nat->Value,F112.k10c Q s.1 s.2.1 w
def F112.k8c (Q:QT) (x1:NT) (x3:Int) (w:World):Prop :=
 vIf (x3 == 6)
 (ldI .i64 w x1.1 (x1.2+36) fun i11 =>
 vIf (decide (i11 < 0))
 (Q (VI .i64 20) w)
 (ldI .i64 w x1.1 (x1.2+37) fun i12 =>
 vIf (decide (i12 < 0))
 (Q (VI .i64 20) w)
 (ldI .i64 w x1.1 (x1.2+36) fun i13 =>
 vIf (decide (i13 >= 4294967296))
 (Q (VI .i64 20) w)
 (ldI .i64 w x1.1 (x1.2+37) fun i14 =>
 vIf (decide (i14 >= 4294967296))
 (Q (VI .i64 20) w)
 (jnC (F112.k10 Q) ((x1.1,x1.2),x3,()) w)))))
 (vIf (x3 == 8)
 (ldI .i64 w x1.1 (x1.2+36) fun i17 =>
 vIf (decide (i17 < 0))
 (Q (VI .i64 20) w)
 (ldI .i64 w x1.1 (x1.2+37) fun i18 =>
 vIf (decide (i18 < 0))
 (Q (VI .i64 20) w)
 (ldI .i64 w x1.1 (x1.2+36) fun i19 =>
 vIf (decide (i19 >= 4294967296))
 (Q (VI .i64 20) w)
 (ldI .i64 w x1.1 (x1.2+37) fun i20 =>
 vIf (decide (i20 >= 4294967296))
 (Q (VI .i64 20) w)
 (jnC (F112.k10 Q) ((x1.1,x1.2),x3,()) w)))))
 (jnC (F112.k10 Q) ((x1.1,x1.2),x3,()) w))
def F112.k8 (Q:QT):(NT×Int×Unit)->WT:=fun s w=>∀ _:Nat->Value,F112.k8c Q s.1 s.2.1 w
def F112.k6c (Q:QT) (x1:NT) (x3:Int) (w:World):Prop :=
 vIf (x3 == 3)
 (ldS w x1.1 (x1.2+34) fun s7 =>
 Calls Tryz.prog 109 #[VG s7] w fun e9 w8 =>
 ∃ t10:Bool,e9=.returned (VB t10)/\(
 vIf (!t10)
 (Q (VI .i64 12) w8)
 (jnC (F112.k8 Q) ((x1.1,x1.2),x3,()) w8)))
 (vIf (x3 == 4)
 (ldS w x1.1 (x1.2+34) fun s21 =>
 Calls Tryz.prog 109 #[VG s21] w fun e23 w22 =>
 ∃ t24:Bool,e23=.returned (VB t24)/\(
 vIf (!t24)
 (Q (VI .i64 12) w22)
 (jnC (F112.k8 Q) ((x1.1,x1.2),x3,()) w22)))
 (jnC (F112.k8 Q) ((x1.1,x1.2),x3,()) w))
def F112.k6 (Q:QT):(NT×Int×Unit)->WT:=fun s w=>∀ _:Nat->Value,F112.k6c Q s.1 s.2.1 w
def F112.k4c (Q:QT) (x1:NT) (x3:Int) (w:World):Prop :=
 vIf (decide (x3<=2))
 (ldSl w x1.1 (x1.2+35) fun A4 n5 c6 =>
 vIf (decide ((n5:Int) > 65504))
 (Q (VI .i64 18) w)
 (jnC (F112.k6 Q) ((x1.1,x1.2),x3,()) w))
 (jnC (F112.k6 Q) ((x1.1,x1.2),x3,()) w)
def F112.k4 (Q:QT):(NT×Int×Unit)->WT:=fun s w=>∀ _:Nat->Value,F112.k4c Q s.1 s.2.1 w
def F112.vc (x0:List Value) (w:World) (Q:QT):Prop :=
 nw w x0 92 fun b1 w2 =>
 ldI .i64 w2 b1 0 fun i3 =>
 vIf (decide (i3 < 1))
 (Q (VI .i64 2) w2)
 (vIf (decide (i3 > 8))
 (Q (VI .i64 2) w2)
 (jnC (F112.k4 Q) ((b1,0),i3,()) w2))
def F112.an:Ann:=⟨[],[(4,[(1,.kL),(3,.kI .i64)]),(6,[(1,.kL),(3,.kI .i64)]),(8,[(1,.kL),(3,.kI .i64)]),(10,[(1,.kL),(3,.kI .i64)])]⟩
theorem F112.of (x0:List Value) (w:World) {Q:QT} (h:F112.vc x0 w Q):Calls Tryz.prog 112 #[ofL x0] w (fun e w'=>∃ v,e=.returned v/\Q v w'):=vcFn_of (A:=F112.an) noCount mixed h (by kernel_rfl)
def F113.k4c (Q:QT) (x2:NT) (x4:NT) (x5:NT) (w:World):Prop :=
 ldA 38 w x2.1 x2.2 fun a21 =>
 Calls Tryz.prog 159 #[ofL a21] w fun e23 w22 =>
 ∃ a24:List Value,e23=.returned (ofL a24)/\(
 nw w22 Z92 92 fun b25 w26 =>
 gd (a24.length == 38) <|
 st w26 b25 0 a24 fun w27 =>
 ldA 32 w27 b25 (0+2) fun a28 =>
 gd (a28.length == 32) <|
 st w27 x5.1 (x5.2+2) a28 fun w29 =>
 ldS w29 b25 (0+34) fun s30 =>
 st w29 x5.1 (x5.2+34) [VG s30] fun w31 =>
 ldSl w31 b25 (0+35) fun A32 n33 c34 =>
 ldI .i64 w31 b25 (0+37) fun i35 =>
 st w31 x5.1 (x5.2+35) [VI .i64 (WR .i64 ((n33:Int)+i35))] fun w36 =>
 ldA 39 w36 x5.1 x5.2 fun a37 =>
 gd (a37.length == 39) <|
 st w36 x4.1 x4.2 a37 fun w38 =>
 ldA 39 w38 x4.1 x4.2 fun a39 =>
 Q (ofL a39) w38)
def F113.k4 (Q:QT):(NT×NT×NT×Unit)->WT:=fun s w=>∀ _:Nat->Value,F113.k4c Q s.1 s.2.1 s.2.2.1 w
def F113.vc (x0:List Value) (x1:List Value) (w:World) (Q:QT):Prop :=
 nw w x0 92 fun b1 w2 =>
 nw w2 x1 111 fun b3 w4 =>
 nw w4 Z113 113 fun b5 w6 =>
 ldI .i64 w6 b1 0 fun i7 =>
 ldI .u64 w6 b1 (0+1) fun i8 =>
 ldA 3 w6 b3 0 fun a9 =>
 gd (a9.length == 3) <|
 nw w6 Z113 113 fun b10 w11 =>
 gd (([VI .i64 i7] ++ ([VI .u64 i8] ++ ([VI .u8 0,VI .u8 0,VI .u8 0,VI .u8 0,VI .u8 0,VI .u8 0,VI .u8 0,VI .u8 0,VI .u8 0,VI .u8 0,VI .u8 0,VI .u8 0,VI .u8 0,VI .u8 0,VI .u8 0,VI .u8 0,VI .u8 0,VI .u8 0,VI .u8 0,VI .u8 0,VI .u8 0,VI .u8 0,VI .u8 0,VI .u8 0,VI .u8 0,VI .u8 0,VI .u8 0,VI .u8 0,VI .u8 0,VI .u8 0,VI .u8 0,VI .u8 0] ++ ([VG (⟨#[]⟩:ByteArray)] ++ ([VI .i64 0] ++ (a9 ++ [])))))).length == 39) <|
 st w11 b10 0 ([VI .i64 i7] ++ ([VI .u64 i8] ++ ([VI .u8 0,VI .u8 0,VI .u8 0,VI .u8 0,VI .u8 0,VI .u8 0,VI .u8 0,VI .u8 0,VI .u8 0,VI .u8 0,VI .u8 0,VI .u8 0,VI .u8 0,VI .u8 0,VI .u8 0,VI .u8 0,VI .u8 0,VI .u8 0,VI .u8 0,VI .u8 0,VI .u8 0,VI .u8 0,VI .u8 0,VI .u8 0,VI .u8 0,VI .u8 0,VI .u8 0,VI .u8 0,VI .u8 0,VI .u8 0,VI .u8 0,VI .u8 0] ++ ([VG (⟨#[]⟩:ByteArray)] ++ ([VI .i64 0] ++ (a9 ++ [])))))) fun w12 =>
 ldI .i64 w12 b1 0 fun i13 =>
 vIf (decide (i13 < 1))
 (ldA 39 w12 b10 0 fun a14 =>
 gd (a14.length == 39) <|
 st w12 b5 0 a14 fun w15 =>
 ldA 39 w15 b5 0 fun a16 =>
 Q (ofL a16) w15)
 (ldI .i64 w12 b1 0 fun i17 =>
 vIf (decide (i17 > 8))
 (ldA 39 w12 b10 0 fun a18 =>
 gd (a18.length == 39) <|
 st w12 b5 0 a18 fun w19 =>
 ldA 39 w19 b5 0 fun a20 =>
 Q (ofL a20) w19)
 (jnC (F113.k4 Q) ((b1,0),(b5,0),(b10,0),()) w12))
def F113.an:Ann:=⟨[],[(4,[(2,.kL),(4,.kL),(5,.kL)])]⟩
theorem F113.of (x0:List Value) (x1:List Value) (w:World) {Q:QT} (h:F113.vc x0 x1 w Q):Calls Tryz.prog 113 #[ofL x0,ofL x1] w (fun e w'=>∃ v,e=.returned v/\Q v w'):=vcFn_of (A:=F113.an) noCount mixed h (by kernel_rfl)
def F114.vc (x0:Int) (x1:Int) (x2A:Option Addr) (x2n x2c:Nat) (w:World) (Q:QT):Prop :=
 nw w ([VI .u8 (WR .u8 x0)] ++ []) 5 fun b1 w2 =>
 app w2 1 1 [VI .u8 0] 5 none 0 0 (VS (some ⟨b1,0,none⟩) 1 1) fun A3 n4 c5 w6 =>
 Calls Tryz.prog 105 #[VS A3 n4 c5,VI .u64 x1,VI .i64 8] w6 fun e8 w7 =>
 ∃ (A9:Option Addr) (n10 c11:Nat),e8=.returned (VS A9 n10 c11)/\(
 Calls Tryz.prog 105 #[VS A9 n10 c11,VI .u64 (WR .u64 (x2n:Int)),VI .i64 4] w7 fun e13 w12 =>
 ∃ (A14:Option Addr) (n15 c16:Nat),e13=.returned (VS A14 n15 c16)/\(
 Calls Tryz.prog 106 #[VS A14 n15 c16] w12 fun e18 w17 =>
 ∃ i19:Int,e18=.returned (VI .u32 i19)/\(
 Calls Tryz.prog 105 #[VS A14 n15 c16,VI .u64 (WR .u64 i19),VI .i64 4] w17 fun e21 w20 =>
 ∃ (A22:Option Addr) (n23 c24:Nat),e21=.returned (VS A22 n23 c24)/\(
 app w20 1 1 [VI .u8 0] 5 A22 n23 c24 (VS x2A x2n x2c) fun A25 n26 c27 w28 =>
 Calls Tryz.prog 106 #[VS A25 n26 c27] w28 fun e30 w29 =>
 ∃ i31:Int,e30=.returned (VI .u32 i31)/\(
 Calls Tryz.prog 105 #[VS A25 n26 c27,VI .u64 (WR .u64 i31),VI .i64 4] w29 fun e33 w32 =>
 ∃ (A34:Option Addr) (n35 c36:Nat),e33=.returned (VS A34 n35 c36)/\(
 Q (VS A34 n35 c36) w32))))))
def F114.an:Ann:=⟨[],[]⟩
theorem F114.of (x0:Int) (x1:Int) (x2A:Option Addr) (x2n x2c:Nat) (w:World) {Q:QT} (h:F114.vc x0 x1 x2A x2n x2c w Q):Calls Tryz.prog 114 #[VI .i64 x0,VI .u64 x1,VS x2A x2n x2c] w (fun e w'=>∃ v,e=.returned v/\Q v w'):=vcFn_of (A:=F114.an) noCount mixed h (by kernel_rfl)
def F115.k12c (Q:QT) (x1:NT) (x3:Int) (x4:ST) (w:World):Prop :=
 vIf (x3 == 7)
 (nw w ([VI .u8 115] ++ ([VI .u8 116] ++ ([VI .u8 105] ++ ([VI .u8 108] ++ ([VI .u8 108] ++ ([VI .u8 97] ++ ([VI .u8 103] ++ ([VI .u8 101] ++ [])))))))) 5 fun b39 w40 =>
 mkS w40 b39 fun w41 =>
 ldI .i64 w41 x1.1 (x1.2+36) fun i42 =>
 Calls Tryz.prog 105 #[VS (some ⟨b39,0,none⟩) 8 8,VI .u64 (WR .u64 i42),VI .i64 8] w41 fun e44 w43 =>
 ∃ (A45:Option Addr) (n46 c47:Nat),e44=.returned (VS A45 n46 c47)/\(
 Q (VS A45 n46 c47) w43))
 (Q (VS x4.1 x4.2.1 x4.2.2) w)
def F115.k12 (Q:QT):(NT×Int×ST×Unit)->WT:=fun s w=>∀ _:Nat->Value,F115.k12c Q s.1 s.2.1 s.2.2.1 w
def F115.k11c (Q:QT) (x1:NT) (x3:Int) (x4:ST) (x57:Bool) (w:World):Prop :=
 vIf x57
 (ldI .i64 w.drew x1.1 (x1.2+36) fun i27 =>
 ldI .i64 w.drew x1.1 (x1.2+37) fun i28 =>
 Calls Tryz.prog 105 #[VS x4.1 x4.2.1 x4.2.2,VI .u64 (WR .u64 i27),VI .i64 4] w.drew fun e30 w29 =>
 ∃ (A31:Option Addr) (n32 c33:Nat),e30=.returned (VS A31 n32 c33)/\(
 kp w.drew x1.1 (x1.2+37) 1 w29 <|
 Calls Tryz.prog 105 #[VS A31 n32 c33,VI .u64 (WR .u64 i28),VI .i64 4] w29 fun e35 w34 =>
 ∃ (A36:Option Addr) (n37 c38:Nat),e35=.returned (VS A36 n37 c38)/\(
 jnC (F115.k12 Q) ((x1.1,x1.2),x3,(A36,n37,c38),()) w34)))
 (jnC (F115.k12 Q) ((x1.1,x1.2),x3,(x4.1,x4.2.1,x4.2.2),()) w)
def F115.k11 (Q:QT):(NT×Int×ST×Bool×Unit)->WT:=fun s w=>∀ _:Nat->Value,F115.k11c Q s.1 s.2.1 s.2.2.1 s.2.2.2.1 w
def F115.k10c (Q:QT) (x1:NT) (x3:Int) (x4:ST) (w:World):Prop :=
 vIf (x3 == 6)
 (jnC (F115.k11 Q) ((x1.1,x1.2),x3,(x4.1,x4.2.1,x4.2.2),true,()) w)
 (jnC (F115.k11 Q) ((x1.1,x1.2),x3,(x4.1,x4.2.1,x4.2.2),(x3 == 8),()) w)
def F115.k10 (Q:QT):(NT×Int×ST×Unit)->WT:=fun s w=>∀ _:Nat->Value,F115.k10c Q s.1 s.2.1 s.2.2.1 w
def F115.k8c (Q:QT) (x1:NT) (x3:Int) (x4:ST) (w:World):Prop :=
 vIf (x3 == 1)
 (ldSl w x1.1 (x1.2+35) fun A20 n21 c22 =>
 app w 1 1 [VI .u8 0] 5 x4.1 x4.2.1 x4.2.2 (VS A20 n21 c22) fun A23 n24 c25 w26 =>
 jnC (F115.k10 Q) ((x1.1,x1.2),x3,(A23,n24,c25),()) w26)
 (vIf (x3 == 2)
 (ldSl w x1.1 (x1.2+35) fun A48 n49 c50 =>
 app w 1 1 [VI .u8 0] 5 x4.1 x4.2.1 x4.2.2 (VS A48 n49 c50) fun A51 n52 c53 w54 =>
 jnC (F115.k10 Q) ((x1.1,x1.2),x3,(A51,n52,c53),()) w54)
 (jnC (F115.k10 Q) ((x1.1,x1.2),x3,(x4.1,x4.2.1,x4.2.2),()) w))
def F115.k8 (Q:QT):(NT×Int×ST×Unit)->WT:=fun s w=>∀ _:Nat->Value,F115.k8c Q s.1 s.2.1 s.2.2.1 w
def F115.k6c (Q:QT) (x1:NT) (x3:Int) (x4:ST) (w:World):Prop :=
 vIf (x3 == 1)
 (app w 1 1 [VI .u8 0] 5 x4.1 x4.2.1 x4.2.2 (VS (some ⟨x1.1,(x1.2+2),none⟩) 32 32) fun A16 n17 c18 w19 =>
 jnC (F115.k8 Q) ((x1.1,x1.2),x3,(A16,n17,c18),()) w19)
 (vIf (x3 == 2)
 (app w 1 1 [VI .u8 0] 5 x4.1 x4.2.1 x4.2.2 (VS (some ⟨x1.1,(x1.2+2),none⟩) 32 32) fun A55 n56 c57 w58 =>
 jnC (F115.k8 Q) ((x1.1,x1.2),x3,(A55,n56,c57),()) w58)
 (vIf (x3 == 3)
 (app w 1 1 [VI .u8 0] 5 x4.1 x4.2.1 x4.2.2 (VS (some ⟨x1.1,(x1.2+2),none⟩) 32 32) fun A59 n60 c61 w62 =>
 jnC (F115.k8 Q) ((x1.1,x1.2),x3,(A59,n60,c61),()) w62)
 (vIf (x3 == 5)
 (app w 1 1 [VI .u8 0] 5 x4.1 x4.2.1 x4.2.2 (VS (some ⟨x1.1,(x1.2+2),none⟩) 32 32) fun A63 n64 c65 w66 =>
 jnC (F115.k8 Q) ((x1.1,x1.2),x3,(A63,n64,c65),()) w66)
 (jnC (F115.k8 Q) ((x1.1,x1.2),x3,(x4.1,x4.2.1,x4.2.2),()) w))))
def F115.k6 (Q:QT):(NT×Int×ST×Unit)->WT:=fun s w=>∀ _:Nat->Value,F115.k6c Q s.1 s.2.1 s.2.2.1 w
def F115.k4c (Q:QT) (x1:NT) (x3:Int) (x4:ST) (x12:Bool) (w:World):Prop :=
 vIf x12
 (ldS w x1.1 (x1.2+34) fun s4 =>
 nw w ([VI .u8 (WR .u8 (s4.size:Int))] ++ []) 5 fun b5 w6 =>
 app w6 1 1 [VI .u8 0] 5 x4.1 x4.2.1 x4.2.2 (VS (some ⟨b5,0,none⟩) 1 1) fun A7 n8 c9 w10 =>
 ldS w10 x1.1 (x1.2+34) fun s11 =>
 app w10 1 1 [VI .u8 0] 5 A7 n8 c9 (VG s11) fun A12 n13 c14 w15 =>
 jnC (F115.k6 Q) ((x1.1,x1.2),x3,(A12,n13,c14),()) w15)
 (jnC (F115.k6 Q) ((x1.1,x1.2),x3,(x4.1,x4.2.1,x4.2.2),()) w)
def F115.k4 (Q:QT):(NT×Int×ST×Bool×Unit)->WT:=fun s w=>∀ _:Nat->Value,F115.k4c Q s.1 s.2.1 s.2.2.1 s.2.2.2.1 w
def F115.vc (x0:List Value) (w:World) (Q:QT):Prop :=
 nw w x0 92 fun b1 w2 =>
 ldI .i64 w2 b1 0 fun i3 =>
 vIf (i3 == 3)
 (jnC (F115.k4 Q) ((b1,0),i3,(none,0,0),true,()) w2)
 (jnC (F115.k4 Q) ((b1,0),i3,(none,0,0),(i3 == 4),()) w2)
def F115.an:Ann:=⟨[],[(4,[(1,.kL),(3,.kI .i64),(4,.kSl),(12,.kB)]),(6,[(1,.kL),(3,.kI .i64),(4,.kSl)]),(8,[(1,.kL),(3,.kI .i64),(4,.kSl)]),(10,[(1,.kL),(3,.kI .i64),(4,.kSl)]),(11,[(1,.kL),(3,.kI .i64),(4,.kSl),(57,.kB)]),(12,[(1,.kL),(3,.kI .i64),(4,.kSl)])]⟩
theorem F115.of (x0:List Value) (w:World) {Q:QT} (h:F115.vc x0 w Q):Calls Tryz.prog 115 #[ofL x0] w (fun e w'=>∃ v,e=.returned v/\Q v w'):=vcFn_of (A:=F115.an) noCount mixed h (by kernel_rfl)
def F116.b9c (Q:QT) (C9:(ST×Int×Unit)->WT) (x0:ST) (x4:Int) (w:World):Prop :=
 vIf (decide (x4 < (x0.2.1:Int)))
 (dr x0.1 fun b7 o8 =>
 gd (decide (0<=x4)) <|
 gd (decide (x4 < (x0.2.1:Int))) <|
 ldA 38 w b7 (o8+(x4).toNat * 38) fun a9 =>
 Calls Tryz.prog 112 #[ofL a9] w fun e11 w10 =>
 ∃ i12:Int,e11=.returned (VI .i64 i12)/\(
 vIf (i12 != 0)
 (dr x0.1 fun b13 o14 =>
 gd (decide (0<=x4)) <|
 gd (decide (x4 < (x0.2.1:Int))) <|
 ldA 38 w10 b13 (o14+(x4).toNat * 38) fun a15 =>
 Calls Tryz.prog 112 #[ofL a15] w10 fun e17 w16 =>
 ∃ i18:Int,e17=.returned (VI .i64 i18)/\(
 Q (VI .i64 i18) w16))
 (jnC C9 ((x0.1,x0.2.1,x0.2.2),((WR .i64 (x4+1))),()) w10)))
 (Q (VI .i64 0) w)
def F116.b9 (Q:QT):(ST×Int×Unit)->World->((ST×Int×Unit)->WT)->Prop:=fun s w C9=>∀ _:Nat->Value,F116.b9c Q C9 s.1 s.2.1 w
def F116.l9 (Q:QT):(ST×Int×Unit)->WT:=fun s w=>∃ n,loopC (F116.b9 Q) n s w
def F116.b4c (Q:QT) (C4:(ST×Int×Unit)->WT) (x0:ST) (x3:Int) (w:World):Prop :=
 vIf (decide (x3 < (x0.2.1:Int)))
 (dr x0.1 fun b1 o2 =>
 gd (decide (0<=x3)) <|
 gd (decide (x3 < (x0.2.1:Int))) <|
 ldI .i64 w b1 (o2+(x3).toNat * 38) fun i3 =>
 vIf (decide (i3 < 1))
 (Q (VI .i64 2) w)
 (dr x0.1 fun b4 o5 =>
 gd (decide (0<=x3)) <|
 gd (decide (x3 < (x0.2.1:Int))) <|
 ldI .i64 w b4 (o5+(x3).toNat * 38) fun i6 =>
 vIf (decide (i6 > 5))
 (Q (VI .i64 2) w)
 (jnC C4 ((x0.1,x0.2.1,x0.2.2),((WR .i64 (x3+1))),()) w)))
 (jnC (F116.l9 Q) ((x0.1,x0.2.1,x0.2.2),(0),()) w)
def F116.b4 (Q:QT):(ST×Int×Unit)->World->((ST×Int×Unit)->WT)->Prop:=fun s w C4=>∀ _:Nat->Value,F116.b4c Q C4 s.1 s.2.1 w
def F116.l4 (Q:QT):(ST×Int×Unit)->WT:=fun s w=>∃ n,loopC (F116.b4 Q) n s w
def F116.vc (x0A:Option Addr) (x0n x0c:Nat) (w:World) (Q:QT):Prop :=
 vIf ((x0n:Int) == 0)
 (Q (VI .i64 2) w)
 (jnC (F116.l4 Q) ((x0A,x0n,x0c),(0),()) w)
def F116.an:Ann:=⟨[(4,[(0,.kSl),(3,.kI .i64)]),(9,[(0,.kSl),(4,.kI .i64)])],[]⟩
theorem F116.of (x0A:Option Addr) (x0n x0c:Nat) (w:World) {Q:QT} (h:F116.vc x0A x0n x0c w Q):Calls Tryz.prog 116 #[VS x0A x0n x0c] w (fun e w'=>∃ v,e=.returned v/\Q v w'):=vcFn_of (A:=F116.an) noCount mixed h (by kernel_rfl)
def F117.vc (x0:ByteArray) (x1:ByteArray) (w:World) (Q:QT):Prop :=
 extC Tryz.prog 160 #[VG x0,VG x1] w fun v3 w1 =>
 ∃ i4:Int,v3=VI .i64 i4/\(
 Q (VI .i64 i4) w1)
def F117.an:Ann:=⟨[],[]⟩
theorem F117.of (x0:ByteArray) (x1:ByteArray) (w:World) {Q:QT} (h:F117.vc x0 x1 w Q):Calls Tryz.prog 117 #[VG x0,VG x1] w (fun e w'=>∃ v,e=.returned v/\Q v w'):=vcFn_of (A:=F117.an) noCount mixed h (by kernel_rfl)
def F118a.b3c (Q:QT) (C3:(Unit×ST×ST×Int×Int×Unit)->WT) (x2:Unit) (x7:ST) (x14:ST) (x15:Int) (x16:Int) (w:World):Prop :=
 vIf (decide (x16 < x15))
 (dr x14.1 fun b6 o7 =>
 gd (decide (0<=x16)) <|
 gd (decide (x16 < (x14.2.1:Int))) <|
 ldA 3 w b6 (o7+(x16).toNat * 3) fun a8 =>
 nw w [VB false,VI .i64 0,VS none 0 0] 188 fun b9 w10 =>
 gd (a8.length == 3) <|
 st w10 b9 0 a8 fun w11 =>
 ldA 3 w11 b9 0 fun a12 =>
 Calls Tryz.prog 119 #[VI .i64 x16,ofL a12] w11 fun e14 w13 =>
 ∃ a15:List Value,∃ t16:Bool,e14=.returned (VT #[ofL a15,VB t16])/\(
 nw w13 [VB false,VI .i64 0,VS none 0 0] 188 fun b17 w18 =>
 gd (a15.length == 3) <|
 st w18 b17 0 a15 fun w19 =>
 vIf t16
 (ldA 3 w19 b17 0 fun a20 =>
 Calls Tryz.prog 161 #[VS x7.1 x7.2.1 x7.2.2,ofL a20] w19 fun e22 w21 =>
 ∃ (A23:Option Addr) (n24 c25:Nat),e22=.returned (VS A23 n24 c25)/\(
 jnC C3 ((),(A23,n24,c25),(x14.1,x14.2.1,x14.2.2),x15,((WR .i64 (x16+1))),()) w21))
 (jnC C3 ((),(x7.1,x7.2.1,x7.2.2),(x14.1,x14.2.1,x14.2.2),x15,((WR .i64 (x16+1))),()) w19)))
 (Q (VS x7.1 x7.2.1 x7.2.2) w)
def F118a.b3 (Q:QT):(Unit×ST×ST×Int×Int×Unit)->World->((Unit×ST×ST×Int×Int×Unit)->WT)->Prop:=fun s w C3=>∀ _:Nat->Value,F118a.b3c Q C3 s.1 s.2.1 s.2.2.1 s.2.2.2.1 s.2.2.2.2.1 w
def F118a.l3 (Q:QT):(Unit×ST×ST×Int×Int×Unit)->WT:=fun s w=>∃ n,loopC (F118a.b3 Q) n s w
def F118a.vc (x0A:Option Addr) (x0n x0c:Nat) (x1A:Option Addr) (x1n x1c:Nat) (w:World) (Q:QT):Prop :=
 Calls Tryz.prog 89 #[VS x0A x0n x0c] w fun e2 w1 =>
 ∃ (A3:Option Addr) (n4 c5:Nat),e2=.returned (VS A3 n4 c5)/\(
 jnC (F118a.l3 Q) ((),(A3,n4,c5),(x1A,x1n,x1c),((x1n:Int)),(0),()) w1)
def F118a.an:Ann:=⟨[(3,[(2,.kF 119),(7,.kSl),(14,.kSl),(15,.kI .i64),(16,.kI .i64)])],[]⟩
theorem F118a.of (x0A:Option Addr) (x0n x0c:Nat) (x1A:Option Addr) (x1n x1c:Nat) (w:World) {Q:QT} (h:F118a.vc x0A x0n x0c x1A x1n x1c w Q):Calls Tryz.prog 118 #[VS x0A x0n x0c,VS x1A x1n x1c,Value.func (.func 119) #[] #[]] w (fun e w'=>∃ v,e=.returned v/\Q v w'):=vcFn_of (A:=F118a.an) noCount mixed h (by kernel_rfl)
def F119.vc (x0:Int) (x1:List Value) (w:World) (Q:QT):Prop :=
 nw w x1 188 fun b1 w2 =>
 nw w2 [VB false,VI .i64 0,VS none 0 0] 188 fun b3 w4 =>
 ldA 3 w4 b1 0 fun a5 =>
 gd (a5.length == 3) <|
 st w4 b3 0 a5 fun w6 =>
 ldA 3 w6 b3 0 fun a7 =>
 Q (VT #[ofL a7,VB true]) w6
def F119.an:Ann:=⟨[],[]⟩
theorem F119.of (x0:Int) (x1:List Value) (w:World) {Q:QT} (h:F119.vc x0 x1 w Q):Calls Tryz.prog 119 #[VI .i64 x0,ofL x1] w (fun e w'=>∃ v,e=.returned v/\Q v w'):=vcFn_of (A:=F119.an) noCount mixed h (by kernel_rfl)
def F120.vc (x0A:Option Addr) (x0n x0c:Nat) (w:World) (Q:QT):Prop :=
 vIf x0A.isNone
 (Q (VS none 0 0) w)
 (nw w [] 62 fun b1 w2 =>
 app w2 2 24 [VG (⟨#[]⟩:ByteArray),VI .i64 0] 62 (some ⟨b1,0,none⟩) 0 0 (VS x0A x0n x0c) fun A3 n4 c5 w6 =>
 Q (VS A3 n4 c5) w6)
def F120.an:Ann:=⟨[],[]⟩
theorem F120.of (x0A:Option Addr) (x0n x0c:Nat) (w:World) {Q:QT} (h:F120.vc x0A x0n x0c w Q):Calls Tryz.prog 120 #[VS x0A x0n x0c] w (fun e w'=>∃ v,e=.returned v/\Q v w'):=vcFn_of (A:=F120.an) noCount mixed h (by kernel_rfl)
def F121s.vc (x0A:Option Addr) (x0n x0c:Nat) (w:World) (Q:QT):Prop :=
 Calls Tryz.prog 162 #[VS x0A x0n x0c,VI .i64 (x0n:Int),Value.func (.func 122) #[] #[]] w fun e2 w1 =>
 e2=.returned (VT #[])/\(
 Q (VT #[]) w1)
def F121s.an:Ann:=⟨[],[]⟩
theorem F121s.of (x0A:Option Addr) (x0n x0c:Nat) (w:World) {Q:QT} (h:F121s.vc x0A x0n x0c w Q):Calls Tryz.prog 121 #[VS x0A x0n x0c,Value.func (.func 122) #[] #[]] w (fun e w'=>∃ v,e=.returned v/\Q v w'):=vcFn_of (A:=F121s.an) noCount mixed h (by kernel_rfl)
def F122.vc (x0:List Value) (x1:List Value) (w:World) (Q:QT):Prop :=
 nw w x0 62 fun b1 w2 =>
 nw w2 x1 62 fun b3 w4 =>
 ldS w4 b1 0 fun s5 =>
 ldS w4 b3 0 fun s6 =>
 Calls Tryz.prog 73 #[VG s5,VG s6] w4 fun e8 w7 =>
 ∃ i9:Int,e8=.returned (VI .i64 i9)/\(
 Q (VI .i64 i9) w7)
def F122.an:Ann:=⟨[],[]⟩
theorem F122.of (x0:List Value) (x1:List Value) (w:World) {Q:QT} (h:F122.vc x0 x1 w Q):Calls Tryz.prog 122 #[ofL x0,ofL x1] w (fun e w'=>∃ v,e=.returned v/\Q v w'):=vcFn_of (A:=F122.an) noCount mixed h (by kernel_rfl)
def F123s.k15c (Q:QT) (C4:(ST×Unit×Int×Unit)->WT) (x0:ST) (x5:Int) (w:World):Prop :=
 gd (decide (0<=x5)) <|
 gd (decide (x5<=(x0.2.2:Int))) <|
 Q (VS (slA x0.1 x0.2.2 0 2) (x5).toNat x0.2.2) w
def F123s.k15 (Q:QT) (C4:(ST×Unit×Int×Unit)->WT):(ST×Int×Unit)->WT:=fun s w=>∀ _:Nat->Value,F123s.k15c Q C4 s.1 s.2.1 w
def F123s.b9c (Q:QT) (C4:(ST×Unit×Int×Unit)->WT) (C9:(ST×Unit×Int×ST×Int×Unit)->WT) (x0:ST) (x1:Unit) (x5:Int) (x6:ST) (x7:Int) (w:World):Prop :=
 vIf (decide (x7 < (x6.2.1:Int)))
 (dr x6.1 fun b10 o11 =>
 gd (decide (0<=x7)) <|
 gd (decide (x7 < (x6.2.1:Int))) <|
 ldA 2 w.drew b10 (o11+(x7).toNat * 2) fun a12 =>
 dr x6.1 fun b13 o14 =>
 gd (decide (0<=(WR .i64 (x7 - 1)))) <|
 gd (decide ((WR .i64 (x7 - 1)) < (x6.2.1:Int))) <|
 ldA 2 w.drew b13 (o14+((WR .i64 (x7 - 1))).toNat * 2) fun a15 =>
 Calls Tryz.prog 124 #[ofL a12,ofL a15] w.drew fun e17 w16 =>
 ∃ t18:Bool,e17=.returned (VB t18)/\(
 vIf (!t18)
 (dr x6.1 fun b19 o20 =>
 gd (decide (0<=x7)) <|
 gd (decide (x7 < (x6.2.1:Int))) <|
 ldA 2 w16 b19 (o20+(x7).toNat * 2) fun a21 =>
 dr x0.1 fun b22 o23 =>
 gd (decide (0<=x5)) <|
 gd (decide (x5 < (x0.2.1:Int))) <|
 gd (a21.length == 2) <|
 st w16 b22 (o23+(x5).toNat * 2) a21 fun w24 =>
 jnC C9 ((x0.1,x0.2.1,x0.2.2),(),((WR .i64 (x5+1))),(x6.1,x6.2.1,x6.2.2),((WR .i64 (x7+1))),()) w24)
 (jnC C9 ((x0.1,x0.2.1,x0.2.2),(),x5,(x6.1,x6.2.1,x6.2.2),((WR .i64 (x7+1))),()) w16)))
 (gd (decide (0<=x5)) <|
 gd (decide (x5<=(x0.2.1:Int))) <|
 vIf ((x0.2.1 - (x5).toNat) == 0)
 (jnC (F123s.k15 Q C4) ((x0.1,x0.2.1,x0.2.2),x5,()) w)
 (dr (slA x0.1 x0.2.2 (x5).toNat 2) fun b26 o27 =>
 st w b26 o27 (zeros (x0.2.1 - (x5).toNat) [VG (⟨#[]⟩:ByteArray),VI .i64 0]) fun w25 =>
 jnC (F123s.k15 Q C4) ((x0.1,x0.2.1,x0.2.2),x5,()) w25))
def F123s.b9 (Q:QT) (C4:(ST×Unit×Int×Unit)->WT):(ST×Unit×Int×ST×Int×Unit)->World->((ST×Unit×Int×ST×Int×Unit)->WT)->Prop:=fun s w C9=>∀ _:Nat->Value,F123s.b9c Q C4 C9 s.1 s.2.1 s.2.2.1 s.2.2.2.1 s.2.2.2.2.1 w
def F123s.l9 (Q:QT) (C4:(ST×Unit×Int×Unit)->WT):(ST×Unit×Int×ST×Int×Unit)->WT:=fun s w=>∃ n,loopC (F123s.b9 Q C4) n s w
def F123s.b4c (Q:QT) (C4:(ST×Unit×Int×Unit)->WT) (x0:ST) (x1:Unit) (x5:Int) (w:World):Prop :=
 vIf (decide (x5 < (x0.2.1:Int)))
 (dr x0.1 fun b1 o2 =>
 gd (decide (0<=x5)) <|
 gd (decide (x5 < (x0.2.1:Int))) <|
 ldA 2 w.drew b1 (o2+(x5).toNat * 2) fun a3 =>
 dr x0.1 fun b4 o5 =>
 gd (decide (0<=(WR .i64 (x5 - 1)))) <|
 gd (decide ((WR .i64 (x5 - 1)) < (x0.2.1:Int))) <|
 ldA 2 w.drew b4 (o5+((WR .i64 (x5 - 1))).toNat * 2) fun a6 =>
 Calls Tryz.prog 124 #[ofL a3,ofL a6] w.drew fun e8 w7 =>
 ∃ t9:Bool,e8=.returned (VB t9)/\(
 vIf t9
 (gd (decide (0<=x5)) <|
 gd (decide (x5<=(x0.2.1:Int))) <|
 jnC (F123s.l9 Q C4) ((x0.1,x0.2.1,x0.2.2),(),x5,((slA x0.1 x0.2.2 (x5).toNat 2),(x0.2.1 - (x5).toNat),(x0.2.2 - (x5).toNat)),(1),()) w7)
 (jnC C4 ((x0.1,x0.2.1,x0.2.2),(),((WR .i64 (x5+1))),()) w7)))
 (Q (VS x0.1 x0.2.1 x0.2.2) w)
def F123s.b4 (Q:QT):(ST×Unit×Int×Unit)->World->((ST×Unit×Int×Unit)->WT)->Prop:=fun s w C4=>∀ _:Nat->Value,F123s.b4c Q C4 s.1 s.2.1 s.2.2.1 w
def F123s.l4 (Q:QT):(ST×Unit×Int×Unit)->WT:=fun s w=>∃ n,loopC (F123s.b4 Q) n s w
def F123s.vc (x0A:Option Addr) (x0n x0c:Nat) (w:World) (Q:QT):Prop :=
 vIf (decide ((x0n:Int) < 2))
 (Q (VS x0A x0n x0c) w)
 (jnC (F123s.l4 Q) ((x0A,x0n,x0c),(),(1),()) w)
def F123s.an:Ann:=⟨[(4,[(0,.kSl),(1,.kF 124),(5,.kI .i64)]),(9,[(0,.kSl),(1,.kF 124),(5,.kI .i64),(6,.kSl),(7,.kI .i64)])],[(15,[(0,.kSl),(5,.kI .i64)])]⟩
theorem F123s.of (x0A:Option Addr) (x0n x0c:Nat) (w:World) {Q:QT} (h:F123s.vc x0A x0n x0c w Q):Calls Tryz.prog 123 #[VS x0A x0n x0c,Value.func (.func 124) #[] #[]] w (fun e w'=>∃ v,e=.returned v/\Q v w'):=vcFn_of (A:=F123s.an) noCount mixed h (by kernel_rfl)
def F124.vc (x0:List Value) (x1:List Value) (w:World) (Q:QT):Prop :=
 nw w x0 62 fun b1 w2 =>
 nw w2 x1 62 fun b3 w4 =>
 ldS w4 b1 0 fun s5 =>
 ldS w4 b3 0 fun s6 =>
 Q (VB (s5.toList == s6.toList)) w4
def F124.an:Ann:=⟨[],[]⟩
theorem F124.of (x0:List Value) (x1:List Value) (w:World) {Q:QT} (h:F124.vc x0 x1 w Q):Calls Tryz.prog 124 #[ofL x0,ofL x1] w (fun e w'=>∃ v,e=.returned v/\Q v w'):=vcFn_of (A:=F124.an) noCount mixed h (by kernel_rfl)
def F125.vc (x0A:Option Addr) (x0n x0c:Nat) (x1:ByteArray) (x2:Int) (w:World) (Q:QT):Prop :=
 Calls Tryz.prog 38 #[VS x0A x0n x0c,VG x1,Value.func (.func 39) #[] #[]] w fun e2 w1 =>
 ∃ i3:Int,∃ t4:Bool,e2=.returned (VT #[VI .i64 i3,VB t4])/\(
 vIf t4
 (dr x0A fun b5 o6 =>
 gd (decide (0<=i3)) <|
 gd (decide (i3 < (x0n:Int))) <|
 st w1 b5 ((o6+(i3).toNat * 2)+1) [VI .i64 x2] fun w7 =>
 Q (VS x0A x0n x0c) w7)
 (gd (([VG x1] ++ ([VI .i64 x2] ++ [])).length == 2) <|
 nw w1 (([VG x1] ++ ([VI .i64 x2] ++ [])) ++ []) 62 fun b8 w9 =>
 Calls Tryz.prog 163 #[VS x0A x0n x0c,VI .i64 i3,VS (some ⟨b8,0,none⟩) 1 1] w9 fun e11 w10 =>
 ∃ (A12:Option Addr) (n13 c14:Nat),e11=.returned (VS A12 n13 c14)/\(
 Q (VS A12 n13 c14) w10)))
def F125.an:Ann:=⟨[],[]⟩
theorem F125.of (x0A:Option Addr) (x0n x0c:Nat) (x1:ByteArray) (x2:Int) (w:World) {Q:QT} (h:F125.vc x0A x0n x0c x1 x2 w Q):Calls Tryz.prog 125 #[VS x0A x0n x0c,VG x1,VI .i64 x2] w (fun e w'=>∃ v,e=.returned v/\Q v w'):=vcFn_of (A:=F125.an) noCount mixed h (by kernel_rfl)
def F126.vc (x0A:Option Addr) (x0n x0c:Nat) (x1:ByteArray) (w:World) (Q:QT):Prop :=
 Calls Tryz.prog 38 #[VS x0A x0n x0c,VG x1,Value.func (.func 39) #[] #[]] w fun e2 w1 =>
 ∃ i3:Int,∃ t4:Bool,e2=.returned (VT #[VI .i64 i3,VB t4])/\(
 vIf (!t4)
 (Q (VT #[VS x0A x0n x0c,VI .i64 0,VB false]) w1)
 (dr x0A fun b5 o6 =>
 gd (decide (0<=i3)) <|
 gd (decide (i3 < (x0n:Int))) <|
 ldI .i64 w1 b5 ((o6+(i3).toNat * 2)+1) fun i7 =>
 Calls Tryz.prog 164 #[VS x0A x0n x0c,VI .i64 i3,VI .i64 (WR .i64 (i3+1))] w1 fun e9 w8 =>
 ∃ (A10:Option Addr) (n11 c12:Nat),e9=.returned (VS A10 n11 c12)/\(
 Q (VT #[VS A10 n11 c12,VI .i64 i7,VB true]) w8)))
def F126.an:Ann:=⟨[],[]⟩
theorem F126.of (x0A:Option Addr) (x0n x0c:Nat) (x1:ByteArray) (w:World) {Q:QT} (h:F126.vc x0A x0n x0c x1 w Q):Calls Tryz.prog 126 #[VS x0A x0n x0c,VG x1] w (fun e w'=>∃ v,e=.returned v/\Q v w'):=vcFn_of (A:=F126.an) noCount mixed h (by kernel_rfl)
def F144.vc (x0A:Option Addr) (x0n x0c:Nat) (x1:Int) (x2:Int) (w:World) (Q:QT):Prop :=
 vIf (decide (x1 >= 0))
 (vIf (decide (x1<=(x0n:Int)))
 (Q (VB (decide (x2<=(WR .i64 ((x0n:Int) - x1))))) w)
 (Q (VB false) w))
 (Q (VB false) w)
def F144.an:Ann:=⟨[],[]⟩
theorem F144.of (x0A:Option Addr) (x0n x0c:Nat) (x1:Int) (x2:Int) (w:World) {Q:QT} (h:F144.vc x0A x0n x0c x1 x2 w Q):Calls Tryz.prog 144 #[VS x0A x0n x0c,VI .i64 x1,VI .i64 x2] w (fun e w'=>∃ v,e=.returned v/\Q v w'):=vcFn_of (A:=F144.an) noCount mixed h (by kernel_rfl)
def F145.b4c (Q:QT) (C4:(NT×Int×ST×Int×Int×Unit)->WT) (x5:NT) (x6:Int) (x12:ST) (x13:Int) (x14:Int) (w:World):Prop :=
 vIf (decide (x14 < x13))
 (dr x12.1 fun b7 o8 =>
 gd (decide (0<=x14)) <|
 gd (decide (x14 < (x12.2.1:Int))) <|
 ldI .u8 w b7 (o8+(x14).toNat * 1) fun i9 =>
 gd (decide (0<=(iXor .u8 (iAnd .u8 (WR .u8 x6) 15) (iAnd .u8 i9 15)))) <|
 gd (decide ((iXor .u8 (iAnd .u8 (WR .u8 x6) 15) (iAnd .u8 i9 15)) < 16)) <|
 ldI .u32 w x5.1 (x5.2+((iXor .u8 (iAnd .u8 (WR .u8 x6) 15) (iAnd .u8 i9 15))).toNat * 1) fun i10 =>
 gd (decide (0<=(iXor .u8 (iAnd .u8 (WR .u8 (iXor .u32 (Int.fdiv x6 (2 ^ 4)) i10)) 15) (Int.fdiv i9 (2 ^ 4))))) <|
 gd (decide ((iXor .u8 (iAnd .u8 (WR .u8 (iXor .u32 (Int.fdiv x6 (2 ^ 4)) i10)) 15) (Int.fdiv i9 (2 ^ 4))) < 16)) <|
 ldI .u32 w x5.1 (x5.2+((iXor .u8 (iAnd .u8 (WR .u8 (iXor .u32 (Int.fdiv x6 (2 ^ 4)) i10)) 15) (Int.fdiv i9 (2 ^ 4)))).toNat * 1) fun i11 =>
 jnC C4 ((x5.1,x5.2),((iXor .u32 (Int.fdiv (iXor .u32 (Int.fdiv x6 (2 ^ 4)) i10) (2 ^ 4)) i11)),(x12.1,x12.2.1,x12.2.2),x13,((WR .i64 (x14+1))),()) w)
 (Q (VI .u32 (iXor .u32 4294967295 x6)) w)
def F145.b4 (Q:QT):(NT×Int×ST×Int×Int×Unit)->World->((NT×Int×ST×Int×Int×Unit)->WT)->Prop:=fun s w C4=>∀ _:Nat->Value,F145.b4c Q C4 s.1 s.2.1 s.2.2.1 s.2.2.2.1 s.2.2.2.2.1 w
def F145.l4 (Q:QT):(NT×Int×ST×Int×Int×Unit)->WT:=fun s w=>∃ n,loopC (F145.b4 Q) n s w
def F145.vc (x0:Int) (x1A:Option Addr) (x1n x1c:Nat) (w:World) (Q:QT):Prop :=
 Calls Tryz.prog 177 #[] w fun e2 w1 =>
 ∃ a3:List Value,e2=.returned (ofL a3)/\(
 nw w1 Z261 261 fun b4 w5 =>
 gd (a3.length == 16) <|
 st w5 b4 0 a3 fun w6 =>
 jnC (F145.l4 Q) ((b4,0),((iXor .u32 4294967295 x0)),(x1A,x1n,x1c),((x1n:Int)),(0),()) w6)
def F145.an:Ann:=⟨[(4,[(5,.kL),(6,.kI .u32),(12,.kSl),(13,.kI .i64),(14,.kI .i64)])],[]⟩
theorem F145.of (x0:Int) (x1A:Option Addr) (x1n x1c:Nat) (w:World) {Q:QT} (h:F145.vc x0 x1A x1n x1c w Q):Calls Tryz.prog 145 #[VI .u32 x0,VS x1A x1n x1c] w (fun e w'=>∃ v,e=.returned v/\Q v w'):=vcFn_of (A:=F145.an) noCount mixed h (by kernel_rfl)
def F146.vc (x0:Int) (x1:Nat×Nat) (x2:Nat×Nat) (w:World) (Q:QT):Prop :=
 ldP w x1.1 x1.2 fun p1 =>
 dr p1 fun b2 o3 =>
 ldSl w b2 o3 fun A4 n5 c6 =>
 vIf (decide ((WR .i64 ((n5:Int) - x0)) < 32))
 (Q (VT #[VI .i64 0,VI .i64 4]) w)
 (ldP w.drew x1.1 x1.2 fun p7 =>
 dr p7 fun b8 o9 =>
 ldSl w.drew b8 o9 fun A10 n11 c12 =>
 gd (decide (0<=x0)) <|
 gd (decide (x0<=(n11:Int))) <|
 cpy w.drew 1 (some ⟨x2.1,x2.2,none⟩) 32 (VS (slA A10 c12 (x0).toNat 1) (n11 - (x0).toNat) (c12 - (x0).toNat)) fun n13 w14 =>
 Q (VT #[VI .i64 (WR .i64 (x0+(n13:Int))),VI .i64 0]) w14)
def F146.an:Ann:=⟨[],[]⟩
theorem F146.of (x0:Int) (x1:Nat×Nat) (x2:Nat×Nat) (w:World) {Q:QT} (h:F146.vc x0 x1 x2 w Q):Calls Tryz.prog 146 #[VI .i64 x0,VP (some ⟨x1.1,x1.2,none⟩),VP (some ⟨x2.1,x2.2,none⟩)] w (fun e w'=>∃ v,e=.returned v/\Q v w'):=vcFn_of (A:=F146.an) noCount mixed h (by kernel_rfl)
def F147.vc (x0:Int) (x1:Nat×Nat) (x2:Nat×Nat) (w:World) (Q:QT):Prop :=
 ldP w x1.1 x1.2 fun p1 =>
 dr p1 fun b2 o3 =>
 ldSl w b2 o3 fun A4 n5 c6 =>
 Calls Tryz.prog 148 #[VS A4 n5 c6,VI .i64 x0] w fun e8 w7 =>
 ∃ s9:ByteArray,∃ i10:Int,∃ t11:Bool,e8=.returned (VT #[VG s9,VI .i64 i10,VB t11])/\(
 vIf (!t11)
 (Q (VT #[VI .i64 0,VI .i64 4]) w7)
 (st w7 x2.1 x2.2 [VG s9] fun w12 =>
 Q (VT #[VI .i64 i10,VI .i64 0]) w12))
def F147.an:Ann:=⟨[],[]⟩
theorem F147.of (x0:Int) (x1:Nat×Nat) (x2:Nat×Nat) (w:World) {Q:QT} (h:F147.vc x0 x1 x2 w Q):Calls Tryz.prog 147 #[VI .i64 x0,VP (some ⟨x1.1,x1.2,none⟩),VP (some ⟨x2.1,x2.2,none⟩)] w (fun e w'=>∃ v,e=.returned v/\Q v w'):=vcFn_of (A:=F147.an) noCount mixed h (by kernel_rfl)
def F148.k4c (Q:QT) (x0:ST) (x1:Int) (x7:Int) (w:World):Prop :=
 gd (decide (0<=(WR .i64 ((WR .i64 (x1+1))+(WR .i64 x7))))) <|
 gd (decide ((WR .i64 ((WR .i64 (x1+1))+(WR .i64 x7)))<=(x0.2.2:Int))) <|
 gd (decide (0<=(WR .i64 (x1+1)))) <|
 gd (decide ((WR .i64 (x1+1))<=((((WR .i64 ((WR .i64 (x1+1))+(WR .i64 x7)))).toNat:Nat):Int))) <|
 b2s w (slA x0.1 x0.2.2 ((WR .i64 (x1+1))).toNat 1) (((WR .i64 ((WR .i64 (x1+1))+(WR .i64 x7)))).toNat - ((WR .i64 (x1+1))).toNat) fun s5 =>
 Q (VT #[VG s5,VI .i64 (WR .i64 ((WR .i64 (x1+1))+(WR .i64 x7))),VB true]) w
def F148.k4 (Q:QT):(ST×Int×Int×Unit)->WT:=fun s w=>∀ _:Nat->Value,F148.k4c Q s.1 s.2.1 s.2.2.1 w
def F148.k3c (Q:QT) (x0:ST) (x1:Int) (x7:Int) (x26:Bool) (w:World):Prop :=
 vIf x26
 (Q (VT #[VG (⟨#[]⟩:ByteArray),VI .i64 0,VB false]) w)
 (jnC (F148.k4 Q) ((x0.1,x0.2.1,x0.2.2),x1,x7,()) w)
def F148.k3 (Q:QT):(ST×Int×Int×Bool×Unit)->WT:=fun s w=>∀ _:Nat->Value,F148.k3c Q s.1 s.2.1 s.2.2.1 s.2.2.2.1 w
def F148.vc (x0A:Option Addr) (x0n x0c:Nat) (x1:Int) (w:World) (Q:QT):Prop :=
 Calls Tryz.prog 90 #[VS x0A x0n x0c,VI .i64 x1,VI .i64 1] w fun e2 w1 =>
 ∃ i3:Int,∃ t4:Bool,e2=.returned (VT #[VI .u64 i3,VB t4])/\(
 vIf (!t4)
 (jnC (F148.k3 Q) ((x0A,x0n,x0c),x1,i3,true,()) w1)
 (Calls Tryz.prog 144 #[VS x0A x0n x0c,VI .i64 (WR .i64 (x1+1)),VI .i64 (WR .i64 i3)] w1 fun e7 w6 =>
 ∃ t8:Bool,e7=.returned (VB t8)/\(
 jnC (F148.k3 Q) ((x0A,x0n,x0c),x1,i3,(!t8),()) w6)))
def F148.an:Ann:=⟨[],[(3,[(0,.kSl),(1,.kI .i64),(7,.kI .u64),(26,.kB)]),(4,[(0,.kSl),(1,.kI .i64),(7,.kI .u64)])]⟩
theorem F148.of (x0A:Option Addr) (x0n x0c:Nat) (x1:Int) (w:World) {Q:QT} (h:F148.vc x0A x0n x0c x1 w Q):Calls Tryz.prog 148 #[VS x0A x0n x0c,VI .i64 x1] w (fun e w'=>∃ v,e=.returned v/\Q v w'):=vcFn_of (A:=F148.an) noCount mixed h (by kernel_rfl)
def F149.vc (x0:Int) (w:World) (Q:QT):Prop :=
 vIf (decide (x0 >= 0))
 (Q (VB (decide (x0<=1048576))) w)
 (Q (VB false) w)
def F149.an:Ann:=⟨[],[]⟩
theorem F149.of (x0:Int) (w:World) {Q:QT} (h:F149.vc x0 w Q):Calls Tryz.prog 149 #[VI .i64 x0] w (fun e w'=>∃ v,e=.returned v/\Q v w'):=vcFn_of (A:=F149.an) noCount mixed h (by kernel_rfl)
def F150.b4c (Q:QT) (C4:(ByteArray×Int×Int×Unit)->WT) (x0:ByteArray) (x19:Int) (x20:Int) (w:World):Prop :=
 vIf (decide (x20 < x19))
 (gd (decide (0<=x20)) <|
 gd (decide (x20 < (x0.size:Int))) <|
 Calls Tryz.prog 178 #[VI .u8 (byteAt x0 (x20).toNat)] w fun e5 w4 =>
 ∃ t6:Bool,e5=.returned (VB t6)/\(
 vIf (!t6)
 (vIf ((byteAt x0 (x20).toNat) != 46)
 (vIf ((byteAt x0 (x20).toNat) != 95)
 (vIf ((byteAt x0 (x20).toNat) != 45)
 (Q (VB false) w4)
 (jnC C4 (x0,x19,((WR .i64 (x20+1))),()) w4))
 (jnC C4 (x0,x19,((WR .i64 (x20+1))),()) w4))
 (jnC C4 (x0,x19,((WR .i64 (x20+1))),()) w4))
 (jnC C4 (x0,x19,((WR .i64 (x20+1))),()) w4)))
 (Q (VB true) w)
def F150.b4 (Q:QT):(ByteArray×Int×Int×Unit)->World->((ByteArray×Int×Int×Unit)->WT)->Prop:=fun s w C4=>∀ _:Nat->Value,F150.b4c Q C4 s.1 s.2.1 s.2.2.1 w
def F150.l4 (Q:QT):(ByteArray×Int×Int×Unit)->WT:=fun s w=>∃ n,loopC (F150.b4 Q) n s w
def F150.k3c (Q:QT) (x0:ByteArray) (w:World):Prop :=
 jnC (F150.l4 Q) (x0,((x0.size:Int)),(0),()) w
def F150.k3 (Q:QT):(ByteArray×Unit)->WT:=fun s w=>∀ _:Nat->Value,F150.k3c Q s.1 w
def F150.vc (x0:ByteArray) (w:World) (Q:QT):Prop :=
 vIf (x0.toList == (⟨#[]⟩:ByteArray).toList)
 (Q (VB false) w)
 (vIf (decide ((x0.size:Int) > 32))
 (Q (VB false) w)
 (gd (decide ((0:Int) < (x0.size:Int))) <|
 Calls Tryz.prog 178 #[VI .u8 (byteAt x0 0)] w fun e2 w1 =>
 ∃ t3:Bool,e2=.returned (VB t3)/\(
 vIf (!t3)
 (Q (VB false) w1)
 (jnC (F150.k3 Q) (x0,()) w1))))
def F150.an:Ann:=⟨[(4,[(0,.kS),(19,.kI .i64),(20,.kI .i64)])],[(3,[(0,.kS)])]⟩
theorem F150.of (x0:ByteArray) (w:World) {Q:QT} (h:F150.vc x0 w Q):Calls Tryz.prog 150 #[VG x0] w (fun e w'=>∃ v,e=.returned v/\Q v w'):=vcFn_of (A:=F150.an) noCount mixed h (by kernel_rfl)
def F151.k3c (Q:QT) (x0:ST) (x1:Int) (x4:NT) (w:World):Prop :=
 gd (decide (0<=x1)) <|
 gd (decide (x1<=(x0.2.1:Int))) <|
 Calls Tryz.prog 179 #[VS (slA x0.1 x0.2.2 (x1).toNat 1) (x0.2.1 - (x1).toNat) (x0.2.2 - (x1).toNat)] w fun e6 w5 =>
 ∃ a7:List Value,∃ i8:Int,e6=.returned (VT #[ofL a7,VI .i64 i8])/\(
 nw w5 Z265 265 fun b9 w10 =>
 gd (a7.length == 5) <|
 st w10 b9 0 a7 fun w11 =>
 vIf (i8 != 0)
 (gd (([VI .i64 0] ++ ([VI .u64 0] ++ ([VS none 0 0] ++ ([VI .i64 0] ++ [])))).length == 4) <|
 st w11 x4.1 x4.2 ([VI .i64 0] ++ ([VI .u64 0] ++ ([VS none 0 0] ++ ([VI .i64 0] ++ [])))) fun w12 =>
 ldA 4 w12 x4.1 x4.2 fun a13 =>
 Q (VT #[ofL a13,VI .i64 i8]) w12)
 (ldI .i64 w11 b9 (0+4) fun i14 =>
 Calls Tryz.prog 180 #[VI .i64 i14] w11 fun e16 w15 =>
 ∃ i17:Int,e16=.returned (VI .i64 i17)/\(
 vIf (decide ((((x0.2.1 - (x1).toNat):Nat):Int) < i17))
 (gd (([VI .i64 0] ++ ([VI .u64 0] ++ ([VS none 0 0] ++ ([VI .i64 0] ++ [])))).length == 4) <|
 st w15 x4.1 x4.2 ([VI .i64 0] ++ ([VI .u64 0] ++ ([VS none 0 0] ++ ([VI .i64 0] ++ [])))) fun w18 =>
 ldA 4 w18 x4.1 x4.2 fun a19 =>
 Q (VT #[ofL a19,VI .i64 4]) w18)
 (ldI .i64 w15 b9 (0+4) fun i20 =>
 Calls Tryz.prog 180 #[VI .i64 i20] w15 fun e22 w21 =>
 ∃ i23:Int,e22=.returned (VI .i64 i23)/\(
 gd (decide (0<=i23)) <|
 gd (decide (i23<=(((x0.2.2 - (x1).toNat):Nat):Int))) <|
 Calls Tryz.prog 181 #[VS (slA (slA x0.1 x0.2.2 (x1).toNat 1) (x0.2.2 - (x1).toNat) 0 1) (i23).toNat (x0.2.2 - (x1).toNat)] w21 fun e25 w24 =>
 ∃ t26:Bool,e25=.returned (VB t26)/\(
 vIf (!t26)
 (gd (([VI .i64 0] ++ ([VI .u64 0] ++ ([VS none 0 0] ++ ([VI .i64 0] ++ [])))).length == 4) <|
 st w24 x4.1 x4.2 ([VI .i64 0] ++ ([VI .u64 0] ++ ([VS none 0 0] ++ ([VI .i64 0] ++ [])))) fun w27 =>
 ldA 4 w27 x4.1 x4.2 fun a28 =>
 Q (VT #[ofL a28,VI .i64 5]) w27)
 (ldI .i64 w24 b9 (0+4) fun i29 =>
 gd (decide (0<=(WR .i64 (17+i29)))) <|
 gd (decide ((WR .i64 (17+i29))<=(((x0.2.2 - (x1).toNat):Nat):Int))) <|
 gd (decide ((17:Int)<=((((WR .i64 (17+i29))).toNat:Nat):Int))) <|
 Calls Tryz.prog 89 #[VS (slA (slA (slA x0.1 x0.2.2 (x1).toNat 1) (x0.2.2 - (x1).toNat) 0 1) (x0.2.2 - (x1).toNat) 17 1) (((WR .i64 (17+i29))).toNat - 17) ((x0.2.2 - (x1).toNat) - 17)] w24 fun e31 w30 =>
 ∃ (A32:Option Addr) (n33 c34:Nat),e31=.returned (VS A32 n33 c34)/\(
 st w30 b9 (0+2) [VS A32 n33 c34] fun w35 =>
 st w35 b9 (0+3) [VI .i64 (WR .i64 (x1+(((i23).toNat:Nat):Int)))] fun w36 =>
 ldA 4 w36 b9 0 fun a37 =>
 gd (a37.length == 4) <|
 st w36 x4.1 x4.2 a37 fun w38 =>
 ldA 4 w38 x4.1 x4.2 fun a39 =>
 Q (VT #[ofL a39,VI .i64 0]) w38))))))))
def F151.k3 (Q:QT):(ST×Int×NT×Unit)->WT:=fun s w=>∀ _:Nat->Value,F151.k3c Q s.1 s.2.1 s.2.2.1 w
def F151.k2c (Q:QT) (x0:ST) (x1:Int) (x4:NT) (x15:Bool) (w:World):Prop :=
 vIf x15
 (gd (([VI .i64 0] ++ ([VI .u64 0] ++ ([VS none 0 0] ++ ([VI .i64 0] ++ [])))).length == 4) <|
 st w x4.1 x4.2 ([VI .i64 0] ++ ([VI .u64 0] ++ ([VS none 0 0] ++ ([VI .i64 0] ++ [])))) fun w3 =>
 ldA 4 w3 x4.1 x4.2 fun a4 =>
 Q (VT #[ofL a4,VI .i64 2]) w3)
 (jnC (F151.k3 Q) ((x0.1,x0.2.1,x0.2.2),x1,(x4.1,x4.2),()) w)
def F151.k2 (Q:QT):(ST×Int×NT×Bool×Unit)->WT:=fun s w=>∀ _:Nat->Value,F151.k2c Q s.1 s.2.1 s.2.2.1 s.2.2.2.1 w
def F151.vc (x0A:Option Addr) (x0n x0c:Nat) (x1:Int) (w:World) (Q:QT):Prop :=
 nw w Z233 233 fun b1 w2 =>
 vIf (decide (x1 < 0))
 (jnC (F151.k2 Q) ((x0A,x0n,x0c),x1,(b1,0),true,()) w2)
 (jnC (F151.k2 Q) ((x0A,x0n,x0c),x1,(b1,0),(decide (x1 > (x0n:Int))),()) w2)
def F151.an:Ann:=⟨[],[(2,[(0,.kSl),(1,.kI .i64),(4,.kL),(15,.kB)]),(3,[(0,.kSl),(1,.kI .i64),(4,.kL)])]⟩
theorem F151.of (x0A:Option Addr) (x0n x0c:Nat) (x1:Int) (w:World) {Q:QT} (h:F151.vc x0A x0n x0c x1 w Q):Calls Tryz.prog 151 #[VS x0A x0n x0c,VI .i64 x1] w (fun e w'=>∃ v,e=.returned v/\Q v w'):=vcFn_of (A:=F151.an) noCount mixed h (by kernel_rfl)
def F152.k14c (Q:QT) (x1:ST) (x2:NT) (x4:NT) (w:World):Prop :=
 cpy w 1 (some ⟨x2.1,(x2.2+2),none⟩) 32 (VS x1.1 x1.2.1 x1.2.2) fun n19 w20 =>
 ldA 38 w20 x2.1 x2.2 fun a21 =>
 gd (a21.length == 38) <|
 st w20 x4.1 x4.2 a21 fun w22 =>
 ldA 38 w22 x4.1 x4.2 fun a23 =>
 Q (VT #[ofL a23,VB ((x1.2.1:Int) == 32)]) w22
def F152.k14 (Q:QT):(ST×NT×NT×Unit)->WT:=fun s w=>∀ _:Nat->Value,F152.k14c Q s.1 s.2.1 s.2.2.1 w
def F152.k8c (Q:QT) (x1:ST) (x2:NT) (x4:NT) (w:World):Prop :=
 Calls Tryz.prog 148 #[VS x1.1 x1.2.1 x1.2.2,VI .i64 0] w fun e7 w6 =>
 ∃ s8:ByteArray,∃ i9:Int,∃ t10:Bool,e7=.returned (VT #[VG s8,VI .i64 i9,VB t10])/\(
 vIf (!t10)
 (ldA 38 w6 x2.1 x2.2 fun a11 =>
 gd (a11.length == 38) <|
 st w6 x4.1 x4.2 a11 fun w12 =>
 ldA 38 w12 x4.1 x4.2 fun a13 =>
 Q (VT #[ofL a13,VB false]) w12)
 (gd (decide (0<=i9)) <|
 gd (decide (i9<=(x1.2.1:Int))) <|
 st w6.drew x2.1 (x2.2+34) [VG s8] fun w14 =>
 ldI .i64 w14 x2.1 x2.2 fun i15 =>
 vIf (i15 == 4)
 (ldA 38 w14 x2.1 x2.2 fun a16 =>
 gd (a16.length == 38) <|
 st w14 x4.1 x4.2 a16 fun w17 =>
 ldA 38 w17 x4.1 x4.2 fun a18 =>
 Q (VT #[ofL a18,VB ((((x1.2.1 - (i9).toNat):Nat):Int) == 0)]) w17)
 (jnC (F152.k14 Q) (((slA x1.1 x1.2.2 (i9).toNat 1),(x1.2.1 - (i9).toNat),(x1.2.2 - (i9).toNat)),(x2.1,x2.2),(x4.1,x4.2),()) w14)))
def F152.k8 (Q:QT):(ST×NT×NT×Unit)->WT:=fun s w=>∀ _:Nat->Value,F152.k8c Q s.1 s.2.1 s.2.2.1 w
def F152.k16c (Q:QT) (x1:ST) (x2:NT) (x4:NT) (w:World):Prop :=
 cpy w 1 (some ⟨x2.1,(x2.2+2),none⟩) 32 (VS x1.1 x1.2.1 x1.2.2) fun n24 w25 =>
 gd (decide (0<=(n24:Int))) <|
 gd (decide ((n24:Int)<=(x1.2.1:Int))) <|
 Calls Tryz.prog 89 #[VS (slA x1.1 x1.2.2 ((n24:Int)).toNat 1) (x1.2.1 - ((n24:Int)).toNat) (x1.2.2 - ((n24:Int)).toNat)] w25 fun e27 w26 =>
 ∃ (A28:Option Addr) (n29 c30:Nat),e27=.returned (VS A28 n29 c30)/\(
 st w26 x2.1 (x2.2+35) [VS A28 n29 c30] fun w31 =>
 ldA 38 w31 x2.1 x2.2 fun a32 =>
 gd (a32.length == 38) <|
 st w31 x4.1 x4.2 a32 fun w33 =>
 ldA 38 w33 x4.1 x4.2 fun a34 =>
 Q (VT #[ofL a34,VB ((n24:Int) == 32)]) w33)
def F152.k16 (Q:QT):(ST×NT×NT×Unit)->WT:=fun s w=>∀ _:Nat->Value,F152.k16c Q s.1 s.2.1 s.2.2.1 w
def F152.k21c (Q:QT) (x1:ST) (x2:NT) (x4:NT) (w:World):Prop :=
 Calls Tryz.prog 182 #[VS x1.1 x1.2.1 x1.2.2,VI .i64 8,VI .i64 8] w fun e39 w38 =>
 ∃ i40:Int,e39=.returned (VI .i64 i40)/\(
 st w38 x2.1 (x2.2+36) [VI .i64 i40] fun w41 =>
 ldA 38 w41 x2.1 x2.2 fun a42 =>
 gd (a42.length == 38) <|
 st w41 x4.1 x4.2 a42 fun w43 =>
 ldA 38 w43 x4.1 x4.2 fun a44 =>
 Q (VT #[ofL a44,VB true]) w43)
def F152.k21 (Q:QT):(ST×NT×NT×Unit)->WT:=fun s w=>∀ _:Nat->Value,F152.k21c Q s.1 s.2.1 s.2.2.1 w
def F152.k20c (Q:QT) (x1:ST) (x2:NT) (x4:NT) (x71:Bool) (w:World):Prop :=
 vIf x71
 (ldA 38 w x2.1 x2.2 fun a35 =>
 gd (a35.length == 38) <|
 st w x4.1 x4.2 a35 fun w36 =>
 ldA 38 w36 x4.1 x4.2 fun a37 =>
 Q (VT #[ofL a37,VB false]) w36)
 (jnC (F152.k21 Q) ((x1.1,x1.2.1,x1.2.2),(x2.1,x2.2),(x4.1,x4.2),()) w)
def F152.k20 (Q:QT):(ST×NT×NT×Bool×Unit)->WT:=fun s w=>∀ _:Nat->Value,F152.k20c Q s.1 s.2.1 s.2.2.1 s.2.2.2.1 w
def F152.k19c (Q:QT) (x1:ST) (x2:NT) (x4:NT) (w:World):Prop :=
 vIf ((x1.2.1:Int) != 16)
 (jnC (F152.k20 Q) ((x1.1,x1.2.1,x1.2.2),(x2.1,x2.2),(x4.1,x4.2),true,()) w)
 (gd (decide ((8:Int)<=(x1.2.2:Int))) <|
 b2s w (slA x1.1 x1.2.2 0 1) 8 fun s45 =>
 jnC (F152.k20 Q) ((x1.1,x1.2.1,x1.2.2),(x2.1,x2.2),(x4.1,x4.2),(!(s45.toList == (⟨#[115,116,105,108,108,97,103,101]⟩:ByteArray).toList)),()) w)
def F152.k19 (Q:QT):(ST×NT×NT×Unit)->WT:=fun s w=>∀ _:Nat->Value,F152.k19c Q s.1 s.2.1 s.2.2.1 w
def F152.k23c (Q:QT) (x1:ST) (x2:NT) (x4:NT) (w:World):Prop :=
 Calls Tryz.prog 182 #[VS x1.1 x1.2.1 x1.2.2,VI .i64 0,VI .i64 4] w fun e47 w46 =>
 ∃ i48:Int,e47=.returned (VI .i64 i48)/\(
 Calls Tryz.prog 182 #[VS x1.1 x1.2.1 x1.2.2,VI .i64 4,VI .i64 4] w46 fun e50 w49 =>
 ∃ i51:Int,e50=.returned (VI .i64 i51)/\(
 st w49 x2.1 (x2.2+36) [VI .i64 i48] fun w52 =>
 st w52 x2.1 (x2.2+37) [VI .i64 i51] fun w53 =>
 ldA 38 w53 x2.1 x2.2 fun a54 =>
 gd (a54.length == 38) <|
 st w53 x4.1 x4.2 a54 fun w55 =>
 ldA 38 w55 x4.1 x4.2 fun a56 =>
 Q (VT #[ofL a56,VB ((x1.2.1:Int) == 8)]) w55))
def F152.k23 (Q:QT):(ST×NT×NT×Unit)->WT:=fun s w=>∀ _:Nat->Value,F152.k23c Q s.1 s.2.1 s.2.2.1 w
def F152.k4c (Q:QT) (x1:ST) (x2:NT) (x4:NT) (x11:Int) (w:World):Prop :=
 vIf (x11 == 5)
 (jnC (F152.k14 Q) ((x1.1,x1.2.1,x1.2.2),(x2.1,x2.2),(x4.1,x4.2),()) w)
 (vIf (x11 == 1)
 (vIf (x11 == 1)
 (jnC (F152.k16 Q) ((x1.1,x1.2.1,x1.2.2),(x2.1,x2.2),(x4.1,x4.2),()) w)
 (vIf (x11 == 7)
 (jnC (F152.k19 Q) ((x1.1,x1.2.1,x1.2.2),(x2.1,x2.2),(x4.1,x4.2),()) w)
 (jnC (F152.k23 Q) ((x1.1,x1.2.1,x1.2.2),(x2.1,x2.2),(x4.1,x4.2),()) w)))
 (vIf (x11 == 2)
 (jnC (F152.k16 Q) ((x1.1,x1.2.1,x1.2.2),(x2.1,x2.2),(x4.1,x4.2),()) w)
 (vIf (x11 == 7)
 (jnC (F152.k19 Q) ((x1.1,x1.2.1,x1.2.2),(x2.1,x2.2),(x4.1,x4.2),()) w)
 (jnC (F152.k23 Q) ((x1.1,x1.2.1,x1.2.2),(x2.1,x2.2),(x4.1,x4.2),()) w))))
def F152.k4 (Q:QT):(ST×NT×NT×Int×Unit)->WT:=fun s w=>∀ _:Nat->Value,F152.k4c Q s.1 s.2.1 s.2.2.1 s.2.2.2.1 w
def F152.vc (x0:List Value) (x1A:Option Addr) (x1n x1c:Nat) (w:World) (Q:QT):Prop :=
 nw w x0 92 fun b1 w2 =>
 nw w2 Z92 92 fun b3 w4 =>
 ldI .i64 w4 b1 0 fun i5 =>
 vIf (i5 == 3)
 (vIf (i5 == 3)
 (jnC (F152.k8 Q) ((x1A,x1n,x1c),(b1,0),(b3,0),()) w4)
 (jnC (F152.k4 Q) ((x1A,x1n,x1c),(b1,0),(b3,0),i5,()) w4))
 (vIf (i5 == 4)
 (jnC (F152.k8 Q) ((x1A,x1n,x1c),(b1,0),(b3,0),()) w4)
 (jnC (F152.k4 Q) ((x1A,x1n,x1c),(b1,0),(b3,0),i5,()) w4))
def F152.an:Ann:=⟨[],[(4,[(1,.kSl),(2,.kL),(4,.kL),(11,.kI .i64)]),(8,[(1,.kSl),(2,.kL),(4,.kL)]),(14,[(1,.kSl),(2,.kL),(4,.kL)]),(16,[(1,.kSl),(2,.kL),(4,.kL)]),(19,[(1,.kSl),(2,.kL),(4,.kL)]),(20,[(1,.kSl),(2,.kL),(4,.kL),(71,.kB)]),(21,[(1,.kSl),(2,.kL),(4,.kL)]),(23,[(1,.kSl),(2,.kL),(4,.kL)])]⟩
theorem F152.of (x0:List Value) (x1A:Option Addr) (x1n x1c:Nat) (w:World) {Q:QT} (h:F152.vc x0 x1A x1n x1c w Q):Calls Tryz.prog 152 #[ofL x0,VS x1A x1n x1c] w (fun e w'=>∃ v,e=.returned v/\Q v w'):=vcFn_of (A:=F152.an) noCount mixed h (by kernel_rfl)
def F153.k14c (Q:QT) (x1:NT) (x3:Int) (x5:Int) (x20:Bool) (w:World):Prop :=
 vIf x20
 (ldI .i64 w x1.1 (x1.2+36) fun i11 =>
 vIf (decide (i11 < 0))
 (Q (VI .i64 20) w)
 (ldI .i64 w x1.1 (x1.2+36) fun i12 =>
 vIf (decide (i12 > x3))
 (Q (VI .i64 20) w)
 (ldI .i64 w x1.1 (x1.2+37) fun i13 =>
 vIf (decide (i13 < 0))
 (Q (VI .i64 20) w)
 (ldI .i64 w x1.1 (x1.2+37) fun i14 =>
 vIf (decide (i14 > x3))
 (Q (VI .i64 20) w)
 (Q (VI .i64 0) w)))))
 (vIf (x5 == 7)
 (ldI .i64 w x1.1 (x1.2+36) fun i15 =>
 vIf (decide (i15 < 1))
 (Q (VI .i64 20) w)
 (ldI .i64 w x1.1 (x1.2+36) fun i16 =>
 vIf (decide (i16 > 99999999))
 (Q (VI .i64 20) w)
 (Q (VI .i64 0) w)))
 (vIf (x5 == 5)
 (Q (VI .i64 0) w)
 (Q (VI .i64 2) w)))
def F153.k14 (Q:QT):(NT×Int×Int×Bool×Unit)->WT:=fun s w=>∀ _:Nat->Value,F153.k14c Q s.1 s.2.1 s.2.2.1 s.2.2.2.1 w
def F153.k10c (Q:QT) (x1:NT) (x3:Int) (x5:Int) (x13:Bool) (w:World):Prop :=
 vIf x13
 (ldS w x1.1 (x1.2+34) fun s7 =>
 Calls Tryz.prog 150 #[VG s7] w fun e9 w8 =>
 ∃ t10:Bool,e9=.returned (VB t10)/\(
 vIf (!t10)
 (Q (VI .i64 12) w8)
 (Q (VI .i64 0) w8)))
 (vIf (x5 == 6)
 (jnC (F153.k14 Q) ((x1.1,x1.2),x3,x5,(x5 == 6),()) w)
 (jnC (F153.k14 Q) ((x1.1,x1.2),x3,x5,(x5 == 8),()) w))
def F153.k10 (Q:QT):(NT×Int×Int×Bool×Unit)->WT:=fun s w=>∀ _:Nat->Value,F153.k10c Q s.1 s.2.1 s.2.2.1 s.2.2.2.1 w
def F153.k6c (Q:QT) (x1:NT) (x3:Int) (x5:Int) (x6:Bool) (w:World):Prop :=
 vIf x6
 (ldSl w x1.1 (x1.2+35) fun A4 n5 c6 =>
 vIf (decide ((n5:Int) > 65504))
 (Q (VI .i64 18) w)
 (Q (VI .i64 0) w))
 (vIf (x5 == 3)
 (jnC (F153.k10 Q) ((x1.1,x1.2),x3,x5,(x5 == 3),()) w)
 (jnC (F153.k10 Q) ((x1.1,x1.2),x3,x5,(x5 == 4),()) w))
def F153.k6 (Q:QT):(NT×Int×Int×Bool×Unit)->WT:=fun s w=>∀ _:Nat->Value,F153.k6c Q s.1 s.2.1 s.2.2.1 s.2.2.2.1 w
def F153.vc (x0:List Value) (w:World) (Q:QT):Prop :=
 nw w x0 92 fun b1 w2 =>
 ldI .i64 w2 b1 0 fun i3 =>
 vIf (i3 == 1)
 (jnC (F153.k6 Q) ((b1,0),(4294967295),i3,(i3 == 1),()) w2)
 (jnC (F153.k6 Q) ((b1,0),(4294967295),i3,(i3 == 2),()) w2)
def F153.an:Ann:=⟨[],[(6,[(1,.kL),(3,.kI .i64),(5,.kI .i64),(6,.kB)]),(10,[(1,.kL),(3,.kI .i64),(5,.kI .i64),(13,.kB)]),(14,[(1,.kL),(3,.kI .i64),(5,.kI .i64),(20,.kB)])]⟩
theorem F153.of (x0:List Value) (w:World) {Q:QT} (h:F153.vc x0 w Q):Calls Tryz.prog 153 #[ofL x0] w (fun e w'=>∃ v,e=.returned v/\Q v w'):=vcFn_of (A:=F153.an) noCount mixed h (by kernel_rfl)
end Go.Proofs.YthcdionpeoobbaaGreatDoor
