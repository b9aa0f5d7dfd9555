import Derived.WalkKit
import Derived.StillTail
import Derived.LoopN
import Derived.Stop.BytesEq
import Derived.MapKept
import Derived.Laws.Externs
import Derived.OrdersHeld
import Derived.RangeFuncSeq
import Derived.RangeFuncIn
import Derived.RowKit
import Derived.ProofKit
import Derived.OpenShut
import Derived.OpenVars
import Derived.JoinedCond
import Derived.Lib.Bytealg
import Derived.Lib.Overlaps
import Derived.Test.YtkfanhdicnjdlaaGreatDoorProg
set_option linter.unusedVariables false
set_option linter.unusedSimpArgs false
namespace Go.GV
open Go
def nthV:List Value->Nat->Value
 | [],_=>undef
 | v :: _,0=>v
 | _ :: r,n+1=>nthV r n
def putV:List Value->Nat->Value->List Value
 | [],_,_=>[]
 | _ :: r,0,v=>v :: r
 | x :: r,n+1,v=>x :: putV r n v
def putO (t:List Value) (dst:Option Tmp) (v:Value):List Value :=
 match dst with
 | some d=>putV t d v
 | none=>t
def ev (t:List Value):Operand->Value
 | .tmp i=>nthV t i
 | .const v=>v
 | .global g=>.pointer (some ⟨g,0,none⟩)
 | .func f=>.func (.func f) #[] #[]
def actOf (t:List Value):Act:=⟨t.toArray,[]⟩
theorem nthV_eq:∀ (t:List Value) (i:Nat),nthV t i=t.toArray.getD i undef
 | [],i=>by simp [nthV]
 | v :: r,0=>by simp [nthV]
 | v :: r,n+1=>by rw [nthV,nthV_eq r n]; simp [Array.getD_eq_getD_getElem?]
theorem putV_eq:∀ (t:List Value) (i:Nat) (v:Value),(putV t i v)=t.set i v
 | [],i,v=>by simp [putV]
 | x :: r,0,v=>by simp [putV]
 | x :: r,n+1,v=>by simp [putV,putV_eq r n v]
theorem putV_length (t:List Value) (i:Nat) (v:Value):(putV t i v).length=t.length:=by simp [putV_eq]
theorem putO_length (t:List Value) (d:Option Tmp) (v:Value):(putO t d v).length=t.length:=by cases d <;> simp [putO,putV_length]
theorem ev_eq (t:List Value):(actOf t).eval=ev t:=by
 funext x; cases x <;> simp [Act.eval,ev,actOf,nthV_eq]
theorem put_eq (t:List Value) (d:Option Tmp) (v:Value):(actOf t).put d v=actOf (putO t d v):=by
 cases d <;> simp [Act.put,putO,actOf,putV_eq]
def szOf (P:Program) (t:TypeId):Nat :=
 match P.info? t with
 | some i=>i.size
 | none=>0
def byOf (P:Program) (t:TypeId):Nat :=
 match P.info? t with
 | some i=>i.bytes
 | none=>0
def cellAt (w:World) (b o:Nat):Option Value:=w.cell? ⟨b,o,none⟩
def cellsAt (w:World) (b o:Nat) (cs:List Value):Prop:=∀ j v,cs[j]?=some v->cellAt w b (o+j)=some v
def ldI (k:IntKind) (w:World) (b o:Nat) (K:Int->Prop):Prop:=∃ x,cellAt w b o=some (.int k x)/\K x
def ldB (w:World) (b o:Nat) (K:Bool->Prop):Prop:=∃ x,cellAt w b o=some (.bool x)/\K x
def ldS (w:World) (b o:Nat) (K:ByteArray->Prop):Prop:=∃ x,cellAt w b o=some (.string x)/\K x
def ldP (w:World) (b o:Nat) (K:Option Addr->Prop):Prop:=∃ x,cellAt w b o=some (.pointer x)/\K x
def ldSl (w:World) (b o:Nat) (K:Option Addr->Nat->Nat->Prop):Prop:=∃ A n c,cellAt w b o=some (.slice A n c)/\K A n c
def ldM (w:World) (b o:Nat) (K:Option Nat->Prop):Prop:=∃ r,cellAt w b o=some (.map r)/\K r
def ldV (w:World) (b o:Nat) (K:Value->Prop):Prop:=∃ v,cellAt w b o=some v/\K v
def ldA (n:Nat) (w:World) (b o:Nat) (K:List Value->Prop):Prop:=∃ cs:List Value,cs.length=n/\cellsAt w b o cs/\K cs
def splice (c:List Value) (o:Nat) (vs:List Value):List Value:=c.take o ++ vs ++ c.drop (o+vs.length)
def stB (w:World) (b o:Nat) (vs:List Value):World :=
 { w with heap:=w.heap.modify b fun
   | .cells c e f=>.cells (splice c.toList o vs).toArray e f
   | x=>x }
def st (w:World) (b o:Nat) (vs:List Value) (K:World->Prop):Prop :=
 (∃ c e lo hi,w.heap[b]?=some (.cells c e (lo,hi))/\o+vs.length<=c.size/\(hi<=o\/o+vs.length<=lo))/\(∀ v ∈ vs,v.oneCell'=true)/\K (stB w b o vs)
def nw (w:World) (cs:List Value) (e:TypeId) (K:Nat->World->Prop):Prop:=K w.heap.size (w.alloc (.cells cs.toArray e))
def dr (q:Option Addr) (K:Nat->Nat->Prop):Prop :=
 match q with
 | some a=>(match a.spot with | none=>K a.block a.off | some _=>False)
 | none=>False
def vIf (b:Bool) (A B:Prop):Prop :=
 match b with
 | true=>A
 | false=>B
theorem stB_heap {w:World} {b o:Nat} {vs:List Value} {c:Array Value} {e:TypeId} {f:Nat×Nat} (h:w.heap[b]?=some (.cells c e f)) :
  (stB w b o vs).heap[b]?=some (.cells (splice c.toList o vs).toArray e f):=by
 unfold stB
 simp only [Array.getElem?_modify,if_true,h]
 rfl
theorem stB_other {w:World} {b o:Nat} {vs:List Value} {k:Nat} (h:k ≠ b):(stB w b o vs).heap[k]?=w.heap[k]?:=by
 unfold stB
 simp only [Array.getElem?_modify]
 rw [if_neg (fun e=>h e.symm)]
theorem stB_size (w:World) (b o:Nat) (vs:List Value):(stB w b o vs).heap.size=w.heap.size:=by simp [stB]
theorem stB_cons {w:World} {b o:Nat} {v:Value} {vs:List Value} {c:Array Value} {e:TypeId} {f:Nat×Nat} (h:w.heap[b]?=some (.cells c e f)) (hl:o+(v :: vs).length<=c.size) :
  stB (w.setCell ⟨b,o,none⟩ v) b (o+1) vs=stB w b o (v :: vs):=by
 unfold stB World.setCell
 congr 1
 apply Array.ext_getElem?
 intro i
 simp only [Array.getElem?_modify]
 split
 ·rename_i hi; subst hi
  rw [h]
  simp only [Option.map_some,Option.isSome_none,Bool.false_eq_true,if_false]
  simp only [List.length_cons] at hl
  congr 3
  unfold splice
  rw [Array.toList_setIfInBounds,List.set_eq_take_append_cons_drop,if_pos (by simp; omega)]
  have e1:(List.take o c.toList ++ v :: List.drop (o+1) c.toList).take (o+1)=List.take o c.toList ++ [v]:=by
   rw [List.take_append,List.length_take,Nat.min_eq_left (by simp; omega)]
   rw [List.take_of_length_le (by rw [List.length_take]; omega)]
   simp
  have e2:(List.take o c.toList ++ v :: List.drop (o+1) c.toList).drop (o+1+vs.length)=List.drop (o+(vs.length+1)) c.toList:=by
   rw [List.drop_append,List.length_take,Nat.min_eq_left (by simp; omega)]
   rw [List.drop_eq_nil_of_le (by rw [List.length_take]; omega),List.nil_append]
   rw [show o+1+vs.length - o=vs.length+1 by omega,List.drop_succ_cons,List.drop_drop]
   congr 1
   omega
  rw [e1,e2]
  simp [List.length_cons]
 ·rfl
theorem st_run {P:Program} (b o:Nat):∀ (vs:List Value) (i:Nat) (w:World) (c:Array Value) (e:TypeId) (lo hi:Nat),w.heap[b]?=some (.cells c e (lo,hi))->o+i+vs.length<=c.size->(hi<=o+i\/o+i+vs.length<=lo) ->
  (∀ v ∈ vs,v.oneCell'=true)->(storeCells ⟨b,o,none⟩ vs i).run P w=.ok () (stB w b (o+i) vs)
 | [],i,w,c,e,lo,hi,hb,_,_,_=>by
  have:stB w b (o+i) []=w:=by
   unfold stB
   have hm:(w.heap.modify b fun | .cells c e f=>.cells (splice c.toList (o+i) []).toArray e f | x=>x)=w.heap:=by
    apply Array.ext_getElem?
    intro k
    simp only [Array.getElem?_modify]
    split
    ·rename_i hk; subst hk; rw [hb]; simp [splice]
    ·rfl
   rw [hm]
  rw [this]
  simp [storeCells]
 | v :: vs,i,w,c,e,lo,hi,hb,hl,hf,h1=>by
  simp only [List.length_cons] at hl hf
  have hadd:(⟨b,o,none⟩:Addr).add i=⟨b,o+i,none⟩:=by unfold Addr.add; split <;> simp_all
  have hc:w.cell? ⟨b,o+i,none⟩=some (c[o+i]'(by omega)):=by
   simp only [World.cell?,hb]
   simp [show o+i < c.size by omega]
  have hfr:w.frozen? ⟨b,o+i,none⟩=false:=by
   simp only [World.frozen?,hb]
   rcases hf with hf | hf <;> simp <;> omega
  rw [storeCells]
  simp only [Sem.run_bind,hadd,run_store P w _ v _ (h1 v (by simp)),hc,hfr,Bool.false_eq_true,if_false,Result.andThen]
  have hb2:(w.setCell ⟨b,o+i,none⟩ v).heap[b]?=some (.cells (c.setIfInBounds (o+i) v) e (lo,hi)):=by
   simp only [World.setCell,Array.getElem?_modify,if_true,hb]
   rfl
  rw [st_run b o vs (i+1) _ _ e lo hi hb2 (by simp; omega) (by omega) (fun u hu=>h1 u (by simp [hu]))]
  rw [<- Nat.add_assoc,stB_cons hb (by simp; omega)]
def iAnd (k:IntKind) (a b:Int):Int:=k.wrap (BitVec.ofInt k.bits a &&& BitVec.ofInt k.bits b).toNat
def iOr (k:IntKind) (a b:Int):Int:=k.wrap (BitVec.ofInt k.bits a ||| BitVec.ofInt k.bits b).toNat
def iXor (k:IntKind) (a b:Int):Int:=k.wrap (BitVec.ofInt k.bits a ^^^ BitVec.ofInt k.bits b).toNat
def gd (c:Bool) (A:Prop):Prop:=vIf c A False
def bv (b:UInt8):Value:=.int .u8 b.toNat
def eqAB (n:Nat) (xs ys:List Value) (K:Bool->Prop):Prop :=
 ∃ X Y:List UInt8,X.length=n/\Y.length=n/\xs=X.map bv/\ys=Y.map bv/\K (X == Y)
def eqI64 (n:Nat) (xs ys:List Value) (K:Bool->Prop):Prop :=
 ∃ X Y:List Int,X.length=n/\Y.length=n/\xs=X.map (Value.int .i64)/\ys=Y.map (Value.int .i64)/\K (X == Y)
def i64F (P:Program):List Field->Nat->Bool
 | [],_=>true
 | f :: fs, i => (f.name != "_") && ((f.offset == i) && ((match P.underlying f.type with | some (.int _) => true | _ => false) && i64F P fs (i + 1)))
def mxv:ByteArray ⊕ Int->Value
 | .inl s=>.string s
 | .inr i=>.int .i64 i
def mxq:ByteArray ⊕ Int->ByteArray ⊕ Int->Bool
 | .inl a,.inl b=>a == b
 | .inr a,.inr b=>a == b
 | _,_=>false
def mxqL:List (ByteArray ⊕ Int)->List (ByteArray ⊕ Int)->Bool
 | x :: xs,y :: ys=>mxq x y && mxqL xs ys
 | _,_=>true
def mxt:ByteArray ⊕ Int->Bool
 | .inl _=>true
 | .inr _=>false
def eqMx (ts:List Bool) (xs ys:List Value) (K:Bool->Prop):Prop :=
 ∃ X Y:List (ByteArray ⊕ Int),X.map mxt=ts/\Y.map mxt=ts/\xs=X.map mxv/\ys=Y.map mxv/\K (mxqL X Y)
def mxF (P:Program):List Field->Nat->Option (List Bool)
  | [],_=>some []
  | f :: fs, i => if (f.name != "_") && (f.offset == i) then
      (match P.underlying f.type,mxF P fs (i+1) with
       | some (.int _),some ts=>some (false :: ts)
       | some .string,some ts=>some (true :: ts)
       | _,_=>none)
    else none
inductive LK | s | b | y | i (k:IntKind)
def fitV:LK->Value->Bool
 | .s,.string _=>true
 | .b,.bool _=>true
 | .y,.int .u8 n=>decide (0<=n) && decide (n < 256)
 | .i k,.int k' _=>k == k'
 | _,_=>false
def fitL:List LK->List Value->Bool
 | [],[]=>true
 | k :: ks,v :: vs=>fitV k v && fitL ks vs
 | _,_=>false
def eqV:Value->Value->Bool
 | .string a,.string b=>a.toList == b.toList
 | .int _ a,.int _ b=>a == b
 | .bool a,.bool b=>a == b
 | _,_=>false
def eqVL:List Value->List Value->Bool
 | x :: xs,y :: ys=>eqV x y && eqVL xs ys
 | _,_=>true
def eqPl (ks:List LK) (xs ys:List Value) (K:Bool->Prop):Prop:=fitL ks xs=true/\fitL ks ys=true/\K (eqVL xs ys)
def plF (g:TypeId->Option (List LK)):List Field->Nat->Option (List LK)
  | [],_=>some []
  | f :: fs, i => if (f.name != "_") && (f.offset == i) then
      (match g f.type with
       | some ks=>(match plF g fs (i+ks.length) with | some r=>some (ks ++ r) | none=>none)
       | none=>none)
    else none
def pl (P:Program):Nat->TypeId->Option (List LK)
  | 0,_=>none
  | d+1,t =>
    match P.underlying t with
    | some (.int k)=>some [.i k]
    | some .string=>some [.s]
    | some .bool=>some [.b]
    | some (.array n e) =>
      (match P.underlying e with
       | some (.int .u8)=>if (szOf P e == 1) && ((szOf P t == n) && (n != 0)) then some (List.replicate n .y) else none
       | _=>none)
    | some (.struct fs) =>
      if P.stoodInHeld t then none else
      (match plF (pl P d) fs.toList 0 with
       | some ks=>if (szOf P t == ks.length) && (ks.length != 0) then some ks else none
       | none=>none)
    | _=>none
def nilEq (a b:Option Addr) (K:Bool->Prop):Prop :=
 match b with
 | none=>K a.isNone
 | some _=>(match a with | none=>K false | some _=>False)
def vcEq (P:Program) (t:TypeId) (x y:Value) (K:Bool->Prop):Prop :=
 match P.underlying t,x,y with
 | some .bool,.bool a,.bool b=>K (a == b)
 | some (.pointer _),.pointer a,.pointer b=>nilEq a b K
 | some (.slice _),.slice a _ _,.slice b _ _=>nilEq a b K
 | some (.interface _),.iface _ _,.nilIface=>K false
 | some (.array n e),.agg xs,.agg ys =>
  match P.underlying e with
  | some (.int .u8)=>gd (szOf P e == 1) (gd (!P.eqGuardType P.depth t) (eqAB n xs.toList ys.toList K))
  | _=>False
 | some (.struct fs),.agg xs,.agg ys=>gd (!P.stoodInHeld t) (gd (!P.eqGuardType P.depth t) (match i64F P fs.toList 0 with
  | true=>eqI64 fs.size xs.toList ys.toList K
  | false=>(match mxF P fs.toList 0 with
   | some ts=>eqMx ts xs.toList ys.toList K
   | none=>(match pl P 4 t with | some ks=>eqPl ks xs.toList ys.toList K | none=>False))))
 | _,_,_=>False
def vcBin (P:Program) (op:BinOp) (t:TypeId) (x y:Value) (K:Value->Prop):Prop :=
 match op,x,y with
 | .shl,.int k a,.int _ b=>gd (decide (0<=b)) (K (.int k (k.wrap (a * 2 ^ min b.toNat k.bits))))
 | .shr,.int k a,.int _ b=>gd (decide (0<=b)) (K (.int k (a.fdiv (2 ^ min b.toNat k.bits))))
 | .add,.int k a,.int k' b=>gd (k == k') (K (.int k (k.wrap (a+b))))
 | .sub,.int k a,.int k' b=>gd (k == k') (K (.int k (k.wrap (a - b))))
 | .mul,.int k a,.int k' b=>gd (k == k') (K (.int k (k.wrap (a * b))))
 | .quo,.int k a,.int k' b=>gd (k == k') (gd (decide (b ≠ 0)) (K (.int k (k.wrap (a.tdiv b)))))
 | .rem,.int k a,.int k' b=>gd (k == k') (gd (decide (b ≠ 0)) (K (.int k (a.tmod b))))
 | .and,.int k a,.int k' b=>gd (k == k') (K (.int k (k.wrap (BitVec.ofInt k.bits a &&& BitVec.ofInt k.bits b).toNat)))
 | .or,.int k a,.int k' b=>gd (k == k') (K (.int k (k.wrap (BitVec.ofInt k.bits a ||| BitVec.ofInt k.bits b).toNat)))
 | .xor,.int k a,.int k' b=>gd (k == k') (K (.int k (k.wrap (BitVec.ofInt k.bits a ^^^ BitVec.ofInt k.bits b).toNat)))
 | .eql,.int k a,.int k' b=>gd (k == k') (K (.bool (a == b)))
 | .neq,.int k a,.int k' b=>gd (k == k') (K (.bool (a != b)))
 | .lss,.int k a,.int k' b=>gd (k == k') (K (.bool (decide (a < b))))
 | .leq,.int k a,.int k' b=>gd (k == k') (K (.bool (decide (a<=b))))
 | .gtr,.int k a,.int k' b=>gd (k == k') (K (.bool (decide (a > b))))
 | .geq,.int k a,.int k' b=>gd (k == k') (K (.bool (decide (a >= b))))
 | .add,.string a,.string b=>gd (decide (a.size+b.size<=9223372036854775807)) (K (.string (a ++ b)))
 | .eql,.string a,.string b=>K (.bool (a.toList == b.toList))
 | .neq,.string a,.string b=>K (.bool !(a.toList == b.toList))
 | .lss,.string a,.string b=>K (.bool (Op.bytesLess a.toList b.toList))
 | .leq,.string a,.string b=>K (.bool (Op.bytesLess a.toList b.toList || a.toList == b.toList))
 | .gtr,.string a,.string b=>K (.bool !(Op.bytesLess a.toList b.toList || a.toList == b.toList))
 | .geq,.string a,.string b=>K (.bool !Op.bytesLess a.toList b.toList)
 | .eql,x,y=>vcEq P t x y (fun b=>K (.bool b))
 | .neq,x,y=>vcEq P t x y (fun b=>K (.bool !b))
 | _,_,_=>False
theorem gd_iff {c:Bool} {A:Prop}:gd c A ↔ c=true/\A:=by cases c <;> simp [gd,vIf]
theorem vIf_iff {b:Bool} {A B:Prop}:vIf b A B ↔ (b=true->A)/\(b=false->B):=by cases b <;> simp [vIf]
section
variable {P:Program} {w:World}
theorem szOf_run {t:TypeId} {n:Nat} (hn:n ≠ 0) (h:szOf P t=n):(sizeOf t).run P w=.ok n w:=by
 unfold szOf at h
 unfold sizeOf typeInfo
 cases hi:P.info? t with
 | none=>rw [hi] at h; exact absurd h.symm hn
 | some i =>
  rw [hi] at h
  simp only [Sem.run_bind,program,Sem.run,Result.andThen,hi]
  simp [pure]
  exact h
theorem part_int {t:TypeId} {k:IntKind} (hu:P.underlying t=some (.int k)) {cs:List Value} {o:Nat} {v:Value} (h:cs[o]?=some v):(part t cs.toArray o).run P w=.ok v w:=by
 unfold part
 simp [isAgg,Sem.run_bind,run_underlying hu,Result.andThen,h]
theorem eqFields_run (d:Nat):∀ (fs:List Field) (i:Nat) (X Y:List Int),i64F P fs i=true->X.length=i+fs.length->Y.length=i+fs.length ->
  (Op.eqFields (d+1) (X.map (Value.int .i64)).toArray (Y.map (Value.int .i64)).toArray fs).run P w=.ok (X.drop i == Y.drop i) w
 | [],i,X,Y,_,hX,hY=>by
  rw [List.drop_of_length_le (by simp at hX; omega),List.drop_of_length_le (by simp at hY; omega)]
  simp [Op.eqFields]
 | f :: fs,i,X,Y,h,hX,hY=>by
  simp only [List.length_cons] at hX hY
  unfold i64F at h
  simp only [Bool.and_eq_true,bne_iff_ne,ne_eq,beq_iff_eq] at h
  obtain ⟨h1,h2,h3,h4⟩:=h
  have hx:X[i]?=some (X[i]'(by omega)):=List.getElem?_eq_getElem (by omega)
  have hy:Y[i]?=some (Y[i]'(by omega)):=List.getElem?_eq_getElem (by omega)
  have ex:X.drop i=X[i]'(by omega) :: X.drop (i+1):=List.drop_eq_getElem_cons (by omega)
  have ey:Y.drop i=Y[i]'(by omega) :: Y.drop (i+1):=List.drop_eq_getElem_cons (by omega)
  obtain ⟨k,hk⟩:∃ k,P.underlying f.type=some (.int k):=by
   split at h3
   ·rename_i k hk; exact ⟨k,hk⟩
   ·cases h3
  have px:(part f.type (X.map (Value.int .i64)).toArray f.offset).run P w=.ok (.int .i64 (X[i]'(by omega))) w:=part_int hk (by rw [List.getElem?_map,h2,hx]; rfl)
  have py:(part f.type (Y.map (Value.int .i64)).toArray f.offset).run P w=.ok (.int .i64 (Y[i]'(by omega))) w:=part_int hk (by rw [List.getElem?_map,h2,hy]; rfl)
  unfold Op.eqFields
  rw [if_pos h1]
  simp only [Sem.run_bind,px,py,Result.andThen_ok,run_equalIn_int w d f.type .i64 k _ _ hk]
  have hd:(X.drop i == Y.drop i)=((X[i]'(by omega) == Y[i]'(by omega)) && (X.drop (i+1) == Y.drop (i+1))):=by rw [ex,ey]; rfl
  rw [hd]
  cases hxy:(X[i]'(by omega) == Y[i]'(by omega)) with
  | true =>
   simp only [Bool.not_true,Bool.false_eq_true,if_false,Bool.true_and]
   exact eqFields_run d fs (i+1) X Y h4 (by omega) (by omega)
  | false =>
   simp only [Bool.not_false,if_true,Sem.run_pure,Bool.false_and]
theorem part_flat {t:TypeId} (hu:(∃ k,P.underlying t=some (.int k))\/P.underlying t=some .string) {cs:List Value} {o:Nat} {v:Value} (h:cs[o]?=some v):(part t cs.toArray o).run P w=.ok v w:=by
 rcases hu with ⟨k,hu⟩ | hu
 ·exact part_int hu h
 ·unfold part
  simp [isAgg,Sem.run_bind,run_underlying hu,Result.andThen,h]
theorem mxqL_cons (x y:ByteArray ⊕ Int) (xs ys:List (ByteArray ⊕ Int)):mxqL (x :: xs) (y :: ys)=(mxq x y && mxqL xs ys):=rfl
theorem run_equalIn_str (d:Nat) {t:TypeId} (a b:ByteArray) (hu:P.underlying t=some .string):(Op.equalIn (d+1) t (.string a) (.string b)).run P w=.ok (a == b) w:=by
 simp [Op.equalIn,run_underlying hu]
theorem eqFieldsM_run (d:Nat):∀ (fs:List Field) (ts:List Bool) (U V X Y:List (ByteArray ⊕ Int)),mxF P fs U.length=some ts->U.length=V.length->X.map mxt=ts->Y.map mxt=ts ->
  (Op.eqFields (d+1) ((U ++ X).map mxv).toArray ((V ++ Y).map mxv).toArray fs).run P w=.ok (mxqL X Y) w
 | [],ts,U,V,X,Y,h,hUV,hX,hY=>by
  simp [mxF] at h; subst h
  simp at hX hY; subst hX; subst hY
  simp [Op.eqFields,mxqL]
 | f :: fs,ts,U,V,X,Y,h,hUV,hX,hY=>by
  unfold mxF at h
  split at h
  ·rename_i h12
   simp only [Bool.and_eq_true,bne_iff_ne,ne_eq,beq_iff_eq] at h12
   obtain ⟨h1,h2⟩:=h12
   have main:∀ (b:Bool) (ts':List Bool) (x y:ByteArray ⊕ Int) (X' Y':List (ByteArray ⊕ Int)),((∃ k,P.underlying f.type=some (.int k))\/P.underlying f.type=some .string) ->
     mxF P fs (U.length+1)=some ts'->X'.map mxt=ts'->Y'.map mxt=ts'->(Op.equalIn (d+1) f.type (mxv x) (mxv y)).run P w=.ok (mxq x y) w ->
     (Op.eqFields (d+1) ((U ++ x :: X').map mxv).toArray ((V ++ y :: Y').map mxv).toArray (f :: fs)).run P w=.ok (mxqL (x :: X') (y :: Y')) w:=by
    intro b ts' x y X' Y' hk hm hX' hY' hq
    have px:(part f.type ((U ++ x :: X').map mxv).toArray f.offset).run P w=.ok (mxv x) w:=part_flat hk (by rw [List.getElem?_map,h2,List.getElem?_append_right (Nat.le_refl _)]; simp)
    have py:(part f.type ((V ++ y :: Y').map mxv).toArray f.offset).run P w=.ok (mxv y) w:=part_flat hk (by rw [List.getElem?_map,h2,hUV,List.getElem?_append_right (Nat.le_refl _)]; simp)
    unfold Op.eqFields
    rw [if_pos h1,mxqL_cons]
    simp only [Sem.run_bind,px,py,Result.andThen_ok,hq]
    cases hxy:mxq x y with
    | true =>
     simp only [Bool.not_true,Bool.false_eq_true,if_false,Bool.true_and]
     have:=eqFieldsM_run d fs ts' (U ++ [x]) (V ++ [y]) X' Y' (by simpa using hm) (by simpa using hUV) hX' hY'
     simpa using this
    | false =>
     simp only [Bool.not_false,if_true,Sem.run_pure,Bool.false_and]
   split at h
   ·rename_i k ts' hk hm
    simp only [Option.some.injEq] at h; subst h
    match X,Y,hX,hY with
    | .inr i :: X',.inr j :: Y',hX,hY =>
     simp only [List.map_cons,List.cons.injEq] at hX hY
     exact main false ts' _ _ X' Y' (.inl ⟨k,hk⟩) hm hX.2 hY.2 (run_equalIn_int w d f.type .i64 k _ _ hk)
    | .inl i :: X',_,hX,_=>simp [mxt] at hX
    | .inr i :: X',.inl j :: Y',_,hY=>simp [mxt] at hY
    | .inr i :: X',[],_,hY=>simp at hY
    | [],_,hX,_=>simp at hX
   ·rename_i ts' hk hm
    simp only [Option.some.injEq] at h; subst h
    match X,Y,hX,hY with
    | .inl i :: X',.inl j :: Y',hX,hY =>
     simp only [List.map_cons,List.cons.injEq] at hX hY
     exact main true ts' _ _ X' Y' (.inr hk) hm hX.2 hY.2 (run_equalIn_str d _ _ hk)
    | .inr i :: X',_,hX,_=>simp [mxt] at hX
    | .inl i :: X',.inr j :: Y',_,hY=>simp [mxt] at hY
    | .inl i :: X',[],_,hY=>simp at hY
    | [],_,hX,_=>simp at hX
   ·cases h
  ·cases h
theorem fitL_len:∀ {ks:List LK} {xs:List Value},fitL ks xs=true->xs.length=ks.length
 | [],[],_=>rfl
 | k :: ks,v :: vs,h=>by
  unfold fitL at h
  rw [Bool.and_eq_true] at h
  simp [fitL_len h.2]
 | [],_ :: _,h=>by simp [fitL] at h
 | _ :: _,[],h=>by simp [fitL] at h
theorem fitL_app:∀ {k1 k2:List LK} {xs:List Value},fitL (k1 ++ k2) xs=true->∃ x1 x2,xs=x1 ++ x2/\fitL k1 x1=true/\fitL k2 x2=true
 | [],k2,xs,h=>⟨[],xs,rfl,rfl,h⟩
 | k :: k1,k2,v :: vs,h=>by
  rw [List.cons_append] at h
  unfold fitL at h
  rw [Bool.and_eq_true] at h
  obtain ⟨x1,x2,h1,h2,h3⟩:=fitL_app h.2
  refine ⟨v :: x1,x2,by rw [h1]; rfl,?_,h3⟩
  unfold fitL
  rw [h.1,h2]; rfl
 | k :: k1,k2,[],h=>by simp [fitL] at h
theorem eqVL_app:∀ {x1 y1 x2 y2:List Value},x1.length=y1.length->eqVL (x1 ++ x2) (y1 ++ y2)=(eqVL x1 y1 && eqVL x2 y2)
 | [],[],_,_,_=>rfl
 | x :: x1,y :: y1,x2,y2,h=>by
  have:=eqVL_app (x1:=x1) (y1:=y1) (x2:=x2) (y2:=y2) (by simpa using h)
  simp only [List.cons_append,eqVL,this,Bool.and_assoc]
 | [],_ :: _,_,_,h=>by simp at h
 | _ :: _,[],_,_,h=>by simp at h
theorem eqVL_one {x y:Value}:eqVL [x] [y]=eqV x y:=by simp [eqVL]
def isA (P:Program) (t:TypeId):Bool:=match P.underlying t with | some (.struct _)=>true | some (.array _ _)=>true | _=>false
def mkV (P:Program) (t:TypeId) (xs:List Value):Value:=if isA P t then .agg xs.toArray else xs.headD (.bool false)
theorem fit_one {k:LK} {xs:List Value} (h:fitL [k] xs=true):∃ x,xs=[x]/\fitV k x=true:=by
 match xs,h with
 | [x],h=>exact ⟨x,rfl,by simpa [fitL] using h⟩
 | [],h=>simp [fitL] at h
 | x :: y :: r,h=>simp [fitL] at h
theorem fit_bytes:∀ {n:Nat} {xs:List Value},fitL (List.replicate n .y) xs=true->∃ X:List UInt8,X.length=n/\xs=X.map Extern.Stop.cell
 | 0,[],_=>⟨[],rfl,rfl⟩
 | n+1,v :: vs,h=>by
  rw [List.replicate_succ] at h
  unfold fitL at h
  rw [Bool.and_eq_true] at h
  obtain ⟨X,h1,h2⟩:=fit_bytes h.2
  have hv:=h.1
  unfold fitV at hv
  split at hv <;> try (cases hv; done)
  ·rename_i k heq; cases heq
  ·rename_i k heq; cases heq
  ·rename_i m _
   rw [Bool.and_eq_true,decide_eq_true_iff,decide_eq_true_iff] at hv
   refine ⟨UInt8.ofNat m.toNat :: X,by simp [h1],?_⟩
   rw [List.map_cons,h2]
   congr 1
   unfold Extern.Stop.cell
   congr 1
   rw [UInt8.toNat_ofNat',Nat.mod_eq_of_lt (by omega)]
   show m=((m.toNat:Nat):Int)
   omega
  ·rename_i k k' _ heq; cases heq
 | 0,_ :: _,h=>by simp [fitL] at h
 | n+1,[],h=>by rw [List.replicate_succ] at h; simp [fitL] at h
theorem eq_cells:∀ {X Y:List UInt8},X.length=Y.length->eqVL (X.map Extern.Stop.cell) (Y.map Extern.Stop.cell)=(X == Y)
 | [],[],_=>rfl
 | x :: X,y :: Y,h=>by
  rw [List.map_cons,List.map_cons,eqVL,eq_cells (by simpa using h)]
  have:eqV (Extern.Stop.cell x) (Extern.Stop.cell y)=(x == y):=by
   simp only [Extern.Stop.cell,eqV]
   rw [Bool.eq_iff_iff,beq_iff_eq,beq_iff_eq,<- UInt8.toNat_inj]
   show ((x.toNat:Nat):Int)=((y.toNat:Nat):Int) ↔ x.toNat=y.toNat
   omega
  rw [this]; rfl
 | [],_ :: _,h=>by simp at h
 | _ :: _,[],h=>by simp at h
theorem part_pl {d:Nat} {t:TypeId} {ks:List LK} (h:pl P d t=some ks) {cs xs:List Value} {off:Nat} (hx:(cs.drop off).take ks.length=xs) (hl:xs.length=ks.length):(part t cs.toArray off).run P w=.ok (mkV P t xs) w:=by
 cases d with
 | zero=>cases h
 | succ d =>
  unfold pl at h
  have leaf:∀ {k:LK},ks=[k]->isA P t=false->(isAgg t).run P w=.ok false w->(part t cs.toArray off).run P w=.ok (mkV P t xs) w:=by
   intro k hk ha hg
   subst hk
   have h1:xs=[xs.headD (.bool false)]:=by
    match xs,hl with
    | [x],_=>rfl
   have hc:cs[off]?=some (xs.headD (.bool false)):=by
    have h2:((cs.drop off).take 1)[0]?=xs[0]?:=by rw [<- hx]; rfl
    rw [h1] at h2
    simpa using h2
   unfold part mkV
   rw [ha]
   simp [Sem.run_bind,hg,Result.andThen,hc]
  have agg:∀ n,n=ks.length->n ≠ 0->szOf P t=n->isA P t=true->(isAgg t).run P w=.ok true w->(part t cs.toArray off).run P w=.ok (mkV P t xs) w:=by
   intro n hn h0 hs ha hg
   unfold part mkV
   rw [ha]
   simp only [Sem.run_bind,hg,Result.andThen,if_true,szOf_run h0 hs,Sem.run_pure]
   congr 2
   subst hn
   rw [<- hx]
   simp
  split at h
  ·rename_i k hu
   simp only [Option.some.injEq] at h
   exact leaf h.symm (by unfold isA; rw [hu]) (by simp [isAgg,Sem.run_bind,run_underlying hu,Result.andThen])
  ·rename_i hu
   simp only [Option.some.injEq] at h
   exact leaf h.symm (by unfold isA; rw [hu]) (by simp [isAgg,Sem.run_bind,run_underlying hu,Result.andThen])
  ·rename_i hu
   simp only [Option.some.injEq] at h
   exact leaf h.symm (by unfold isA; rw [hu]) (by simp [isAgg,Sem.run_bind,run_underlying hu,Result.andThen])
  ·rename_i n e hu
   split at h
   ·split at h
    ·rename_i hc
     simp only [Bool.and_eq_true,beq_iff_eq,bne_iff_ne,ne_eq] at hc
     simp only [Option.some.injEq] at h
     exact agg n (by rw [<- h]; simp) hc.2.2 hc.2.1 (by unfold isA; rw [hu]) (by simp [isAgg,Sem.run_bind,run_underlying hu,Result.andThen])
    ·cases h
   ·cases h
  ·rename_i fs hu
   split at h
   ·cases h
   ·split at h
    ·split at h
     ·rename_i hc
      simp only [Bool.and_eq_true,beq_iff_eq,bne_iff_ne,ne_eq] at hc
      simp only [Option.some.injEq] at h
      subst h
      exact agg _ rfl hc.2 hc.1 (by unfold isA; rw [hu]) (by simp [isAgg,Sem.run_bind,run_underlying hu,Result.andThen])
     ·cases h
    ·cases h
  ·cases h
theorem eqFieldsP_run {d D:Nat} (IH:∀ (t:TypeId) (ks:List LK),pl P d t=some ks->∀ (xs ys:List Value),fitL ks xs=true->fitL ks ys=true->(Op.equalIn D t (mkV P t xs) (mkV P t ys)).run P w=.ok (eqVL xs ys) w) :
  ∀ (fs:List Field) (ks:List LK) (U V X Y:List Value),plF (pl P d) fs U.length=some ks->U.length=V.length->fitL ks X=true->fitL ks Y=true ->
  (Op.eqFields D (U ++ X).toArray (V ++ Y).toArray fs).run P w=.ok (eqVL X Y) w
 | [],ks,U,V,X,Y,h,hUV,hX,hY=>by
  simp [plF] at h; subst h
  have h1:=fitL_len hX
  have h2:=fitL_len hY
  have:X=[]:=List.length_eq_zero_iff.1 h1
  have:Y=[]:=List.length_eq_zero_iff.1 h2
  subst X; subst Y
  simp [Op.eqFields,eqVL]
 | f :: fs,ks,U,V,X,Y,h,hUV,hX,hY=>by
  unfold plF at h
  split at h
  ·rename_i h12
   simp only [Bool.and_eq_true,bne_iff_ne,ne_eq,beq_iff_eq] at h12
   obtain ⟨h1,h2⟩:=h12
   split at h
   ·rename_i k1 hk1
    split at h
    ·rename_i k2 hk2
     simp only [Option.some.injEq] at h
     subst h
     obtain ⟨X1,X2,rfl,a1,a2⟩:=fitL_app hX
     obtain ⟨Y1,Y2,rfl,b1,b2⟩:=fitL_app hY
     have la:=fitL_len a1
     have lb:=fitL_len b1
     have px:(part f.type (U ++ (X1 ++ X2)).toArray f.offset).run P w=.ok (mkV P f.type X1) w:=part_pl hk1 (by rw [h2,List.drop_left,<- la,List.take_left]) la
     have py:(part f.type (V ++ (Y1 ++ Y2)).toArray f.offset).run P w=.ok (mkV P f.type Y1) w:=part_pl hk1 (by rw [h2,hUV,List.drop_left,<- lb,List.take_left]) lb
     have hq:=IH f.type k1 hk1 X1 Y1 a1 b1
     unfold Op.eqFields
     rw [if_pos h1,eqVL_app (by omega)]
     simp only [Sem.run_bind,px,py,Result.andThen_ok,hq]
     cases hxy:eqVL X1 Y1 with
     | true =>
      simp only [Bool.not_true,Bool.false_eq_true,if_false,Bool.true_and]
      have:=eqFieldsP_run IH fs k2 (U ++ X1) (V ++ Y1) X2 Y2 (by rw [List.length_append,la]; exact hk2) (by simp only [List.length_append]; omega) a2 b2
      simpa using this
     | false =>
      simp only [Bool.not_false,if_true,Sem.run_pure,Bool.false_and]
    ·cases h
   ·cases h
  ·cases h
theorem pl_run:∀ (d:Nat) (t:TypeId) (ks:List LK),pl P d t=some ks->∀ (D:Nat),d < D->∀ (xs ys:List Value),fitL ks xs=true->fitL ks ys=true->(Op.equalIn D t (mkV P t xs) (mkV P t ys)).run P w=.ok (eqVL xs ys) w
 | 0,t,ks,h,D,hD,xs,ys,hx,hy=>by cases h
 | d+1,t,ks,h,0,hD,xs,ys,hx,hy=>by omega
 | d+1,t,ks,h,D+1,hD,xs,ys,hx,hy=>by
  have h':=h
  unfold pl at h
  split at h
  ·rename_i k hu
   simp only [Option.some.injEq] at h
   subst h
   obtain ⟨x,rfl,fx⟩:=fit_one hx
   obtain ⟨y,rfl,fy⟩:=fit_one hy
   have ha:isA P t=false:=by unfold isA; rw [hu]
   unfold mkV
   rw [ha,eqVL_one]
   unfold fitV at fx fy
   split at fx <;> try (cases fx; done)
   all_goals (first | (rename_i heq; cases heq; done) | skip)
   all_goals (first | (rename_i heq _; cases heq; done) | skip)
   rename_i k1 k2 a heq
   cases heq
   split at fy <;> try (cases fy; done)
   all_goals (first | (rename_i heq; cases heq; done) | skip)
   rename_i k3 k4 b heq
   cases heq
   have e1:=eq_of_beq fx
   have e2:=eq_of_beq fy
   subst e1; subst e2
   exact run_equalIn_int w D t _ _ a b hu
  ·rename_i hu
   simp only [Option.some.injEq] at h
   subst h
   obtain ⟨x,rfl,fx⟩:=fit_one hx
   obtain ⟨y,rfl,fy⟩:=fit_one hy
   have ha:isA P t=false:=by unfold isA; rw [hu]
   unfold mkV
   rw [ha,eqVL_one]
   cases x <;> simp [fitV] at fx
   cases y <;> simp [fitV] at fy
   exact run_equalIn_string w D t _ _ hu
  ·rename_i hu
   simp only [Option.some.injEq] at h
   subst h
   obtain ⟨x,rfl,fx⟩:=fit_one hx
   obtain ⟨y,rfl,fy⟩:=fit_one hy
   have ha:isA P t=false:=by unfold isA; rw [hu]
   unfold mkV
   rw [ha,eqVL_one]
   cases x <;> simp [fitV] at fx
   cases y <;> simp [fitV] at fy
   exact run_equalIn_bool' w D t _ _ hu
  ·rename_i n e hu
   split at h
   ·rename_i he
    split at h
    ·rename_i hc
     simp only [Bool.and_eq_true,beq_iff_eq,bne_iff_ne,ne_eq] at hc
     simp only [Option.some.injEq] at h
     subst h
     obtain ⟨X,hX,rfl⟩:=fit_bytes hx
     obtain ⟨Y,hY,rfl⟩:=fit_bytes hy
     have ha:isA P t=true:=by unfold isA; rw [hu]
     unfold mkV
     rw [ha,eq_cells (by omega)]
     obtain ⟨D',rfl⟩:∃ D',D=D'+1:=⟨D - 1,by omega⟩
     exact run_equalIn_bytes (P:=P) w D' t e n hu he (fun w=>szOf_run (by decide) hc.1) X Y hX hY
    ·cases h
   ·cases h
  ·rename_i fs hu
   split at h
   ·cases h
   ·rename_i hst
    split at h
    ·rename_i ks' hks
     split at h
     ·simp only [Option.some.injEq] at h
      subst h
      have ha:isA P t=true:=by unfold isA; rw [hu]
      have hfo:P.fieldsOf t=fs:=by unfold Program.fieldsOf; rw [hu]
      unfold mkV
      rw [ha]
      simp only [if_true]
      rw [run_equalIn_struct w D t _ _ (by rw [hfo]; exact hu) (by simpa using hst),hfo]
      exact eqFieldsP_run (fun t ks h xs ys hx hy=>pl_run d t ks h D (by omega) xs ys hx hy) fs.toList ks' [] [] xs ys hks rfl hx hy
     ·cases h
    ·cases h
  ·cases h
theorem eq_of_in {t:TypeId} {x y:Value} {b:Bool} (h:∀ d,(Op.equalIn (d+1) t x y).run P w=.ok b w) (op:BinOp) (hop:op=.eql\/op=.neq) (ox oy:Operand)
  (hg:∀ op,eqGuard op t ox oy x y=pure ()) (he:binOp .eql t x y=(do pure (.bool (<- Op.equal t x y)))) (hn:binOp .neq t x y=(do pure (.bool (!(<- Op.equal t x y))))) :
  (do eqGuard op t ox oy x y; binOp op t x y:Sem Value).run P w=.ok (.bool (if op=.eql then b else !b)) w:=by
 have h':(Op.equal t x y).run P w=.ok b w:=h 9999
 rcases hop with rfl | rfl
 ·simp only [hg,he]
  simp [Sem.run_bind,Result.andThen,h']
 ·simp only [hg,hn]
  simp [Sem.run_bind,Result.andThen,h']
theorem guard_if (op:BinOp) (t:TypeId) (ox oy:Operand) (x y:Value) (h:∀ op',op'=.eql\/op'=.neq->eqGuard op' t ox oy x y=pure ()):eqGuard op t ox oy x y=pure ():=by
 by_cases h1:op=.eql
 ·exact h _ (.inl h1)
 ·by_cases h2:op=.neq
  ·exact h _ (.inr h2)
  ·unfold eqGuard
   rw [if_pos]
   cases op <;> first | rfl | exact absurd rfl h1 | exact absurd rfl h2
theorem vcEq_run {t:TypeId} {x y:Value} {K:Bool->Prop} (h:vcEq P t x y K) (op:BinOp) (hop:op=.eql\/op=.neq) (ox oy:Operand) :
  ∃ b,(do eqGuard op t ox oy x y; binOp op t x y:Sem Value).run P w=.ok (.bool (if op=.eql then b else !b)) w/\K b:=by
 unfold vcEq at h
 split at h
 ·rename_i a b hu
  exact ⟨_,eq_of_in (fun d=>by simp [Op.equalIn,run_underlying hu]) op hop ox oy (fun op=>guard_if _ _ _ _ _ _ (by rintro _ (rfl | rfl) <;> rfl)) rfl rfl,h⟩
 ·rename_i e a b hu
  unfold nilEq at h
  split at h
  ·exact ⟨_,eq_of_in (fun d=>by cases a <;> simp [Op.equalIn,run_underlying hu]) op hop ox oy (fun op=>guard_if _ _ _ _ _ _ (by rintro _ (rfl | rfl) <;> rfl)) rfl rfl,h⟩
  ·split at h
   ·exact ⟨_,eq_of_in (fun d=>by simp [Op.equalIn,run_underlying hu]) op hop ox oy (fun op=>guard_if _ _ _ _ _ _ (by rintro _ (rfl | rfl) <;> rfl)) rfl rfl,h⟩
   ·exact h.elim
 ·rename_i e a n1 c1 b n2 c2 hu
  unfold nilEq at h
  split at h
  ·exact ⟨_,eq_of_in (fun d=>by cases a <;> simp [Op.equalIn,run_underlying hu]) op hop ox oy (fun op=>guard_if _ _ _ _ _ _ (by rintro _ (rfl | rfl) <;> rfl)) rfl rfl,h⟩
  ·split at h
   ·exact ⟨_,eq_of_in (fun d=>by simp [Op.equalIn,run_underlying hu]) op hop ox oy (fun op=>guard_if _ _ _ _ _ _ (by rintro _ (rfl | rfl) <;> rfl)) rfl rfl,h⟩
   ·exact h.elim
 ·rename_i hu
  exact ⟨_,eq_of_in (fun d=>by simp [Op.equalIn,run_underlying hu]) op hop ox oy (fun op=>guard_if _ _ _ _ _ _ (by rintro _ (rfl | rfl) <;> rfl)) rfl rfl,h⟩
 ·rename_i n e xs ys hu
  split at h
  ·rename_i he
   simp only [gd_iff,beq_iff_eq] at h
   obtain ⟨hs,hg,X,Y,hX,hY,hx,hy,hK⟩:=h
   have ex:xs=(X.map Extern.Stop.cell).toArray:=by
    have:xs.toList.toArray=xs:=by simp
    rw [<- this,hx]; rfl
   have ey:ys=(Y.map Extern.Stop.cell).toArray:=by
    have:ys.toList.toArray=ys:=by simp
    rw [<- this,hy]; rfl
   subst ex; subst ey
   have hr:=run_equalIn_bytes (P:=P) w 9998 t e n hu he (fun w=>szOf_run (by decide) hs) X Y hX hY
   refine ⟨_,?_,hK⟩
   have hg':P.eqGuardType P.depth t=false:=by simpa using hg
   have hgr:∀ (op:BinOp) (ox oy:Operand) (a b:Array Value),(eqGuard op t ox oy (.agg a) (.agg b)).run P w=.ok () w:=by
    intro op ox oy a b
    cases op <;> simp [eqGuard,Sem.run_bind,program,Sem.run,Result.andThen,hg']
   simp only [Sem.run_bind,hgr,Result.andThen]
   rcases hop with rfl | rfl
   ·rw [run_eql_struct,hr]; simp [Result.andThen]
   ·rw [run_neq_struct,hr]; simp [Result.andThen]
  ·exact h.elim
 ·rename_i fs xs ys hu
  simp only [gd_iff] at h
  obtain ⟨hst,hg,h⟩:=h
  have hfo:P.fieldsOf t=fs:=by unfold Program.fieldsOf; rw [hu]
  have hg':P.eqGuardType P.depth t=false:=by simpa using hg
  have fin:∀ b,(Op.equalIn 10000 t (.agg xs) (.agg ys)).run P w=.ok b w->K b->∃ b,(do eqGuard op t ox oy (.agg xs) (.agg ys); binOp op t (.agg xs) (.agg ys):Sem Value).run P w=.ok (.bool (if op=.eql then b else !b)) w/\K b:=by
   intro b hr hK
   refine ⟨b,?_,hK⟩
   simp only [Sem.run_bind,run_eqGuard_agg w _ _ _ _ _ _ hg',Result.andThen]
   rcases hop with rfl | rfl
   ·rw [run_eql_struct,hr]; simp [Result.andThen]
   ·rw [run_neq_struct,hr]; simp [Result.andThen]
  have eL:∀ (zs:Array Value) (l:List Value),zs.toList=l->zs=l.toArray:=by
   intro zs l h; rw [<- h]
  split at h
  ·rename_i hi
   obtain ⟨X,Y,hX,hY,hx,hy,hK⟩:=h
   rw [eL _ _ hx,eL _ _ hy] at fin ⊢
   refine fin _ ?_ hK
   rw [run_equalIn_struct w 9999 t _ _ (by rw [hfo]; exact hu) (by simpa using hst),hfo,eqFields_run 9998 fs.toList 0 X Y hi (by simpa using hX) (by simpa using hY)]
   rfl
  ·split at h
   ·rename_i ts hts
    obtain ⟨X,Y,hX,hY,hx,hy,hK⟩:=h
    rw [eL _ _ hx,eL _ _ hy] at fin ⊢
    refine fin _ ?_ hK
    rw [run_equalIn_struct w 9999 t _ _ (by rw [hfo]; exact hu) (by simpa using hst),hfo]
    exact eqFieldsM_run 9998 fs.toList ts [] [] X Y hts rfl hX hY
   ·split at h
    ·rename_i ks hks
     obtain ⟨hx,hy,hK⟩:=h
     refine fin _ ?_ hK
     have:=pl_run (P:=P) (w:=w) 4 t ks hks 10000 (by decide) xs.toList ys.toList hx hy
     have ha:isA P t=true:=by unfold isA; rw [hu]
     unfold mkV at this
     rw [ha] at this
     simpa using this
    ·exact h.elim
 ·exact h.elim
theorem vcBin_run {op:BinOp} {t:TypeId} {x y:Value} {K:Value->Prop} (h:vcBin P op t x y K) (ox oy:Operand) :
    ∃ v,(do eqGuard op t ox oy x y; binOp op t x y:Sem Value).run P w=.ok v w/\K v:=by
  unfold vcBin at h
  split at h <;> first
    | exact h.elim
    | (simp only [gd_iff,beq_iff_eq,decide_eq_true_eq] at h
       first
        | (obtain ⟨rfl,h2,hK⟩:=h
           refine ⟨_,?_,hK⟩
           simp [eqGuard,binOp,Op.intDiv,h2,pure,Sem.run]
           done)
        | (obtain ⟨rfl,hK⟩:=h
           refine ⟨_,?_,hK⟩
           simp [eqGuard,binOp,Op.intArith,Op.intBits,Op.intCmp,pure,Sem.run]
           done)
        | (obtain ⟨h2,hK⟩:=h
           refine ⟨_,?_,hK⟩
           have h3:¬ (_:Int) < 0:=Int.not_lt.2 h2
           simp [eqGuard,binOp,Op.shift,pure,Sem.run,h3]
           done))
    | skip
  · simp only [gd_iff,decide_eq_true_eq] at h
    obtain ⟨h2,hK⟩:=h
    refine ⟨_,?_,hK⟩
    have hm:IntKind.i64.max=9223372036854775807:=by decide
    rename_i a b
    have hn:¬ ((a.size+b.size:Nat):Int) > IntKind.i64.max:=by rw [hm]; omega
    simp only [eqGuard,binOp,Op.stringOp,if_neg hn]
    simp
  · exact ⟨_,by simp [eqGuard,binOp,Op.stringOp],h⟩
  · exact ⟨_,by simp [eqGuard,binOp,Op.stringOp],h⟩
  · exact ⟨_,by simp [eqGuard,binOp,Op.stringOp],h⟩
  · exact ⟨_,by simp [eqGuard,binOp,Op.stringOp],h⟩
  · exact ⟨_,by simp [eqGuard,binOp,Op.stringOp],h⟩
  · exact ⟨_,by simp [eqGuard,binOp,Op.stringOp],h⟩
  · obtain ⟨b,hb,hK⟩:=vcEq_run (w:=w) h .eql (.inl rfl) ox oy
    exact ⟨_,hb,by simpa using hK⟩
  · obtain ⟨b,hb,hK⟩:=vcEq_run (w:=w) h .neq (.inr rfl) ox oy
    exact ⟨_,hb,by simpa using hK⟩
end
def ptI (k:IntKind) (v:Value) (K:Int->Prop):Prop :=
 match v with
 | .int k' x=>gd (k' == k) (K x)
 | _=>False
def ptB (v:Value) (K:Bool->Prop):Prop :=
 match v with
 | .bool x=>K x
 | _=>False
def ptS (v:Value) (K:ByteArray->Prop):Prop :=
 match v with
 | .string x=>K x
 | _=>False
def ptP (v:Value) (K:Option Addr->Prop):Prop :=
 match v with
 | .pointer x=>K x
 | _=>False
def ptSl (v:Value) (K:Option Addr->Nat->Nat->Prop):Prop :=
 match v with
 | .slice A n c=>K A n c
 | _=>False
def ptM (v:Value) (K:Option Nat->Prop):Prop :=
 match v with
 | .map r=>K r
 | _=>False
def ofL (cs:List Value):Value:=.agg cs.toArray
def vcPart (P:Program) (t:TypeId) (cs:List Value) (o:Nat) (K:Value->Prop):Prop :=
 match P.underlying t with
 | some (.struct _) | some (.array _ _)=>K (ofL ((cs.drop o).take (szOf P t)))
 | some (.int k)=>gd (decide (o < cs.length)) (ptI k (nthV cs o) (fun x=>K (.int k x)))
 | some .bool=>gd (decide (o < cs.length)) (ptB (nthV cs o) (fun x=>K (.bool x)))
 | some .string=>gd (decide (o < cs.length)) (ptS (nthV cs o) (fun x=>K (.string x)))
 | some (.pointer _)=>gd (decide (o < cs.length)) (ptP (nthV cs o) (fun x=>K (.pointer x)))
 | some (.slice _)=>gd (decide (o < cs.length)) (ptSl (nthV cs o) (fun A n c=>K (.slice A n c)))
 | some (.map _ _)=>gd (decide (o < cs.length)) (ptM (nthV cs o) (fun r=>K (.map r)))
 | some (.interface _) | some (.func _ _ _) | some (.float _)=>gd (decide (o < cs.length)) (K (nthV cs o))
 | _=>False
def vcLd (P:Program) (t:TypeId) (w:World) (b o:Nat) (K:Value->Prop):Prop :=
 match P.underlying t with
 | some (.struct _) | some (.array _ _)=>ldA (szOf P t) w b o (fun cs=>K (ofL cs))
 | some (.int k)=>ldI k w b o (fun x=>K (.int k x))
 | some .bool=>ldB w b o (fun x=>K (.bool x))
 | some .string=>ldS w b o (fun x=>K (.string x))
 | some (.pointer _)=>ldP w b o (fun x=>K (.pointer x))
 | some (.slice _)=>ldSl w b o (fun A n c=>K (.slice A n c))
 | some (.map _ _)=>ldM w b o (fun r=>K (.map r))
 | some (.interface _) | some (.func _ _ _) | some (.float _)=>ldV w b o K
 | _=>False
def vcIxA (P:Program) (t:TypeId) (x i:Value) (K:Value->Prop):Prop :=
 match P.underlying t,x,i with
 | some (.slice e),.slice A len _,.int _ n=>gd (szOf P e != 0) (dr A (fun b o=>gd (decide (0<=n)) (gd (decide (n < (len:Int))) (K (.pointer (some ⟨b,o+n.toNat * szOf P e,none⟩))))))
 | some (.array len e),.pointer A,.int _ n=>gd (szOf P e != 0) (dr A (fun b o=>gd (decide (0<=n)) (gd (decide (n < (len:Int))) (K (.pointer (some ⟨b,o+n.toNat * szOf P e,none⟩))))))
 | _,_,_=>False
def byteAt (s:ByteArray) (i:Nat):Int:=((s.data.toList.getD i 0).toNat:Int)
def vcIx (P:Program) (t:TypeId) (x i:Value) (K:Value->Prop):Prop :=
 match P.underlying t,x,i with
 | some .string,.string s,.int _ n=>gd (decide (0<=n)) (gd (decide (n < (s.size:Int))) (K (.int .u8 (byteAt s n.toNat))))
 | some (.array len e),.agg cs,.int _ n=>gd (decide (0<=n)) (gd (decide (n < (len:Int))) (gd (szOf P e != 0) (vcPart P e cs.toList (n.toNat * szOf P e) K)))
 | _,_,_=>False
def bnd (v:Option Value) (d:Nat) (top:Nat) (K:Nat->Prop):Prop :=
 match v with
 | none=>K d
 | some (.int _ n)=>gd (decide (0<=n)) (gd (decide (n<=(top:Int))) (K n.toNat))
 | some _=>False
def bnds (len cap:Nat) (lo hi mx:Option Value) (K:Nat->Nat->Nat->Prop):Prop :=
 bnd mx cap cap (fun m=>gd (mx.isNone || hi.isSome) (bnd hi len m (fun h=>bnd lo 0 h (fun l=>K l h m))))
def slA (A:Option Addr) (m l sz:Nat):Option Addr:=if m=l then A else A.map (·.add (l * sz))
def vcSl (P:Program) (t:TypeId) (x:Value) (lo hi mx:Option Value) (K:Value->Prop):Prop :=
 match P.underlying t,x with
 | some .string,.string s=>gd mx.isNone (bnds s.size s.size lo hi none (fun l h _=>K (.string (s.extract l h))))
 | some (.slice e),.slice A len cap=>gd (szOf P e != 0) (bnds len cap lo hi mx (fun l h m=>K (.slice (slA A m l (szOf P e)) (h - l) (m - l))))
 | some (.array n e),.pointer (some a)=>gd (szOf P e != 0) (bnds n n lo hi mx (fun l h m=>K (.slice (slA (some a) m l (szOf P e)) (h - l) (m - l))))
 | _,_=>False
def vcLen (P:Program) (t:TypeId) (x:Value) (K:Value->Prop):Prop :=
 match P.underlying t,x with
 | some .string,.string s=>K (.int .i64 s.size)
 | some (.slice _),.slice _ n _=>K (.int .i64 n)
 | some (.array n _),_=>K (.int .i64 n)
 | some (.map _ _),.map none=>K (.int .i64 0)
 | some (.pointer a),_=>(match P.underlying a with | some (.array n _)=>K (.int .i64 n) | _=>False)
 | _,_=>False
def vcCap (P:Program) (t:TypeId) (x:Value) (K:Value->Prop):Prop :=
 match P.underlying t,x with
 | some (.slice _),.slice _ _ c=>K (.int .i64 c)
 | some (.array n _),_=>K (.int .i64 n)
 | _,_=>False
def vcUn (op:UnOp) (x:Value) (K:Value->Prop):Prop :=
 match op,x with
 | .not,.bool b=>K (.bool !b)
 | .neg,.int k n=>K (.int k (k.wrap (0 - n)))
 | .xor,.int k n=>K (.int k (iXor k (if k.signed then -1 else k.max) n))
 | _,_=>False
def vcConv (P:Program) (s d:TypeId) (x:Value) (K:Value->Prop):Prop :=
 match P.underlying s,P.underlying d,x with
 | some (.int _),some (.int k),.int _ n=>K (.int k (k.wrap n))
 | some .string,some .string,.string s=>K (.string s)
 | _,_,_=>False
def vcFA (P:Program) (s:TypeId) (x:Value) (f:Nat) (K:Value->Prop):Prop :=
 match P.underlying s,x with
 | some (.struct fs),.pointer (some a)=>(match fs[f]? with | some fd=>gd (szOf P fd.type != 0) (K (.pointer (some (a.add fd.offset)))) | none=>False)
 | _,_=>False
def vcFd (P:Program) (s:TypeId) (x:Value) (f:Nat) (K:Value->Prop):Prop :=
 match P.underlying s,x with
 | some (.struct fs),.agg cs=>(match fs[f]? with | some fd=>gd (szOf P fd.type != 0) (vcPart P fd.type cs.toList fd.offset K) | none=>False)
 | _,_=>False
def vcNil (x:Value) (K:Value->Prop):Prop :=
 match x with
 | .pointer q=>dr q (fun b o=>K (.pointer (some ⟨b,o,none⟩)))
 | .func (.func f) a b=>K (.func (.func f) a b)
 | _=>False
def vcMm (isMin:Bool) (args:List Value) (K:Value->Prop):Prop :=
 match args with
 | [.int k x,.int k' y]=>gd (k == k') (K (.int k (if isMin then (if y < x then y else x) else (if x < y then y else x))))
 | _=>False
section
variable {P:Program} {w:World}
theorem szOf_run' {t:TypeId} {d:TypeDesc} (hu:P.underlying t=some d):(sizeOf t).run P w=.ok (szOf P t) w:=by
 obtain ⟨i,hi⟩:=info_of_underlying hu
 unfold szOf sizeOf typeInfo
 simp only [Sem.run_bind,program,Sem.run,Result.andThen,hi]
 simp [pure]
theorem dr_iff {q:Option Addr} {K:Nat->Nat->Prop}:dr q K ↔ ∃ b o,q=some ⟨b,o,none⟩/\K b o:=by
 unfold dr
 constructor
 ·intro h
  split at h
  ·rename_i a
   split at h
   ·rename_i hs
    exact ⟨a.block,a.off,by cases a; simp_all,h⟩
   ·exact h.elim
  ·exact h.elim
 ·rintro ⟨b,o,rfl,h⟩
  exact h
theorem add_none (b o n:Nat):(⟨b,o,none⟩:Addr).add n=⟨b,o+n,none⟩:=by
 unfold Addr.add; split <;> simp_all
theorem sz_run {t:TypeId} (h:(szOf P t != 0)=true):(sizeOf t).run P w=.ok (szOf P t) w:=szOf_run (by simpa using h) rfl
theorem vcIxA_run {t:TypeId} {x i:Value} {K:Value->Prop} (h:vcIxA P t x i K):∃ v,(Instr.indexAt t x i).run P w=.ok v w/\K v:=by
 unfold vcIxA at h
 split at h
 ·rename_i e A len _ k n hu
  simp only [dr_iff,gd_iff,decide_eq_true_eq] at h
  obtain ⟨hs,b,o,rfl,h0,h1,hK⟩:=h
  refine ⟨_,?_,hK⟩
  have he:P.elem t=e:=by simp [Program.elem,hu]
  rw [run_indexAt_slice (h:=by rw [he]; exact hu),if_pos ⟨h0,h1⟩,he,sz_run hs]
  simp [Result.andThen,add_none]
 ·rename_i len e A k n hu
  simp only [dr_iff,gd_iff,decide_eq_true_eq] at h
  obtain ⟨hs,b,o,rfl,h0,h1,hK⟩:=h
  refine ⟨_,?_,hK⟩
  have he:P.elem t=e:=by simp [Program.elem,hu]
  have hl:P.arrayLen t=len:=by simp [Program.arrayLen,hu]
  rw [run_indexAt_array (h:=by rw [he,hl]; exact hu),hl,if_pos ⟨h0,h1⟩,he,sz_run hs]
  simp [Result.andThen,add_none]
 ·exact h.elim
theorem isAgg_run {t:TypeId} {d:TypeDesc} (hu:P.underlying t=some d):(isAgg t).run P w=.ok (match d with | .struct _ | .array _ _=>true | _=>false) w:=by
 unfold isAgg
 simp only [Sem.run_bind,run_underlying hu,Result.andThen]
 cases d <;> simp
theorem nth_get {cs:List Value} {o:Nat} (h:o < cs.length):cs.toArray[o]?=some (nthV cs o):=by
 rw [nthV_eq]
 simp [Array.getD_eq_getD_getElem?,h]
theorem part_plain {t:TypeId} {d:TypeDesc} (hu:P.underlying t=some d) (hd:(match d with | .struct _ | .array _ _=>true | _=>false)=false) {cs:List Value} {o:Nat} (h:o < cs.length) :
  (part t cs.toArray o).run P w=.ok (nthV cs o) w:=by
 unfold part
 simp only [Sem.run_bind,isAgg_run hu,hd,Result.andThen,nth_get h]
 simp
theorem part_agg {t:TypeId} {d:TypeDesc} (hu:P.underlying t=some d) (hd:(match d with | .struct _ | .array _ _=>true | _=>false)=true) (cs:List Value) (o:Nat) :
  (part t cs.toArray o).run P w=.ok (ofL ((cs.drop o).take (szOf P t))) w:=by
 unfold part
 simp only [Sem.run_bind,isAgg_run hu,hd,Result.andThen,if_true,szOf_run' hu]
 simp [ofL]
theorem vcPart_run {t:TypeId} {cs:List Value} {o:Nat} {K:Value->Prop} (h:vcPart P t cs o K):∃ v,(part t cs.toArray o).run P w=.ok v w/\K v:=by
 unfold vcPart at h
 split at h
 ·rename_i hu; exact ⟨_,part_agg hu rfl _ _,h⟩
 ·rename_i hu; exact ⟨_,part_agg hu rfl _ _,h⟩
 ·rename_i hu; simp only [gd_iff,decide_eq_true_eq] at h; obtain ⟨hl,h⟩:=h
  refine ⟨_,part_plain hu rfl hl,?_⟩
  unfold ptI at h; split at h
  ·rename_i e; simp only [gd_iff,beq_iff_eq] at h; obtain ⟨rfl,h⟩:=h; rw [e]; exact h
  ·exact h.elim
 ·rename_i hu; simp only [gd_iff,decide_eq_true_eq] at h; obtain ⟨hl,h⟩:=h
  refine ⟨_,part_plain hu rfl hl,?_⟩
  unfold ptB at h; split at h
  ·rename_i e; rw [e]; exact h
  ·exact h.elim
 ·rename_i hu; simp only [gd_iff,decide_eq_true_eq] at h; obtain ⟨hl,h⟩:=h
  refine ⟨_,part_plain hu rfl hl,?_⟩
  unfold ptS at h; split at h
  ·rename_i e; rw [e]; exact h
  ·exact h.elim
 ·rename_i hu; simp only [gd_iff,decide_eq_true_eq] at h; obtain ⟨hl,h⟩:=h
  refine ⟨_,part_plain hu rfl hl,?_⟩
  unfold ptP at h; split at h
  ·rename_i e; rw [e]; exact h
  ·exact h.elim
 ·rename_i hu; simp only [gd_iff,decide_eq_true_eq] at h; obtain ⟨hl,h⟩:=h
  refine ⟨_,part_plain hu rfl hl,?_⟩
  unfold ptSl at h; split at h
  ·rename_i e; rw [e]; exact h
  ·exact h.elim
 ·rename_i hu; simp only [gd_iff,decide_eq_true_eq] at h; obtain ⟨hl,h⟩:=h
  refine ⟨_,part_plain hu rfl hl,?_⟩
  unfold ptM at h; split at h
  ·rename_i e; rw [e]; exact h
  ·exact h.elim
 ·rename_i hu; simp only [gd_iff,decide_eq_true_eq] at h; obtain ⟨hl,h⟩:=h
  exact ⟨_,part_plain hu rfl hl,h⟩
 ·rename_i hu; simp only [gd_iff,decide_eq_true_eq] at h; obtain ⟨hl,h⟩:=h
  exact ⟨_,part_plain hu rfl hl,h⟩
 ·rename_i hu; simp only [gd_iff,decide_eq_true_eq] at h; obtain ⟨hl,h⟩:=h
  exact ⟨_,part_plain hu rfl hl,h⟩
 ·exact h.elim
theorem loadVar_plain {t:TypeId} {d:TypeDesc} (hu:P.underlying t=some d) (hd:(match d with | .struct _ | .array _ _=>true | _=>false)=false) {b o:Nat} {v:Value} (h:cellAt w b o=some v) :
  (loadVar t ⟨b,o,none⟩).run P w=.ok v w:=by
 unfold loadVar
 unfold cellAt at h
 simp only [Sem.run_bind,isAgg_run hu,hd,Result.andThen]
 simp [h]
theorem loadVar_agg {t:TypeId} {d:TypeDesc} (hu:P.underlying t=some d) (hd:(match d with | .struct _ | .array _ _=>true | _=>false)=true) {b o:Nat} {cs:List Value} (hl:cs.length=szOf P t) (h:cellsAt w b o cs) :
  (loadVar t ⟨b,o,none⟩).run P w=.ok (ofL cs) w:=by
 have hr:=run_loadCells_list (P:=P) w ⟨b,o,none⟩ cs (fun j v hv=>by rw [add_none]; exact h j v hv)
 rw [hl] at hr
 unfold loadVar
 simp only [Sem.run_bind,isAgg_run hu,hd,Result.andThen,if_true,szOf_run' hu,hr]
 simp [ofL]
theorem vcLd_run {t:TypeId} {b o:Nat} {K:Value->Prop} (h:vcLd P t w b o K):∃ v,(loadVar t ⟨b,o,none⟩).run P w=.ok v w/\K v:=by
 unfold vcLd at h
 split at h
 ·rename_i hu; obtain ⟨cs,hl,hc,h⟩:=h; exact ⟨_,loadVar_agg hu rfl hl hc,h⟩
 ·rename_i hu; obtain ⟨cs,hl,hc,h⟩:=h; exact ⟨_,loadVar_agg hu rfl hl hc,h⟩
 ·rename_i hu; obtain ⟨x,hc,h⟩:=h; exact ⟨_,loadVar_plain hu rfl hc,h⟩
 ·rename_i hu; obtain ⟨x,hc,h⟩:=h; exact ⟨_,loadVar_plain hu rfl hc,h⟩
 ·rename_i hu; obtain ⟨x,hc,h⟩:=h; exact ⟨_,loadVar_plain hu rfl hc,h⟩
 ·rename_i hu; obtain ⟨x,hc,h⟩:=h; exact ⟨_,loadVar_plain hu rfl hc,h⟩
 ·rename_i hu; obtain ⟨x,y,z,hc,h⟩:=h; exact ⟨_,loadVar_plain hu rfl hc,h⟩
 ·rename_i hu; obtain ⟨x,hc,h⟩:=h; exact ⟨_,loadVar_plain hu rfl hc,h⟩
 ·rename_i hu; obtain ⟨x,hc,h⟩:=h; exact ⟨_,loadVar_plain hu rfl hc,h⟩
 ·rename_i hu; obtain ⟨x,hc,h⟩:=h; exact ⟨_,loadVar_plain hu rfl hc,h⟩
 ·rename_i hu; obtain ⟨x,hc,h⟩:=h; exact ⟨_,loadVar_plain hu rfl hc,h⟩
 ·exact h.elim
theorem vcIx_run {t:TypeId} {x i:Value} {K:Value->Prop} (h:vcIx P t x i K):∃ v,(Instr.index t x i).run P w=.ok v w/\K v:=by
 unfold vcIx at h
 split at h
 ·rename_i s k n hu
  simp only [gd_iff,decide_eq_true_eq] at h
  obtain ⟨h0,h1,hK⟩:=h
  refine ⟨_,?_,hK⟩
  have hn:n.toNat < s.size:=by omega
  have hg:s[n.toNat]?=some (s[n.toNat]'hn):=by simp [hn]
  unfold Instr.index
  simp only [asIntOf,Sem.run_bind,run_underlying hu,Result.andThen,Sem.run_pure,h0,if_true,hg,byteAt]
  have e:s.data[n.toNat]?=some (s[n.toNat]'hn):=Array.getElem?_eq_getElem hn
  simp [e]
 ·rename_i len e cs k n hu
  simp only [gd_iff,decide_eq_true_eq] at h
  obtain ⟨h0,h1,hs,hK⟩:=h
  obtain ⟨v,hv,hK⟩:=vcPart_run (w:=w) hK
  refine ⟨v,?_,hK⟩
  unfold Instr.index
  simp only [asIntOf,Sem.run_bind,run_underlying hu,Result.andThen,Sem.run_pure,if_pos (And.intro h0 h1),sz_run hs]
  simpa using hv
 ·exact h.elim
theorem bound_run {k:IntKind} {n:Int} {top:Nat} (code:BoundsCode) (h0:0<=n) (h1:n<=(top:Int)):(Instr.sliceBound (.int k n) top code).run P w=.ok n.toNat w:=by
 unfold Instr.sliceBound
 simp only [asIntOf,Sem.run_bind,Sem.run_pure,Result.andThen]
 rw [if_pos ⟨h0,h1⟩]
 simp
theorem bnds_run {len cap:Nat} {lo hi mx:Option Value} {K:Nat->Nat->Nat->Prop} (h:bnds len cap lo hi mx K) (isS:Bool) :
  ∃ l hh m,(Instr.sliceBounds isS len cap lo hi mx).run P w=.ok (l,hh,m) w/\K l hh m:=by
 unfold bnds bnd at h
 have B:∀ (k:IntKind) (n:Int) (top:Nat) (code:BoundsCode),0<=n->n<=(top:Int)->(Instr.sliceBound (.int k n) top code).run P w=.ok n.toNat w:=fun k n top code h0 h1=>bound_run code h0 h1
 unfold Instr.sliceBounds
 split at h
 ·simp only [gd_iff,Option.isNone_none,Bool.true_or,true_and] at h
  split at h
  ·split at h
   ·exact ⟨_,_,_,by simp [Sem.run_bind],h⟩
   ·try simp only [gd_iff,decide_eq_true_eq] at h
    exact ⟨_,_,_,by simp [Sem.run_bind,B _ _ _ _ h.1 h.2.1,Result.andThen],h.2.2⟩
   ·exact h.elim
  ·try simp only [gd_iff,decide_eq_true_eq] at h
   obtain ⟨h0,h1,h⟩:=h
   split at h
   ·exact ⟨_,_,_,by simp [Sem.run_bind,B _ _ _ _ h0 h1,Result.andThen],h⟩
   ·try simp only [gd_iff,decide_eq_true_eq] at h
    exact ⟨_,_,_,by simp [Sem.run_bind,B _ _ _ _ h0 h1,B _ _ _ _ h.1 h.2.1,Result.andThen],h.2.2⟩
   ·exact h.elim
  ·exact h.elim
 ·try simp only [gd_iff,decide_eq_true_eq,Option.isNone_some,Bool.false_or] at h
  obtain ⟨g0,g1,hi',h⟩:=h
  split at h
  ·cases hi'
  ·try simp only [gd_iff,decide_eq_true_eq] at h
   obtain ⟨h0,h1,h⟩:=h
   split at h
   ·exact ⟨_,_,_,by simp [Sem.run_bind,B _ _ _ _ g0 g1,B _ _ _ _ h0 h1,Result.andThen],h⟩
   ·try simp only [gd_iff,decide_eq_true_eq] at h
    exact ⟨_,_,_,by simp [Sem.run_bind,B _ _ _ _ g0 g1,B _ _ _ _ h0 h1,B _ _ _ _ h.1 h.2.1,Result.andThen],h.2.2⟩
   ·exact h.elim
  ·exact h.elim
 ·exact h.elim
theorem vcSl_run {t:TypeId} {x:Value} {lo hi mx:Option Value} {K:Value->Prop} (h:vcSl P t x lo hi mx K):∃ v,(Instr.sliceAt t x lo hi mx).run P w=.ok v w/\K v:=by
 unfold vcSl at h
 split at h
 ·rename_i s hu
  simp only [gd_iff] at h
  obtain ⟨hm,h⟩:=h
  obtain ⟨l,hh,m,hr,hK⟩:=bnds_run (P:=P) (w:=w) h false
  refine ⟨_,?_,hK⟩
  have hm':mx.isSome=false:=by cases mx <;> simp_all
  unfold Instr.sliceAt Instr.slice
  simp [Sem.run_bind,run_underlying hu,Result.andThen,hr,hm']
 ·rename_i e A len cap hu
  simp only [gd_iff] at h
  obtain ⟨hs,h⟩:=h
  obtain ⟨l,hh,m,hr,hK⟩:=bnds_run (P:=P) (w:=w) h true
  refine ⟨_,?_,hK⟩
  unfold Instr.sliceAt Instr.slice
  simp [Sem.run_bind,run_underlying hu,Result.andThen,hr,sz_run hs,slA]
 ·rename_i n e a hu
  simp only [gd_iff] at h
  obtain ⟨hs,h⟩:=h
  obtain ⟨l,hh,m,hr,hK⟩:=bnds_run (P:=P) (w:=w) h false
  refine ⟨_,?_,hK⟩
  unfold Instr.sliceAt
  simp [Sem.run_bind,run_underlying hu,Result.andThen,hr,sz_run hs,slA,Instr.sureAddr]
  split <;> rfl
 ·exact h.elim
theorem vcLen_run {t ty:TypeId} {ts:Array TypeId} {x:Value} {xs:Array Value} (ht:ts[0]?=some t) (hx:xs[0]?=some x) {K:Value->Prop} (h:vcLen P t x K):∃ v,(Builtin.len_ ts ty xs).run P w=.ok v w/\K v:=by
 unfold vcLen at h
 unfold Builtin.len_
 simp only [ht,hx]
 split at h
 ·rename_i hu; exact ⟨_,by simp [Sem.run_bind,run_underlying hu,Result.andThen,goInt],h⟩
 ·rename_i hu; exact ⟨_,by simp [Sem.run_bind,run_underlying hu,Result.andThen,goInt],h⟩
 ·rename_i hu; exact ⟨_,by simp [Sem.run_bind,run_underlying hu,Result.andThen,goInt],h⟩
 ·rename_i hu; exact ⟨_,by simp [Sem.run_bind,run_underlying hu,Result.andThen,goInt],h⟩
 ·rename_i hu
  split at h
  ·rename_i hu2; exact ⟨_,by simp [Sem.run_bind,run_underlying hu,run_underlying hu2,Result.andThen,goInt],h⟩
  ·exact h.elim
 ·exact h.elim
theorem vcCap_run {t ty:TypeId} {ts:Array TypeId} {x:Value} {xs:Array Value} (ht:ts[0]?=some t) (hx:xs[0]?=some x) {K:Value->Prop} (h:vcCap P t x K):∃ v,(Builtin.cap_ ts ty xs).run P w=.ok v w/\K v:=by
 unfold vcCap at h
 unfold Builtin.cap_
 simp only [ht,hx]
 split at h
 ·rename_i hu; exact ⟨_,by simp [Sem.run_bind,run_underlying hu,Result.andThen,goInt],h⟩
 ·rename_i hu; exact ⟨_,by simp [Sem.run_bind,run_underlying hu,Result.andThen,goInt],h⟩
 ·exact h.elim
theorem vcUn_run {op:UnOp} {x:Value} {K:Value->Prop} (h:vcUn op x K):∃ v,(Op.unary op x).run P w=.ok v w/\K v:=by
 unfold vcUn at h
 split at h
 ·exact ⟨_,by simp [Op.unary],h⟩
 ·exact ⟨_,rfl,h⟩
 ·exact ⟨_,rfl,h⟩
 ·exact h.elim
theorem vcConv_run {s d:TypeId} {x:Value} {K:Value->Prop} (h:vcConv P s d x K):∃ v,(convert s d x).run P w=.ok v w/\K v:=by
 unfold vcConv at h
 unfold convert
 split at h
 ·rename_i h1 h2; exact ⟨_,by simp [Sem.run_bind,run_underlying h1,run_underlying h2,Result.andThen,Conv.intToInt],h⟩
 ·rename_i h1 h2; exact ⟨_,by simp [Sem.run_bind,run_underlying h1,run_underlying h2,Result.andThen],h⟩
 ·exact h.elim
theorem vcFA_run {s:TypeId} {x:Value} {f:Nat} {K:Value->Prop} (h:vcFA P s x f K):∃ v,(Instr.fieldAt s x f).run P w=.ok v w/\K v:=by
 unfold vcFA at h
 split at h
 ·rename_i fs a hu
  split at h
  ·rename_i fd hf
   simp only [gd_iff] at h
   obtain ⟨hs,hK⟩:=h
   refine ⟨_,?_,hK⟩
   have hs':szOf P fd.type ≠ 0:=by simpa using hs
   unfold Instr.fieldAt
   simp [Sem.run_bind,run_underlying hu,Result.andThen,hf,Instr.sureAddr,fieldPlace,sz_run hs,hs']
  ·exact h.elim
 ·exact h.elim
theorem vcFd_run {s:TypeId} {x:Value} {f:Nat} {K:Value->Prop} (h:vcFd P s x f K):∃ v,(Instr.field s x f).run P w=.ok v w/\K v:=by
 unfold vcFd at h
 split at h
 ·rename_i fs cs hu
  split at h
  ·rename_i fd hf
   simp only [gd_iff] at h
   obtain ⟨hs,h⟩:=h
   obtain ⟨v,hv,hK⟩:=vcPart_run (w:=w) h
   refine ⟨v,?_,hK⟩
   unfold Instr.field
   simp only [Sem.run_bind,run_underlying hu,Result.andThen,hf,asAgg,Sem.run_pure]
   simpa using hv
  ·exact h.elim
 ·exact h.elim
theorem vcMm_run {isMin:Bool} {ts:Array TypeId} {ty:TypeId} {args:Array Value} {K:Value->Prop} (h:vcMm isMin args.toList K) :
  ∃ v,((if isMin then Builtin.min_ ts ty args else Builtin.max_ ts ty args)).run P w=.ok v w/\K v:=by
 unfold vcMm at h
 split at h
 ·rename_i k x k' y e
  simp only [gd_iff,beq_iff_eq] at h
  obtain ⟨rfl,hK⟩:=h
  refine ⟨_,?_,hK⟩
  cases isMin <;> simp [Builtin.min_,Builtin.max_,e,Builtin.min2,Builtin.max2]
 ·exact h.elim
end
def splitBy:List Nat->List Value->List (List Value)
 | [],_=>[]
 | n :: r,l=>l.take n :: splitBy r (l.drop n)
def setCh:List (List Value)->List (Nat×Value)->(List (List Value)->Prop)->Prop
 | ch,[],K=>K ch
 | ch,(i,v) :: r,K =>
  match ch[i]? with
  | some c=>gd (v.cells.toList.length == c.length) (setCh (ch.set i v.cells.toList) r K)
  | none=>False
def offs (fs:List Field) (sz:List Nat):Bool:=go fs sz 0
 where
 go:List Field->List Nat->Nat->Bool
  | [],[],_=>true
  | f :: fs,n :: r,o=>f.offset == o && go fs r (o+n)
  | _,_,_=>false
def zeroOf (P:Program) (t:TypeId):Option (List Value):=(P.info? t).bind fun i=>i.zero.map fun v=>v.cells.toList
def vcBuild (P:Program) (t:TypeId) (parts:List (Nat×Value)) (K:Value->Prop):Prop :=
 match P.underlying t,zeroOf P t with
 | some (.struct fs),some z =>
  let sz:=fs.toList.map fun f=>szOf P f.type
  gd (sz.all (· != 0)) (gd (offs fs.toList sz) (gd (sz.sum == z.length) (setCh (splitBy sz z) parts (fun ch=>K (ofL ch.flatten)))))
 | some (.array n e),some z =>
  gd (szOf P e != 0) (gd (n * szOf P e == z.length) (setCh (splitBy (List.replicate n (szOf P e)) z) parts (fun ch=>K (ofL ch.flatten))))
 | _,_=>False
theorem splitBy_flatten:∀ (sz:List Nat) (l:List Value),sz.sum=l.length->(splitBy sz l).flatten=l
 | [],l,h=>by
  have:l=[]:=List.length_eq_zero_iff.1 (by simpa using h.symm)
  simp [splitBy,this]
 | n :: r,l,h=>by
  simp only [List.sum_cons] at h
  rw [splitBy,List.flatten_cons,splitBy_flatten r (l.drop n) (by rw [List.length_drop]; omega),List.take_append_drop]
theorem splitBy_lens:∀ (sz:List Nat) (l:List Value),sz.sum=l.length->(splitBy sz l).map List.length=sz
 | [],l,h=>rfl
 | n :: r,l,h=>by
  simp only [List.sum_cons] at h
  rw [splitBy,List.map_cons,splitBy_lens r (l.drop n) (by rw [List.length_drop]; omega)]
  congr 1
  rw [List.length_take]; omega
theorem foldl_put (off:Nat):∀ (vs:List Value) (j:Nat) (L m R:List Value),L.length=off+j->m.length=vs.length ->
  (vs.zipIdx j).foldl (fun (cs:Array Value) x=>cs.setIfInBounds (off+x.2) x.1) (L ++ m ++ R).toArray=(L ++ vs ++ R).toArray
 | [],j,L,m,R,_,hm=>by
  have:m=[]:=List.length_eq_zero_iff.1 hm
  simp [this]
 | v :: r,j,L,[],R,_,hm=>by simp at hm
 | v :: r,j,L,x :: m,R,hL,hm=>by
  have h1:((L ++ x :: m ++ R).toArray.setIfInBounds (off+j) v)=((L ++ [v]) ++ m ++ R).toArray:=by
   rw [<- hL]
   simp
  rw [List.zipIdx_cons,List.foldl_cons,h1,foldl_put off r (j+1) (L ++ [v]) m R (by simp; omega) (by simpa using hm)]
  simp
theorem flat_parts (ch:List (List Value)) (i:Nat) (c:List Value) (h:ch[i]?=some c) (vs:List Value) :
  ch.flatten=(ch.take i).flatten ++ c ++ (ch.drop (i+1)).flatten/\(ch.set i vs).flatten=(ch.take i).flatten ++ vs ++ (ch.drop (i+1)).flatten:=by
 have hi:i < ch.length:=(List.getElem?_eq_some_iff.1 h).1
 have hc:ch[i]=c:=(List.getElem?_eq_some_iff.1 h).2
 constructor
 ·conv=>lhs; rw [<- List.take_append_drop i ch]
  rw [List.flatten_append,List.drop_eq_getElem_cons hi,List.flatten_cons,hc,List.append_assoc]
 ·rw [List.set_eq_take_append_cons_drop,if_pos hi,List.flatten_append,List.flatten_cons,List.append_assoc]
theorem fill_run (place:Nat->Option (Nat×Nat)) (lens:List Nat) (hp:∀ i n,lens[i]?=some n->place i=some ((lens.take i).sum,n)) :
  ∀ (parts:List (Nat×Value)) (ch:List (List Value)) (K:List (List Value)->Prop),ch.map List.length=lens->setCh ch parts K ->
   ∃ ch',Instr.fill place ch.flatten.toArray parts=some ch'.flatten.toArray/\ch'.map List.length=lens/\K ch'
 | [],ch,K,hl,h=>⟨ch,rfl,hl,h⟩
 | (i,v) :: r,ch,K,hl,h=>by
  unfold setCh at h
  split at h
  ·rename_i c hc
   simp only [gd_iff,beq_iff_eq] at h
   obtain ⟨hvl,h⟩:=h
   have hlen:lens[i]?=some c.length:=by rw [<- hl,List.getElem?_map,hc]; rfl
   obtain ⟨f1,f2⟩:=flat_parts ch i c hc v.cells.toList
   have hpl:=hp i _ hlen
   have hs:(lens.take i).sum=((ch.take i).flatten).length:=by rw [<- hl,<- List.map_take,List.length_flatten]
   have hset:(ch.set i v.cells.toList).map List.length=lens:=by
    rw [List.map_set,hl,hvl]
    apply List.ext_getElem?
    intro j
    rw [List.getElem?_set]
    split
    ·rename_i e; subst e; rw [hlen]; simp [(List.getElem?_eq_some_iff.1 hlen).1]
    ·rfl
   obtain ⟨ch',e1,e2,hK⟩:=fill_run place lens hp r _ K hset h
   refine ⟨ch',?_,e2,hK⟩
   rw [<- e1]
   rw [Instr.fill,hpl]
   have hsz:v.cells.size=c.length:=by simpa using hvl
   have hfit:¬ ((lens.take i).sum+v.cells.size > ch.flatten.toArray.size):=by
    rw [hs,hsz,List.size_toArray,f1]
    simp
   simp only [hsz,bne_self_eq_false,Bool.false_or,decide_eq_true_eq]
   rw [if_neg (by rw [<- hsz]; simpa [hsz] using hfit)]
   congr 1
   rw [f1,f2,hs]
   have:=foldl_put ((ch.take i).flatten.length) v.cells.toList 0 (ch.take i).flatten c (ch.drop (i+1)).flatten (by simp) hvl.symm
   rw [<- this,<- Array.foldl_toList,Array.toList_zipIdx]
  ·exact h.elim
section
variable {P:Program} {w:World}
theorem zeroOf_run {t:TypeId} {z:List Value} (h:zeroOf P t=some z):∃ v,(zeroValue t).run P w=.ok v w/\v.cells.toList=z:=by
 unfold zeroOf at h
 cases hi:P.info? t with
 | none=>rw [hi] at h; cases h
 | some i =>
  rw [hi] at h
  simp only [Option.bind_some,Option.map_eq_some_iff] at h
  obtain ⟨v,hz,e⟩:=h
  refine ⟨v,?_,e⟩
  unfold zeroValue typeInfo
  simp [Sem.run_bind,program,Sem.run,Result.andThen,hi,hz]
theorem mapM_places (fs:List Field):∀ (sz:List Nat),sz=fs.map (fun f=>szOf P f.type)->sz.all (· != 0)=true ->
  (fs.mapM (fun f=>(do pure (f.offset,<- sizeOf f.type):Sem (Nat×Nat)))).run P w=.ok (fs.map fun f=>(f.offset,szOf P f.type)) w:=by
 induction fs with
 | nil=>intro _ _ _; simp
 | cons f fs ih =>
  intro sz e h
  subst e
  simp only [List.map_cons,List.all_cons,Bool.and_eq_true] at h
  rw [List.mapM_cons]
  simp only [Sem.run_bind,sz_run h.1,Result.andThen,Sem.run_pure,ih _ rfl h.2]
  simp
theorem offs_place:∀ (fs:List Field) (sz:List Nat) (o:Nat),offs.go fs sz o=true->∀ i n,sz[i]?=some n->∃ f,fs[i]?=some f/\f.offset=o+(sz.take i).sum
 | [],[],_,_,i,n,h=>by simp at h
 | f :: fs,m :: r,o,h,0,n,hn=>by
  simp only [offs.go,Bool.and_eq_true,beq_iff_eq] at h
  exact ⟨f,rfl,by simp [h.1]⟩
 | f :: fs,m :: r,o,h,i+1,n,hn=>by
  simp only [offs.go,Bool.and_eq_true,beq_iff_eq] at h
  obtain ⟨g,hg,e⟩:=offs_place fs r (o+m) h.2 i n (by simpa using hn)
  exact ⟨g,by simpa using hg,by rw [e]; simp; omega⟩
 | [],_ :: _,_,h,_,_,_=>by simp [offs.go] at h
 | _ :: _,[],_,h,_,_,_=>by simp [offs.go] at h
theorem vcBuild_run {t:TypeId} {parts:Array (Nat×Value)} {K:Value->Prop} (h:vcBuild P t parts.toList K):∃ v,(Instr.build t parts).run P w=.ok v w/\K v:=by
 unfold vcBuild at h
 split at h
 ·rename_i fs z hu hz
  simp only [gd_iff,beq_iff_eq] at h
  obtain ⟨h1,h2,h3,h⟩:=h
  obtain ⟨v,hv,hvz⟩:=zeroOf_run (w:=w) hz
  have hm:=mapM_places (P:=P) (w:=w) fs.toList _ rfl h1
  obtain ⟨ch',e1,_,hK⟩:=fill_run (fun i=>((fs.toList.map fun f=>(f.offset,szOf P f.type)).toArray)[i]?) (fs.toList.map fun f=>szOf P f.type) (fun i n hn=>by
   obtain ⟨f,hf,e⟩:=offs_place _ _ _ h2 i n hn
   simp only [Nat.zero_add] at e
   rw [<- e]
   have:n=szOf P f.type:=by
    rw [List.getElem?_map,hf] at hn
    simpa using hn.symm
   simp [hf,this]) parts.toList _ _ (splitBy_lens _ _ h3) h
  rw [splitBy_flatten _ _ h3] at e1
  refine ⟨_,?_,hK⟩
  unfold Instr.build
  have hfm:(fs.mapM (fun f=>(do pure (f.offset,<- sizeOf f.type):Sem (Nat×Nat)))).run P w=.ok ((fs.toList.map fun f=>(f.offset,szOf P f.type)).toArray) w:=by
   rw [Array.mapM_eq_mapM_toList]
   simp only [map_eq_pure_bind,Sem.run_bind,hm,Result.andThen,Sem.run_pure]
  have hz':v.cells=z.toArray:=by rw [<- hvz]
  simp only [Sem.run_bind,hv,run_underlying hu,Result.andThen,hfm,hz',e1,Sem.run_pure]
  rfl
 ·rename_i n e z hu hz
  simp only [gd_iff,beq_iff_eq] at h
  obtain ⟨h1,h3,h⟩:=h
  obtain ⟨v,hv,hvz⟩:=zeroOf_run (w:=w) hz
  have hsum:(List.replicate n (szOf P e)).sum=z.length:=by rw [List.sum_replicate_nat]; exact h3
  obtain ⟨ch',e1,_,hK⟩:=fill_run (fun i=>some (i * szOf P e,szOf P e)) (List.replicate n (szOf P e)) (fun i m hm=>by
   obtain ⟨hi,hm⟩:=List.getElem?_eq_some_iff.1 hm
   simp only [List.length_replicate] at hi
   simp only [List.getElem_replicate] at hm
   rw [List.take_replicate,List.sum_replicate_nat,Nat.min_eq_left (by omega),hm]) parts.toList _ _ (splitBy_lens _ _ hsum) h
  rw [splitBy_flatten _ _ hsum] at e1
  refine ⟨_,?_,hK⟩
  unfold Instr.build
  have hz':v.cells=z.toArray:=by rw [<- hvz]
  simp only [Sem.run_bind,hv,run_underlying hu,Result.andThen,sz_run h1,hz',e1,Sem.run_pure]
  rfl
 ·exact h.elim
end
def ifNil (x:Value) (K:Bool->Prop):Prop:=match x with | .nilIface=>K true | .iface _ _=>K false | _=>False
def isIfT (P:Program) (t:TypeId):Bool:=match P.underlying t with | some (.interface _)=>true | _=>false
def constB:Operand->Bool | .const _=>true | _=>false
def nilB:Value->Bool | .nilIface=>true | _=>false
def vcBinI (P:Program) (op:BinOp) (t:TypeId) (oy:Operand) (x y:Value) (K:Value->Prop):Prop :=
 vIf (isIfT P t && (constB oy && nilB y)) (match op with | .eql=>ifNil x (fun b=>K (.bool b)) | .neq=>ifNil x (fun b=>K (.bool !b)) | _=>False) (vcBin P op t x y K)
theorem ifNil_run {P:Program} {w:World} {t:TypeId} {ms:Array (String×TypeId)} (hu:P.underlying t=some (.interface ms)) {x:Value} {c:Value} {K:Bool->Prop} (h:ifNil x K) (op:BinOp) (hop:op=.eql\/op=.neq) (ox:Operand) :
  ∃ b,(do eqGuard op t ox (.const c) x .nilIface; binOp op t x .nilIface:Sem Value).run P w=.ok (.bool (if op=.eql then b else !b)) w/\K b:=by
 unfold ifNil at h
 split at h
 ·exact ⟨_,eq_of_in (fun d=>by simp [Op.equalIn,run_underlying hu]) op hop ox (.const c) (fun op=>guard_if _ _ _ _ _ _ (by rintro _ (rfl | rfl) <;> simp [eqGuard])) rfl rfl,h⟩
 ·exact ⟨_,eq_of_in (fun d=>by simp [Op.equalIn,run_underlying hu]) op hop ox (.const c) (fun op=>guard_if _ _ _ _ _ _ (by rintro _ (rfl | rfl) <;> rfl)) rfl rfl,h⟩
 ·exact h.elim
theorem vcBinI_run {P:Program} {w:World} {op:BinOp} {t:TypeId} {oy:Operand} {x y:Value} {K:Value->Prop} (h:vcBinI P op t oy x y K) (ox:Operand) :
  ∃ v,(do eqGuard op t ox oy x y; binOp op t x y:Sem Value).run P w=.ok v w/\K v:=by
 unfold vcBinI at h
 rw [vIf_iff] at h
 cases hb:(isIfT P t && (constB oy && nilB y)) with
 | false=>exact vcBin_run (h.2 hb) ox oy
 | true =>
  have h':=h.1 hb
  clear h
  simp only [Bool.and_eq_true] at hb
  obtain ⟨h1,h2,h3⟩:=hb
  obtain ⟨ms,hu⟩:∃ ms,P.underlying t=some (.interface ms):=by
   unfold isIfT at h1
   split at h1
   ·rename_i ms hu; exact ⟨ms,hu⟩
   ·cases h1
  obtain ⟨c,rfl⟩:∃ c,oy=.const c:=by
   cases oy with
   | const c=>exact ⟨c,rfl⟩
   | _=>cases h2
  have hy:y=.nilIface:=by
   cases y with
   | nilIface=>rfl
   | _=>cases h3
  subst hy
  split at h'
  ·obtain ⟨b,hr,hK⟩:=ifNil_run (w:=w) (c:=c) hu h' .eql (.inl rfl) ox
   exact ⟨_,hr,by simpa using hK⟩
  ·obtain ⟨b,hr,hK⟩:=ifNil_run (w:=w) (c:=c) hu h' .neq (.inr rfl) ox
   exact ⟨_,hr,by simpa using hK⟩
  ·exact h'.elim
def vcStill (P:Program) (ρ:Operand->Value) (w:World) (op:Op) (K:Value->Prop):Prop :=
 match op with
 | .move x | .assign x=>K (ρ x)
 | .pick c a b=>(match ρ c with | .bool bb=>vIf bb (K (ρ a)) (K (ρ b)) | _=>False)
 | .extract x i=>(match ρ x with | .tuple vs=>(match vs[i]? with | some v=>K v | none=>False) | _=>False)
 | .makeFunc fn f c=>K (.func fn (f.toList.map ρ).toArray (c.toList.map ρ).toArray)
 | .nilCheck x=>vcNil (ρ x) K
 | .fieldAddr s x f=>vcFA P s (ρ x) f K
 | .field s x f=>vcFd P s (ρ x) f K
 | .indexAddr t x i=>vcIxA P t (ρ x) (ρ i) K
 | .index t x i=>vcIx P t (ρ x) (ρ i) K
 | .load t a=>(match ρ a with | .pointer q=>dr q (fun b o=>vcLd P t w b o K) | _=>False)
 | .unOp op _ x=>vcUn op (ρ x) K
 | .binOp op t x y _=>vcBinI P op t y (ρ x) (ρ y) K
 | .convert s d x=>vcConv P s d (ρ x) K
 | .slice t x lo hi mx=>vcSl P t (ρ x) (lo.map ρ) (hi.map ρ) (mx.map ρ) K
 | .build t parts=>vcBuild P t (parts.toList.map fun (i,x)=>(i,ρ x)) K
 | .call { callee:=.builtin .len,args,argTypes }=>(match argTypes[0]?,args[0]? with | some t,some x=>vcLen P t (ρ x) K | _,_=>False)
 | .call { callee:=.builtin .cap,args,argTypes }=>(match argTypes[0]?,args[0]? with | some t,some x=>vcCap P t (ρ x) K | _,_=>False)
 | .call { callee:=.builtin .min,args,argTypes:=_ }=>vcMm true (args.toList.map ρ) K
 | .call { callee:=.builtin .max,args,argTypes:=_ }=>vcMm false (args.toList.map ρ) K
 | _=>False
section
variable {P:Program} {w:World}
theorem vcStill_run {ρ:Operand->Value} {o:Oper} {K:Value->Prop} (h:vcStill P ρ w o.op K):∃ v,(execOp ρ o).run P w=.ok (.value v) w/\K v:=by
 obtain ⟨dst,op,ty,pos,after,guard⟩:=o
 dsimp only at h
 unfold vcStill at h
 unfold execOp
 split at h
 ·exact ⟨_,rfl,h⟩
 ·exact ⟨_,rfl,h⟩
 ·split at h
  ·rename_i c a b _ bb e
   simp only [e,asBool]
   cases bb
   ·exact ⟨_,rfl,h⟩
   ·exact ⟨_,rfl,h⟩
  ·exact h.elim
 ·split at h
  ·rename_i x i _ vs e
   split at h
   ·rename_i v ev
    exact ⟨v,by simp [Instr.extract,e,ev],h⟩
   ·exact h.elim
  ·exact h.elim
 ·rename_i fn f c
  refine ⟨_,?_,h⟩
  have e1:(f.toList.map ρ).toArray=f.map ρ:=by rw [<- Array.toList_map]
  have e2:(c.toList.map ρ).toArray=c.map ρ:=by rw [<- Array.toList_map]
  rw [e1,e2]
  rfl
 ·rename_i x
  unfold vcNil at h
  split at h
  ·rename_i q e
   rw [dr_iff] at h
   obtain ⟨b,o,rfl,h⟩:=h
   exact ⟨_,by simp [e],h⟩
  ·rename_i f a b e
   exact ⟨_,by simp [e],h⟩
  ·exact h.elim
 ·obtain ⟨v,hv,hK⟩:=vcFA_run (w:=w) h; exact ⟨v,by simp [hv,Sem.run_bind],hK⟩
 ·obtain ⟨v,hv,hK⟩:=vcFd_run (w:=w) h; exact ⟨v,by simp [hv,Sem.run_bind],hK⟩
 ·obtain ⟨v,hv,hK⟩:=vcIxA_run (w:=w) h; exact ⟨v,by simp [hv,Sem.run_bind],hK⟩
 ·obtain ⟨v,hv,hK⟩:=vcIx_run (w:=w) h; exact ⟨v,by simp [hv,Sem.run_bind],hK⟩
 ·split at h
  ·rename_i q e
   rw [dr_iff] at h
   obtain ⟨b,o,rfl,h⟩:=h
   obtain ⟨v,hv,hK⟩:=vcLd_run h
   exact ⟨v,by simp [Instr.loadAt,Instr.sureAddr,e,hv,Sem.run_bind],hK⟩
  ·exact h.elim
 ·obtain ⟨v,hv,hK⟩:=vcUn_run (P:=P) (w:=w) h; exact ⟨v,by simp [hv,Sem.run_bind],hK⟩
 ·rename_i op t x y _
  obtain ⟨v,hv,hK⟩:=vcBinI_run (w:=w) h x
  refine ⟨v,?_,hK⟩
  simp only [Sem.run_bind] at hv ⊢
  rw [hv]; rfl
 ·obtain ⟨v,hv,hK⟩:=vcConv_run (w:=w) h; exact ⟨v,by simp [hv,Sem.run_bind],hK⟩
 ·obtain ⟨v,hv,hK⟩:=vcSl_run (w:=w) h; exact ⟨v,by simp [hv,Sem.run_bind],hK⟩
 ·rename_i t parts
  have e:parts.toList.map (fun (i,x)=>(i,ρ x))=(parts.map fun (i,x)=>(i,ρ x)).toList:=by simp
  rw [e] at h
  obtain ⟨v,hv,hK⟩:=vcBuild_run (w:=w) h; exact ⟨v,by simp [hv,Sem.run_bind],hK⟩
 ·rename_i args ts
  split at h
  ·rename_i t x ht hx
   obtain ⟨v,hv,hK⟩:=vcLen_run (w:=w) (ty:=ty) (ts:=ts) (xs:=args.map ρ) ht (by simp [hx]) h
   exact ⟨v,by simp [resolve,invoke,builtin,hv,Sem.run_bind],hK⟩
  ·exact h.elim
 ·rename_i args ts
  split at h
  ·rename_i t x ht hx
   obtain ⟨v,hv,hK⟩:=vcCap_run (w:=w) (ty:=ty) (ts:=ts) (xs:=args.map ρ) ht (by simp [hx]) h
   exact ⟨v,by simp [resolve,invoke,builtin,hv,Sem.run_bind],hK⟩
  ·exact h.elim
 ·rename_i args ts
  have e:args.toList.map ρ=(args.map ρ).toList:=by simp
  rw [e] at h
  obtain ⟨v,hv,hK⟩:=vcMm_run (P:=P) (w:=w) (ts:=ts) (ty:=ty) h
  simp only [if_true] at hv
  exact ⟨v,by simp [resolve,invoke,builtin,hv,Sem.run_bind],hK⟩
 ·rename_i args ts
  have e:args.toList.map ρ=(args.map ρ).toList:=by simp
  rw [e] at h
  obtain ⟨v,hv,hK⟩:=vcMm_run (P:=P) (w:=w) (ts:=ts) (ty:=ty) h
  simp only [Bool.false_eq_true,if_false] at hv
  exact ⟨v,by simp [resolve,invoke,builtin,hv,Sem.run_bind],hK⟩
 ·exact h.elim
end
def zeros (n:Nat) (z:List Value):List Value:=(List.replicate n z).flatten
theorem zeros_length (n:Nat) (z:List Value):(zeros n z).length=n * z.length:=by simp [zeros]
theorem zeros_get (z:List Value):∀ (n i:Nat),i < n * z.length->(zeros n z)[i]?=z[i % z.length]?
 | 0,i,h=>by simp at h
 | n+1,i,h=>by
  have e:zeros (n+1) z=z ++ zeros n z:=by simp [zeros,List.replicate_succ]
  rw [e]
  by_cases hi:i < z.length
  ·rw [List.getElem?_append_left hi,Nat.mod_eq_of_lt hi]
  ·rw [List.getElem?_append_right (by omega),zeros_get z n (i - z.length) (by rw [Nat.succ_mul] at h; omega)]
   have:=Nat.mod_eq_sub_mod (show i >= z.length by omega)
   rw [this]
theorem zeros_range (n:Nat) (z:List Value):(Array.range (n * z.length)).map (fun i=>z.toArray[i % z.length]!)=(zeros n z).toArray:=by
 apply Array.ext_getElem?
 intro i
 by_cases h:i < n * z.length
 ·have hz:i % z.length < z.length:=by
   rcases Nat.eq_zero_or_pos z.length with h0 | h0
   ·rw [h0] at h; omega
   ·exact Nat.mod_lt _ h0
  have h2:=zeros_get z n i h
  simp only [Array.getElem?_map,List.getElem?_toArray,h2]
  simp [h,hz]
 ·have h2:=zeros_length n z
  rw [Array.getElem?_eq_none (by simp; omega),Array.getElem?_eq_none (by simp [h2]; omega)]
theorem zeroCells_eq (n:Nat) (z:List Value):Builtin.zeroCells z.toArray n=(zeros n z).toArray:=by
 unfold Builtin.zeroCells
 rw [<- zeros_range]
 simp
def srcOf (w:World) (sz:Nat) (x:Value) (m:Nat) (vs:List Value):Prop :=
 match x with
 | .slice A n _=>n=m/\vs.length=m * sz/\(m ≠ 0->dr A (fun b o=>cellsAt w b o vs))
 | .string s=>sz=1/\m=s.size/\vs=s.data.toList.map bv
 | _=>False
def vcAlloc (P:Program) (w:World) (t:TypeId) (K:Value->World->Prop):Prop :=
 match zeroOf P t with
 | some z=>nw w z t (fun b w1=>K (.pointer (some ⟨b,0,none⟩)) w1)
 | none=>False
def vcBox (w:World) (t:TypeId) (x:Value) (K:Value->World->Prop):Prop :=
 nw w x.cells.toList t (fun b w1=>K (.pointer (some ⟨b,0,none⟩)) w1)
def vcBuildSl (P:Program) (w:World) (t:TypeId) (len:Nat) (parts:List (Nat×Value)) (K:Value->World->Prop):Prop :=
 match P.underlying t with
 | some (.slice e) =>
  (match zeroOf P e with
  | some z=>gd (szOf P e != 0) (gd (z.length == szOf P e) (gd (decide (len * szOf P e<=16777216)) (setCh (List.replicate len z) parts (fun ch=>nw w ch.flatten e (fun b w1=>K (.slice (some ⟨b,0,none⟩) len len) w1)))))
  | none=>False)
 | _=>False
def vcSto (P:Program) (w:World) (t:TypeId) (a x:Value) (K:World->Prop):Prop :=
 match a with
 | .pointer q=>dr q (fun b o=>gd (szOf P t != 0) (gd (x.cells.toList.length == szOf P t) (st w b o x.cells.toList K)))
 | _=>False
def vcMake (P:Program) (w:World) (t:TypeId) (l c:Value) (K:Value->World->Prop):Prop :=
 match P.underlying t,l,c with
 | some (.slice e),.int _ l,.int _ c =>
  (match zeroOf P e with
  | some z=>gd (szOf P e != 0) (gd (z.length == szOf P e) (gd (decide (0<=l)) (gd (decide (l<=c)) (gd (decide (c * byOf P e<=281474976710656/\c<=9223372036854775807)) (nw w (zeros c.toNat z) e (fun b w1=>K (.slice (some ⟨b,0,none⟩) l.toNat c.toNat) w1))))))
  | none=>False)
 | _,_,_=>False
def app (w:World) (sz bytes:Nat) (z:List Value) (e:TypeId) (A:Option Addr) (n c:Nat) (x:Value) (K:Option Addr->Nat->Nat->World->Prop):Prop :=
 ∃ m vs,srcOf w sz x m vs/\(∀ v ∈ vs,v.oneCell'=true)/\(n+m) * bytes<=140737488355328/\n+m<=9223372036854775807 /\
  (n+m<=c->(m=0->K A (n+m) c w)/\(m ≠ 0->dr A (fun b o=>st w b (o+n * sz) vs (fun w1=>K A (n+m) c w1)))) /\
  (c < n+m->∃ old,srcOf w sz (.slice A n c) n old/\∀ cap,n+m<=cap->cap<=9223372036854775807->nw w.drew (old ++ vs ++ zeros (cap - (n+m)) z) e (fun b w1=>K (some ⟨b,0,none⟩) (n+m) cap w1))
def appZ (w:World) (sz bytes:Nat) (z:List Value) (e:TypeId) (A:Option Addr) (n c:Nat) (x:Int) (K:Option Addr->Nat->Nat->World->Prop):Prop :=
 0<=IntKind.wrap .i64 x/\IntKind.wrap .i64 x * bytes<=281474976710656/\(∀ v ∈ z,v.oneCell'=true)/\(n+(IntKind.wrap .i64 x).toNat) * bytes<=140737488355328/\n+(IntKind.wrap .i64 x).toNat<=9223372036854775807 /\
  (n+(IntKind.wrap .i64 x).toNat<=c->((IntKind.wrap .i64 x).toNat=0->K A (n+(IntKind.wrap .i64 x).toNat) c w)/\((IntKind.wrap .i64 x).toNat ≠ 0->dr A (fun b o=>st w b (o+n * sz) (zeros (IntKind.wrap .i64 x).toNat z) (fun w1=>K A (n+(IntKind.wrap .i64 x).toNat) c w1)))) /\
  (c < n+(IntKind.wrap .i64 x).toNat->∃ old,srcOf w sz (.slice A n c) n old/\∀ cap,n+(IntKind.wrap .i64 x).toNat<=cap->cap<=9223372036854775807->nw w.drew (old ++ zeros (IntKind.wrap .i64 x).toNat z ++ zeros (cap - (n+(IntKind.wrap .i64 x).toNat)) z) e (fun b w1=>K (some ⟨b,0,none⟩) (n+(IntKind.wrap .i64 x).toNat) cap w1))
def vcApp (P:Program) (w:World) (t t2:TypeId) (s x:Value) (K:Value->World->Prop):Prop :=
 match P.underlying t,s with
 | some (.slice e),.slice A n c =>
  (match zeroOf P e,P.underlying t2 with
  | some z,some (.slice _)=>gd (szOf P e != 0) (gd (z.length == szOf P e) (app w (szOf P e) (byOf P e) z e A n c x (fun A n c w1=>K (.slice A n c) w1)))
  | some z,some .string=>gd (szOf P e != 0) (gd (z.length == szOf P e) (app w (szOf P e) (byOf P e) z e A n c x (fun A n c w1=>K (.slice A n c) w1)))
  | some z,some (.int _)=>(match x with | .int _ i=>gd (szOf P e != 0) (gd (z.length == szOf P e) (appZ w (szOf P e) (byOf P e) z e A n c i (fun A n c w1=>K (.slice A n c) w1))) | _=>False)
  | _,_=>False)
 | _,_=>False
def cpy (w:World) (sz:Nat) (A:Option Addr) (n:Nat) (x:Value) (K:Nat->World->Prop):Prop :=
 ∃ m vs,srcOf w sz x m vs/\(min m n=0->K 0 w)/\(min m n ≠ 0->dr A (fun b o=>st w b o (vs.take (min m n * sz)) (fun w1=>K (min m n) w1)))
def vcCopy (P:Program) (w:World) (t:TypeId) (d x:Value) (K:Value->World->Prop):Prop :=
 match P.underlying t,d with
 | some (.slice e),.slice A n _=>gd (szOf P e != 0) (cpy w (szOf P e) A n x (fun n w1=>K (.int .i64 n) w1))
 | _,_=>False
def vcClear (P:Program) (w:World) (t:TypeId) (d:Value) (K:World->Prop):Prop :=
 match P.underlying t,d with
 | some (.slice e),.slice A n _ =>
  (match zeroOf P e with
  | some z=>gd (z.length == szOf P e) (vIf (n == 0) (K w) (dr A (fun b o=>st w b o (zeros n z) K)))
  | none=>False)
 | _,_=>False
section
variable {P:Program} {w:World}
theorem newRow_run (e:TypeId) (cs:Array Value):(newRow e cs).run P w=.ok ⟨w.heap.size,0,none⟩ (w.alloc (.cells cs e)):=by
 rfl
theorem vcAlloc_run {t:TypeId} {K:Value->World->Prop} (h:vcAlloc P w t K):∃ v w',(Instr.alloc t true (.tuple #[])).run P w=.ok v w'/\K v w':=by
 unfold vcAlloc at h
 split at h
 ·rename_i z hz
  obtain ⟨v,hv,hvz⟩:=zeroOf_run (w:=w) hz
  refine ⟨_,_,?_,h⟩
  have:v.cells=z.toArray:=by rw [<- hvz]
  simp only [Instr.alloc,Sem.run_bind,hv,Result.andThen,newVar,newRow_run,this]
  simp
 ·exact h.elim
theorem vcBox_run {t:TypeId} {x:Value} {K:Value->World->Prop} (h:vcBox w t x K):∃ v w',(Instr.box t x).run P w=.ok v w'/\K v w':=by
 refine ⟨_,_,?_,h⟩
 simp only [Instr.box,Sem.run_bind,Result.andThen,newVar,newRow_run]
 simp
theorem vcBuildSl_run {t:TypeId} {len:Nat} {parts:Array (Nat×Value)} {K:Value->World->Prop} (h:vcBuildSl P w t len parts.toList K):∃ v w',(Instr.buildSlice t len parts).run P w=.ok v w'/\K v w':=by
 unfold vcBuildSl at h
 split at h
 ·rename_i e hu
  split at h
  ·rename_i z hz
   simp only [gd_iff,beq_iff_eq,decide_eq_true_eq] at h
   obtain ⟨h1,h2,h3,h⟩:=h
   obtain ⟨v,hv,hvz⟩:=zeroOf_run (w:=w) hz
   obtain ⟨ch',e1,_,hK⟩:=fill_run (fun i=>some (i * szOf P e,szOf P e)) (List.replicate len (szOf P e)) (fun i m hm=>by
    obtain ⟨hi,hm⟩:=List.getElem?_eq_some_iff.1 hm
    simp only [List.length_replicate] at hi
    simp only [List.getElem_replicate] at hm
    rw [List.take_replicate,List.sum_replicate_nat,Nat.min_eq_left (by omega),hm]) parts.toList _ _ (by simp [h2]) h
   refine ⟨_,_,?_,hK⟩
   have hz':v.cells=z.toArray:=by rw [<- hvz]
   have hr:=zeros_range len z
   rw [h2] at hr
   have e2:((List.replicate len z).flatten).toArray=(zeros len z).toArray:=rfl
   rw [e2] at e1
   unfold Instr.buildSlice
   have h3':¬ (len * szOf P e > 2 ^ 24):=by omega
   simp only [Sem.run_bind,run_underlying hu,Result.andThen,sz_run h1,if_neg h3']
   by_cases h0:len * szOf P e=0
   ·have hzn:zeros len z=[]:=List.length_eq_zero_iff.1 (by rw [zeros_length,h2]; exact h0)
    rw [hzn] at e1
    simp only [if_pos h0,Sem.run_bind,Sem.run_pure,Result.andThen]
    rw [h0]
    have er:∀ f:Nat->Value,(Array.range 0).map f=#[]:=fun f=>by simp
    simp only [er]
    have e1':Instr.fill (fun i=>some (i * szOf P e,szOf P e)) #[] parts.toList=some ch'.flatten.toArray:=e1
    simp only [e1',Sem.run_bind,newRow_run,Result.andThen,Sem.run_pure]
   ·simp only [if_neg h0,Sem.run_bind,hv,Sem.run_pure,Result.andThen,hz',List.size_toArray,h2,hr,e1,newRow_run]
  ·exact h.elim
 ·exact h.elim
theorem vcSto_run {t:TypeId} {a x:Value} {K:World->Prop} (h:vcSto P w t a x K):∃ w',(Instr.storeAt t a x).run P w=.ok () w'/\K w':=by
 unfold vcSto at h
 split at h
 ·rename_i q
  simp only [dr_iff,gd_iff,beq_iff_eq] at h
  obtain ⟨b,o,rfl,h1,h2,⟨c,e,lo,hi,hb,hl,hf⟩,ho,hK⟩:=h
  refine ⟨_,?_,hK⟩
  have hs:=st_run (P:=P) b o x.cells.toList 0 w c e lo hi hb (by simpa using hl) (by simpa using hf) ho
  have h2':¬ (x.cells.size ≠ szOf P t):=by simpa using h2
  unfold Instr.storeAt storeVar
  simp only [Instr.sureAddr,Sem.run_bind,Sem.run_pure,Result.andThen,sz_run h1,if_neg h2']
  simpa using hs
 ·exact h.elim
theorem info_of_zero {e:TypeId} {z:List Value} (h:zeroOf P e=some z):∃ i v,P.info? e=some i/\i.zero=some v/\v.cells=z.toArray/\szOf P e=i.size/\byOf P e=i.bytes:=by
 unfold zeroOf at h
 cases hi:P.info? e with
 | none=>rw [hi] at h; cases h
 | some i =>
  rw [hi] at h
  simp only [Option.bind_some,Option.map_eq_some_iff] at h
  obtain ⟨v,hz,e1⟩:=h
  exact ⟨i,v,rfl,hz,by rw [<- e1],by simp [szOf,hi],by simp [byOf,hi]⟩
theorem src_len {sz m:Nat} {x:Value} {vs:List Value} (h:srcOf w sz x m vs):(Builtin.lenOf x).run P w=.ok m w/\vs.length=m * sz:=by
 unfold srcOf at h
 split at h
 ·obtain ⟨rfl,h2,_⟩:=h; exact ⟨by simp [Builtin.lenOf],h2⟩
 ·obtain ⟨h1,rfl,rfl⟩:=h; exact ⟨by simp [Builtin.lenOf],by rw [h1,List.length_map]; simp⟩
 ·exact h.elim
theorem src_first {sz m k:Nat} {x:Value} {vs:List Value} (h:srcOf w sz x m vs) (hk:k<=m) (w':World) (hw:∀ b o,cellAt w' b o=cellAt w b o) :
  (Builtin.firstCells sz k x).run P w'=.ok (vs.take (k * sz)).toArray w':=by
 unfold srcOf at h
 split at h
 ·rename_i A n c
  obtain ⟨rfl,h2,h3⟩:=h
  by_cases h0:n=0
  ·subst h0
   have hk0:k=0:=by omega
   subst hk0
   have:vs=[]:=List.length_eq_zero_iff.1 (by simpa using h2)
   subst this
   cases A <;> simp [Builtin.firstCells,loadCells,loadCellsFrom]
  ·have h3:=h3 h0
   rw [dr_iff] at h3
   obtain ⟨b,o,rfl,hc⟩:=h3
   refine run_firstCells_some w' sz k ⟨b,o,none⟩ n c _ ?_ ?_
   ·rw [List.length_take,h2]; exact Nat.min_eq_left (Nat.mul_le_mul_right _ hk)
   ·intro j v hj
    rw [add_none]
    rw [List.getElem?_take] at hj
    split at hj
    ·exact (hw b (o+j)).trans (hc j v hj)
    ·cases hj
 ·rename_i s
  obtain ⟨rfl,rfl,rfl⟩:=h
  simp only [Builtin.firstCells,Sem.run_pure,Nat.mul_one]
  congr 1
  apply Array.toList_inj.1
  simp only [Array.toList_map,ByteArray.data_extract]
  rw [Array.toList_extract]
  simp [List.extract]
  rfl
 ·exact h.elim
theorem app_run {t t2 ty e:TypeId} {A:Option Addr} {n c:Nat} {z:List Value} {x:Value} {K:Option Addr->Nat->Nat->World->Prop} (hu:P.underlying t=some (.slice e)) (hz:zeroOf P e=some z)
  (hd:(∃ e2,P.underlying t2=some (.slice e2))\/P.underlying t2=some .string) (hs:szOf P e ≠ 0) (hzl:z.length=szOf P e) (h:app w (szOf P e) (byOf P e) z e A n c x K) :
  ∃ A' n' c' w',(Builtin.append_ #[t,t2] ty #[.slice A n c,x]).run P w=.ok (.slice A' n' c') w'/\K A' n' c' w':=by
 obtain ⟨i,zv,hi,hiz,hzv,hsz,hby⟩:=info_of_zero hz
 rw [hby] at h
 obtain ⟨m,vs,hsrc,ho,hb,h63,hroom,hgrow⟩:=h
 have hsr:∀ w,(sizeOf e).run P w=.ok (szOf P e) w:=fun w=>sz_run (by simpa using hs)
 have hlen:=(src_len (P:=P) hsrc).1
 have hvl:=(src_len (P:=P) hsrc).2
 have hfs:∀ w':World,(∀ b o,cellAt w' b o=cellAt w b o)->(Builtin.firstCells (szOf P e) m x).run P w'=.ok vs.toArray w':=fun w' hw=>by
  have:=src_first (P:=P) hsrc (Nat.le_refl m) w' hw
  rwa [<- hvl,List.take_length] at this
 have hti:∀ w,(typeInfo e).run P w=.ok i w:=fun w=>by simp [typeInfo,Sem.run_bind,program,Sem.run,Result.andThen,hi]
 have hzr:∀ w,(zeroValue e).run P w=.ok zv w:=fun w=>by simp [zeroValue,Sem.run_bind,hti,Result.andThen,hiz]
 by_cases hr:n+m<=c
 ·by_cases hm:m=0
  ·have hv0:vs=[]:=List.length_eq_zero_iff.1 (by rw [hvl,hm]; simp)
   refine ⟨A,n+m,c,w,?_,(hroom hr).1 hm⟩
   have hf:=hfs w (fun _ _=>rfl)
   rw [hv0] at hf
   rcases hd with ⟨e2,hd⟩ | hd <;> cases A <;> simp [Builtin.append_,run_underlying hu,run_underlying hd,hsr,hlen,hf,hr,storeCells,Result.andThen]
  ·have hst:=(hroom hr).2 hm
   rw [dr_iff] at hst
   obtain ⟨b,o,rfl,⟨cc,ee,lo,hi',hcell,hl,hfz⟩,ho',hK⟩:=hst
   have hs':=st_run (P:=P) b (o+n * szOf P e) vs 0 w cc ee lo hi' hcell (by simpa using hl) (by simpa using hfz) ho'
   have hf:=hfs w (fun _ _=>rfl)
   refine ⟨_,_,_,_,?_,hK⟩
   rcases hd with ⟨e2,hd⟩ | hd <;> simp [Builtin.append_,run_underlying hu,run_underlying hd,hsr,hlen,hf,hr,add_none,hs',Result.andThen]
 ·obtain ⟨old,hold,hK⟩:=hgrow (by omega)
  have hfo:=src_first (P:=P) hold (Nat.le_refl n) w.drew (fun _ _=>rfl)
  rw [<- (src_len (P:=P) hold).2,List.take_length] at hfo
  have hf:=hfs w.drew (fun _ _=>rfl)
  have h48:¬ (281474976710656 < Builtin.nextslicecap (n+m) c * i.bytes):=by
   have:=growslice_fits (need:=n+m) (old:=c) (bytes:=i.bytes) (by omega) hb
   omega
  have h63':¬ (9223372036854775807 < ((n:Int)+(m:Int))):=by omega
  have hg1:=grownCap_ge w (n+m) c e
  have hg2:=grownCap_le_maxLen w (n+m) c e (by unfold maxLen; omega)
  unfold maxLen at hg2
  refine ⟨_,_,_,_,?_,hK (grownCap w (n+m) c e) hg1 hg2⟩
  have hn:¬ (n+m<=c):=hr
  have hzz:∀ k,Builtin.zeroCells zv.cells k=(zeros k z).toArray:=fun k=>by rw [hzv,zeroCells_eq]
  rcases hd with ⟨e2,hd⟩ | hd
  ·simp [Builtin.append_,run_underlying hu,run_underlying hd,hsr,hlen,hn,hti,hzr,h63',h48,Question.forced,hf,hfo,newRow_run,grownCap,hzz,Result.andThen]
  ·simp [Builtin.append_,run_underlying hu,run_underlying hd,hsr,hlen,hn,hti,hzr,h63',h48,Question.forced,hf,hfo,newRow_run,grownCap,hzz,Result.andThen]
theorem appZ_run {t t2 ty e:TypeId} {A:Option Addr} {n c:Nat} {z:List Value} {x:Int} {kx k2:IntKind} {K:Option Addr->Nat->Nat->World->Prop} (hu:P.underlying t=some (.slice e)) (hz:zeroOf P e=some z)
  (hd:P.underlying t2=some (.int k2)) (hs:szOf P e ≠ 0) (hzl:z.length=szOf P e) (h:appZ w (szOf P e) (byOf P e) z e A n c x K) :
  ∃ A' n' c' w',(Builtin.append_ #[t,t2] ty #[.slice A n c,.int kx x]).run P w=.ok (.slice A' n' c') w'/\K A' n' c' w':=by
 obtain ⟨i,zv,hi,hiz,hzv,hsz,hby⟩:=info_of_zero hz
 rw [hby] at h
 unfold appZ at h
 generalize hl:IntKind.wrap .i64 x=l at h
 obtain ⟨h0,h48,ho,hb,h63,hroom,hgrow⟩:=h
 generalize hm':l.toNat=m at h0 h48 ho hb h63 hroom hgrow
 have hlm:l=(m:Int):=by omega
 subst hlm
 clear hm'
 have hsr:∀ w,(sizeOf e).run P w=.ok (szOf P e) w:=fun w=>sz_run (by simpa using hs)
 have hti:∀ w,(typeInfo e).run P w=.ok i w:=fun w=>by simp [typeInfo,Sem.run_bind,program,Sem.run,Result.andThen,hi]
 have hzr:∀ w,(zeroValue e).run P w=.ok zv w:=fun w=>by simp [zeroValue,Sem.run_bind,hti,Result.andThen,hiz]
 have hzz:∀ k,Builtin.zeroCells zv.cells k=(zeros k z).toArray:=fun k=>by rw [hzv,zeroCells_eq]
 have hn0:¬ ((m:Int) < 0):=by omega
 have hn48:¬ ((m:Int) * (i.bytes:Int) > 281474976710656):=by omega
 by_cases hr:n+m<=c
 ·by_cases hm:m=0
  ·refine ⟨A,n+m,c,w,?_,(hroom hr).1 hm⟩
   subst hm
   have hr':n<=c:=by omega
   have hr2:¬ c < n:=by omega
   simp only [Int.ofNat_zero] at hl hn0 hn48
   cases A <;> simp [Builtin.append_,run_underlying hu,run_underlying hd,hsr,asInt,asIntOf,hl,hn0,hti,hn48,storeCells,Result.andThen,hr',hr2]
  ·have hst:=(hroom hr).2 hm
   rw [dr_iff] at hst
   obtain ⟨b,o,rfl,⟨cc,ee,lo,hi',hcell,hl',hfz⟩,ho',hK⟩:=hst
   have hs':=st_run (P:=P) b (o+n * szOf P e) (zeros m z) 0 w cc ee lo hi' hcell (by simpa using hl') (by simpa using hfz) ho'
   refine ⟨_,_,_,_,?_,hK⟩
   have hms:¬ (m * szOf P e=0):=Nat.mul_ne_zero hm hs
   simp [Builtin.append_,run_underlying hu,run_underlying hd,hsr,asInt,asIntOf,hl,hn0,hti,hn48,Result.andThen,hr,hms,hzr,hzz,add_none,hs']
 ·obtain ⟨old,hold,hK⟩:=hgrow (by omega)
  have hfo:=src_first (P:=P) hold (Nat.le_refl n) w.drew (fun _ _=>rfl)
  rw [<- (src_len (P:=P) hold).2,List.take_length] at hfo
  have h48':¬ (281474976710656 < Builtin.nextslicecap (n+m) c * i.bytes):=by
   have:=growslice_fits (need:=n+m) (old:=c) (bytes:=i.bytes) (by omega) hb
   omega
  have h63':¬ (9223372036854775807 < ((n:Int)+(m:Int))):=by omega
  have hg1:=grownCap_ge w (n+m) c e
  have hg2:=grownCap_le_maxLen w (n+m) c e (by unfold maxLen; omega)
  unfold maxLen at hg2
  refine ⟨_,_,_,_,?_,hK (grownCap w (n+m) c e) hg1 hg2⟩
  have hif:∀ u:World,(if m * szOf P e=0 then Result.ok #[] u else Result.ok (zeros m z).toArray u)=Result.ok (zeros m z).toArray u:=fun u=>by
   split
   ·rename_i h00
    have hm0:m=0:=by
     rcases Nat.mul_eq_zero.1 h00 with h | h
     ·exact h
     ·exact absurd h hs
    subst hm0
    simp [zeros]
   ·rfl
  simp [Builtin.append_,run_underlying hu,run_underlying hd,hsr,asInt,asIntOf,hl,hn0,hti,hn48,hr,hif,hzr,h63',h48',Question.forced,hfo,newRow_run,grownCap,hzz,Result.andThen]
theorem vcApp_run {t t2 ty:TypeId} {s x:Value} {K:Value->World->Prop} (h:vcApp P w t t2 s x K):∃ v w',(Builtin.append_ #[t,t2] ty #[s,x]).run P w=.ok v w'/\K v w':=by
 unfold vcApp at h
 split at h
 ·rename_i e A n c hu
  split at h
  ·rename_i z e2 hz hd
   simp only [gd_iff,beq_iff_eq] at h
   obtain ⟨h1,h2,h⟩:=h
   obtain ⟨A',n',c',w',hr,hK⟩:=app_run (ty:=ty) hu hz (.inl ⟨_,hd⟩) (by simpa using h1) h2 h
   exact ⟨_,_,hr,hK⟩
  ·rename_i z hz hd
   simp only [gd_iff,beq_iff_eq] at h
   obtain ⟨h1,h2,h⟩:=h
   obtain ⟨A',n',c',w',hr,hK⟩:=app_run (ty:=ty) hu hz (.inr hd) (by simpa using h1) h2 h
   exact ⟨_,_,hr,hK⟩
  ·rename_i z k2 hz hd
   split at h
   ·simp only [gd_iff,beq_iff_eq] at h
    obtain ⟨h1,h2,h⟩:=h
    obtain ⟨A',n',c',w',hr,hK⟩:=appZ_run (ty:=ty) hu hz hd (by simpa using h1) h2 h
    exact ⟨_,_,hr,hK⟩
   ·exact h.elim
  ·exact h.elim
 ·exact h.elim
theorem vcCopy_run {t t2 ty:TypeId} {d x:Value} {K:Value->World->Prop} (h:vcCopy P w t d x K):∃ v w',(Builtin.copy_ #[t,t2] ty #[d,x]).run P w=.ok v w'/\K v w':=by
 unfold vcCopy at h
 split at h
 ·rename_i e A n c hu
  simp only [gd_iff] at h
  obtain ⟨h1,m,vs,hsrc,h0,hS⟩:=h
  have hlen:=(src_len (P:=P) hsrc).1
  have hvl:=(src_len (P:=P) hsrc).2
  have hf:=src_first (P:=P) (k:=min m n) hsrc (Nat.min_le_left _ _) w (fun _ _=>rfl)
  have hmin:Nat.min m n=min m n:=rfl
  by_cases hm:min m n=0
  ·refine ⟨_,_,?_,h0 hm⟩
   rw [hm] at hf
   simp only [Nat.zero_mul,List.take_zero] at hf
   unfold Builtin.copy_
   cases A <;> simp [run_underlying hu,hlen,sz_run h1,hmin,hm,hf,storeCells,goInt,Result.andThen]
  ·have hS:=hS hm
   rw [dr_iff] at hS
   obtain ⟨b,o,rfl,⟨cc,ee,lo,hi',hcell,hl,hfz⟩,ho',hK⟩:=hS
   have hs':=st_run (P:=P) b o _ 0 w cc ee lo hi' hcell (by simpa using hl) (by simpa using hfz) ho'
   refine ⟨_,_,?_,hK⟩
   unfold Builtin.copy_
   simp [run_underlying hu,hlen,sz_run h1,hmin,hf,hs',goInt,Result.andThen]
 ·exact h.elim
theorem vcMake_run {t:TypeId} {l c:Value} {K:Value->World->Prop} (h:vcMake P w t l c K):∃ v w',(Instr.makeSlice t l c).run P w=.ok v w'/\K v w':=by
 unfold vcMake at h
 split at h
 ·rename_i e k1 l k2 c hu
  split at h
  ·rename_i z hz
   simp only [gd_iff,beq_iff_eq,decide_eq_true_eq] at h
   obtain ⟨h1,h2,h3,h4,⟨h5,h6⟩,hK⟩:=h
   obtain ⟨i,zv,hi,hiz,hzv,hsz,hby⟩:=info_of_zero hz
   have hti:∀ w,(typeInfo e).run P w=.ok i w:=fun w=>by simp [typeInfo,Sem.run_bind,program,Sem.run,Result.andThen,hi]
   have hm:=run_make (P:=P) w t e i zv hu hi hiz k1 k2 l c h3 h4 (by rw [hby] at h5; rw [Int.mul_comm]; exact h5) (by omega)
   refine ⟨_,_,hm,?_⟩
   have hmc:madeCells zv.cells (c.toNat * i.size)=(zeros c.toNat z).toArray:=by
    unfold madeCells
    rw [<- zeros_range,hzv,<- hsz,h2]
    simp [h2]
   rw [hmc]
   exact hK
  ·exact h.elim
 ·exact h.elim
theorem vcClear_run {t ty:TypeId} {d:Value} {K:World->Prop} (h:vcClear P w t d K):∃ w',(Builtin.clear_ #[t] ty #[d]).run P w=.ok (.tuple #[]) w'/\K w':=by
 unfold vcClear at h
 split at h
 ·rename_i e A n c hu
  split at h
  ·rename_i z hz
   simp only [gd_iff,beq_iff_eq,vIf_iff] at h
   obtain ⟨h1,h0,hS⟩:=h
   obtain ⟨v,hv,hvz⟩:=zeroOf_run (w:=w) hz
   have hvz':v.cells=z.toArray:=by rw [<- hvz]
   by_cases hn:n=0
   ·subst hn
    refine ⟨w,?_,h0 rfl⟩
    unfold Builtin.clear_
    cases A <;> simp [run_underlying hu,Result.andThen]
   ·have hS:=hS (by simpa using hn)
    rw [dr_iff] at hS
    obtain ⟨b,o,rfl,⟨cc,ee,lo,hi',hcell,hl,hfz⟩,ho',hK⟩:=hS
    have hs':=st_run (P:=P) b o _ 0 w cc ee lo hi' hcell (by simpa using hl) (by simpa using hfz) ho'
    refine ⟨_,?_,hK⟩
    unfold Builtin.clear_
    simp [run_underlying hu,hv,hvz',zeroCells_eq,hs',Result.andThen]
  ·exact h.elim
 ·exact h.elim
def s2b (w:World) (e:TypeId) (s:ByteArray) (K:Nat->Nat->World->Prop):Prop :=
 ∀ cap,s.size<=cap->cap<=9223372036854775807 ->
  K w.heap.size cap (w.drew.alloc (.cells (s.data.toList.map bv ++ List.replicate (cap - s.size) (Value.int .u8 0)).toArray e (cap,cap+1)))
def vcS2B (w:World) (e:TypeId) (s:ByteArray) (K:Value->World->Prop):Prop:=s2b w e s (fun b cap w1=>K (.slice (some ⟨b,0,none⟩) s.size cap) w1)
def b2s (w:World) (A:Option Addr) (n:Nat) (K:ByteArray->Prop):Prop :=
 (n=0->K ⟨#[]⟩)/\(n ≠ 0->dr A (fun b o=>∃ l:List UInt8,l.length=n/\cellsAt w b o (l.map bv)/\K ⟨l.toArray⟩))
def vcB2S (w:World) (x:Value) (K:ByteArray->Prop):Prop :=
 match x with
 | .slice A n _=>b2s w A n K
 | _=>False
def mkS (w:World) (b:Nat) (K:World->Prop):Prop:=∃ c e f,w.heap[b]?=some (.cells c e f)/\K (w.freeze ⟨b,c.size,none⟩ 1)
def vcCv (P:Program) (w:World) (s d:TypeId) (x:Value) (K:Value->World->Prop):Prop :=
 match P.underlying s,P.underlying d,x with
 | some .string,some (.slice e),.string s=>(match P.underlying e with | some (.int .u8)=>gd (decide (s.size<=9223372036854775806)) (vcS2B w e s K) | _=>False)
 | some (.slice e),some .string,x=>(match P.underlying e with | some (.int .u8)=>vcB2S w x (fun s=>K (.string s) w) | _=>False)
 | some (.slice _),some (.slice e),.slice (some a) n c=>(match P.underlying e with | some (.int .u8)=>gd (s == d) (mkS w a.block (fun w1=>K (.slice (some a) n c) w1)) | _=>False)
 | _,_,_=>vcConv P s d x (fun v=>K v w)
theorem vcCv_run {s d:TypeId} {x:Value} {K:Value->World->Prop} (h:vcCv P w s d x K):∃ v w',(convert s d x).run P w=.ok v w'/\K v w':=by
 unfold vcCv at h
 split at h
 ·rename_i e s' hs hd
  split at h
  ·rename_i he
   simp only [gd_iff,decide_eq_true_eq] at h
   obtain ⟨h1,h⟩:=h
   have hg1:=grownCap_ge w s'.size 0 e
   have hg2:=grownCap_le_maxLen w s'.size 0 e (by unfold maxLen; omega)
   unfold maxLen at hg2
   refine ⟨_,_,run_bytes_of_string w s d e s' hs hd he,?_⟩
   have hK:=h (grownCap w s'.size 0 e) hg1 hg2
   have hb:bytesRow s' (grownCap w s'.size 0 e)=(s'.data.toList.map bv ++ List.replicate (grownCap w s'.size 0 e - s'.size) (Value.int .u8 0)).toArray:=by
    unfold bytesRow
    apply Array.toList_inj.1
    simp
    exact fun _ _=>rfl
   have hsz:(bytesRow s' (grownCap w s'.size 0 e)).size=grownCap w s'.size 0 e:=by
    rw [hb]; simp; omega
   rw [hsz,hb]
   exact hK
  ·exact h.elim
 ·rename_i e hs hd
  split at h
  ·rename_i he
   unfold vcB2S at h
   split at h
   ·rename_i A n c
    by_cases hn:n=0
    ·have hK:=h.1 hn
     subst hn
     refine ⟨_,_,?_,hK⟩
     unfold convert
     simp only [Sem.run_bind,run_underlying hs,run_underlying hd,run_underlying he,Result.andThen]
     cases A <;> simp [Conv.bytesToString,loadCells,loadCellsFrom,he,ByteArray.empty,ByteArray.emptyWithCapacity] <;> rfl
    ·have hK:=h.2 hn
     rw [dr_iff] at hK
     obtain ⟨b,o,rfl,l,rfl,hc,hK⟩:=hK
     have:=run_convert_bytes_back w s d e ⟨b,o,none⟩ c l hs he hd (fun j hj=>by
      rw [add_none]
      exact hc j _ (by rw [List.getElem?_map,List.getElem?_eq_getElem hj]; rfl))
     exact ⟨_,_,this,hK⟩
   ·exact h.elim
  ·exact h.elim
 ·rename_i e0 e a n c hs hd
  split at h
  ·rename_i he
   simp only [gd_iff,beq_iff_eq] at h
   obtain ⟨rfl,cc,ee,f,hb,hK⟩:=h
   refine ⟨_,_,?_,hK⟩
   unfold convert
   simp [Sem.run_bind,run_underlying hd,run_underlying he,Result.andThen,markStringish,World.shape?,hb]
  ·exact h.elim
 ·obtain ⟨v,hv,hK⟩:=vcConv_run (w:=w) h
  exact ⟨v,w,hv,hK⟩
def itW (w:World) (b:Nat) (s:ByteArray) (p:Nat):World:={ w with heap:=w.heap.setIfInBounds b (.stringIter s p) }
def itr (w:World) (s:ByteArray) (K:Nat->World->Prop):Prop:=K w.heap.size (w.alloc (.stringIter s 0))
def nxt (w:World) (b:Nat) (K1:Int->Int->World->Prop) (K2:Prop):Prop :=
 ∃ s p,w.heap[b]?=some (.stringIter s p)/\(p < s.size->K1 (p:Int) ((Utf8.decode s p).1:Int) (itW w b s (p+(Utf8.decode s p).2)))/\(¬ p < s.size->K2)
def vcRange (P:Program) (w:World) (t:TypeId) (x:Value) (K:Value->World->Prop):Prop :=
 match P.underlying t,x with
 | some .string,.string s=>itr w s (fun b w1=>K (.pointer (some ⟨b,0,none⟩)) w1)
 | _,_=>False
def vcNext (w:World) (x:Value) (isS:Bool) (K:Value->World->Prop):Prop :=
 match x with
 | .pointer (some a)=>gd (Nat.beq a.off 0 && isS) (nxt w a.block (fun i c w1=>K (.tuple #[.bool true,.int .i64 i,.int .i32 c]) w1) (K (.tuple #[.bool false]) w))
 | _=>False
theorem vcRange_run {t:TypeId} {x:Value} {K:Value->World->Prop} (h:vcRange P w t x K):∃ v w',(Instr.range t x).run P w=.ok v w'/\K v w':=by
 unfold vcRange at h
 split at h
 ·rename_i s hu
  refine ⟨_,_,?_,h⟩
  simp [Instr.range,run_underlying hu,newObj,Sem.run_bind,Result.andThen]
  rfl
 ·exact h.elim
theorem vcNext_run {ty:TypeId} {x:Value} {isS:Bool} {K:Value->World->Prop} (h:vcNext w x isS K):∃ v w',(Instr.next x isS ty).run P w=.ok v w'/\K v w':=by
 unfold vcNext at h
 split at h
 ·rename_i a
  simp only [gd_iff,Bool.and_eq_true] at h
  obtain ⟨⟨h1,h2⟩,s,p,hb,hK1,hK2⟩:=h
  have e0:=Nat.eq_of_beq_eq_true h1
  obtain ⟨b,o,sp⟩:=a
  simp only at e0 hb hK1
  subst e0; subst h2
  by_cases hp:p < s.size
  ·refine ⟨_,_,?_,hK1 hp⟩
   simp [Instr.next,getObj,setObj,Sem.run_bind,Sem.run,hb,Result.andThen,hp,goInt,itW]
  ·refine ⟨_,_,?_,hK2 hp⟩
   simp [Instr.next,getObj,Sem.run_bind,Sem.run,hb,Result.andThen,hp]
 ·exact h.elim
end
abbrev ME:=Int×Value×Nat
def mkE (ik:IntKind) (x:ME):MapEntry:={ key:=.int ik x.1,val:=x.2.1,born:=x.2.2 }
def mpO (ik:IntKind) (m:List ME) (c:Nat):Obj:=.map (m.map (mkE ik)).toArray c
def mpAt (w:World) (r:Nat) (ik:IntKind) (m:List ME) (c:Nat):Prop:=w.heap[r]?=some (mpO ik m c)
def mpos (n:Int):List ME->Nat->Option (Nat×Value)
 | [],_=>none
 | x :: r,i=>if n=x.1 then some (i,x.2.1) else mpos n r (i+1)
def mfind (n:Int) (m:List ME):Option Value:=(mpos n m 0).map (·.2)
def mset (n:Int) (v:Value) (c:Nat) (m:List ME):List ME :=
 match mpos n m 0 with
 | some x=>m.modify x.1 fun e=>(n,v,e.2.2)
 | none=>m ++ [(n,v,c)]
def mclk (n:Int) (m:List ME) (c:Nat):Nat :=
 match mpos n m 0 with
 | some _=>c
 | none=>c+1
def mdel (n:Int) (m:List ME):List ME :=
 match mpos n m 0 with
 | some x=>m.eraseIdx x.1
 | none=>m
def mpW (w:World) (r:Nat) (o:Obj):World:={ w with heap:=w.heap.setIfInBounds r o }
def drM (q:Option Nat) (K:Nat->Prop):Prop :=
 match q with
 | some r=>K r
 | none=>False
def mlk (w:World) (r:Nat) (ik:IntKind) (n:Int) (K:Option Value->Prop):Prop:=∃ m c,mpAt w r ik m c/\K (mfind n m)
def mup (w:World) (r:Nat) (ik:IntKind) (n:Int) (v:Value) (K:World->Prop):Prop:=∃ m c,mpAt w r ik m c/\K (mpW w r (mpO ik (mset n v c m) (mclk n m c)))
def mdl (w:World) (r:Nat) (ik:IntKind) (n:Int) (K:World->Prop):Prop:=∃ m c,mpAt w r ik m c/\K (mpW w r (mpO ik (mdel n m) c))
def mmk (w:World) (K:Nat->World->Prop):Prop:=K w.heap.size (w.alloc (.map #[] 0))
def lvA (z:List Value) (o:Option Value) (K:List Value->Prop):Prop:=∃ cs,o.getD (ofL z)=ofL cs/\K cs
def kEqm:IntKind->IntKind->Bool
 | .i8,.i8 | .i16,.i16 | .i32,.i32 | .i64,.i64 | .u8,.u8 | .u16,.u16 | .u32,.u32 | .u64,.u64=>true
 | _,_=>false
theorem kEqm_eq {j k:IntKind} (h:kEqm j k=true):j=k:=by cases j <;> cases k <;> first | rfl | cases h
def vcGet (P:Program) (et:TypeId) (o:Option Value) (K:Value->Prop):Prop :=
 match P.info? et with
 | some i =>
  match i.zero with
  | some (.agg z)=>lvA z.toList o (fun cs=>K (ofL cs))
  | _=>False
 | none=>False
def vcMk (w:World) (r:Option Operand) (K:Value->World->Prop):Prop :=
 match r with
 | none=>mmk w (fun r w1=>K (.map (some r)) w1)
 | some _=>False
def vcLook (P:Program) (w:World) (t:TypeId) (x k:Value) (ok:Bool) (K:Value->Prop):Prop :=
 match P.underlying t with
 | some (.map kt et) =>
  match P.underlying kt,x,k with
  | some (.int ik),.map q,.int ik' n=>gd (kEqm ik' ik) (drM q fun r=>mlk w r ik n fun o=>vcGet P et o fun v=>match ok with | true=>K (.tuple #[v,.bool o.isSome]) | false=>K v)
  | _,_,_=>False
 | _=>False
def vcMup (P:Program) (w:World) (t:TypeId) (x k v:Value) (K:World->Prop):Prop :=
 match P.underlying t with
 | some (.map kt _) =>
  match P.underlying kt,x,k with
  | some (.int ik),.map q,.int ik' n=>gd (kEqm ik' ik) (drM q fun r=>mup w r ik n v K)
  | _,_,_=>False
 | _=>False
def vcMdl (P:Program) (w:World) (t:TypeId) (x k:Value) (K:World->Prop):Prop :=
 match P.underlying t with
 | some (.map kt _) =>
  match P.underlying kt,x,k with
  | some (.int ik),.map q,.int ik' n=>gd (kEqm ik' ik) (drM q fun r=>mdl w r ik n K)
  | _,_,_=>False
 | _=>False
section
variable {P:Program} {w:World}
theorem findNow_mp (ik:IntKind) (n:Int):∀ (m:List ME) (i:Nat),Instr.findNow (.int ik) (.int ik n) (m.map (mkE ik)) i=some (mpos n m i)
 | [],i=>rfl
 | x :: r,i=>by
  rw [List.map_cons,Instr.findNow,mpos]
  have ih:=findNow_mp ik n r (i+1)
  by_cases h:n=x.1
  ·simp [Instr.sameNow,mkE,h]
  ·have hb:(n == x.1)=false:=by simpa using h
   simp only [Instr.sameNow,mkE,if_true,hb,if_neg h]
   exact ih
theorem checkKey_int {ik:IntKind} {kt:TypeId} {n:Int} (e:Bool) (hk:P.underlying kt=some (.int ik)):(Instr.checkKey e 10000 kt (.int ik n)).run P w=.ok () w:=by
 unfold Instr.checkKey
 simp [Sem.run_bind,run_underlying hk,Result.andThen]
theorem findKey_mp {ik:IntKind} {kt:TypeId} {n:Int} (m:List ME) (hk:P.underlying kt=some (.int ik)):(Instr.findKey kt (.int ik n) (m.map (mkE ik))).run P w=.ok (mpos n m 0) w:=by
 simp [Instr.findKey,run_underlying hk,Result.andThen,findNow_mp]
theorem getObj_mp {r:Nat} {ik:IntKind} {m:List ME} {c:Nat} (h:mpAt w r ik m c):(getObj r).run P w=.ok (.map (m.map (mkE ik)).toArray c) w:=by
 have h:w.heap[r]?=some (.map (m.map (mkE ik)).toArray c):=h
 simp [getObj,Sem.run,h]
theorem setObj_mp {r:Nat} {ik:IntKind} {m:List ME} {c:Nat} (o:Obj) (h:mpAt w r ik m c):(setObj r o).run P w=.ok () (mpW w r o):=by
 have h:w.heap[r]?=some (.map (m.map (mkE ik)).toArray c):=h
 simp [setObj,Sem.run,h,mpW]
theorem mpos_key (n:Int):∀ (m:List ME) (i j:Nat) (v:Value),mpos n m i=some (j,v)->i<=j/\∃ b,m[j - i]?=some (n,v,b)
 | [],i,j,v,h=>by cases h
 | x :: r,i,j,v,h=>by
  rw [mpos] at h
  split at h
  ·rename_i hx
   simp only [Option.some.injEq,Prod.mk.injEq] at h
   obtain ⟨rfl,rfl⟩:=h
   refine ⟨Nat.le_refl _,x.2.2,?_⟩
   rw [Nat.sub_self,List.getElem?_cons_zero,hx]
  ·obtain ⟨h1,b,h2⟩:=mpos_key n r (i+1) j v h
   refine ⟨by omega,b,?_⟩
   rw [show j - i=(j - (i+1))+1 by omega,List.getElem?_cons_succ]
   exact h2
theorem sameBits_int (ik:IntKind) (n:Int):Instr.sameBits 10000 (.int ik n) (.int ik n)=true:=by
 simp [Instr.sameBits]
theorem vcMk_run {t:TypeId} {r:Option Operand} {ρ:Operand->Value} {K:Value->World->Prop} (h:vcMk w r K):∃ v w',(Instr.makeMap t (r.map ρ)).run P w=.ok v w'/\K v w':=by
 unfold vcMk at h
 split at h
 ·refine ⟨_,_,?_,h⟩
  simp [Instr.makeMap,newObj,Sem.run,Sem.run_bind,Result.andThen]
 ·exact h.elim
theorem drM_iff {q:Option Nat} {K:Nat->Prop}:drM q K ↔ ∃ r,q=some r/\K r:=by
 cases q with
 | none=>exact ⟨fun h=>h.elim,fun ⟨_,h,_⟩=>(by cases h)⟩
 | some r=>exact ⟨fun h=>⟨r,rfl,h⟩,fun ⟨_,h,hk⟩=>(by injection h with h; subst h; exact hk)⟩
theorem vcGet_run {et:TypeId} {o:Option Value} {K:Value->Prop} (h:vcGet P et o K):∃ z,(zeroValue et).run P w=.ok z w/\K (o.getD z):=by
 unfold vcGet at h
 split at h
 ·rename_i i hi
  split at h
  ·rename_i z hz
   obtain ⟨cs,h1,h2⟩:=h
   have e:ofL z.toList=.agg z:=by unfold ofL; simp
   rw [e] at h1
   refine ⟨.agg z,?_,by rw [h1]; exact h2⟩
   simp [zeroValue,typeInfo,Sem.run_bind,program,Sem.run,Result.andThen,hi,hz]
  ·exact h.elim
 ·exact h.elim
theorem vcLook_run {t:TypeId} {x k:Value} {ok:Bool} {K:Value->Prop} (h:vcLook P w t x k ok K):∃ v,(Instr.lookup t x k ok).run P w=.ok v w/\K v:=by
 unfold vcLook at h
 split at h
 ·rename_i kt et ht
  split at h
  ·rename_i ik q ik' n hk
   obtain ⟨he,h⟩:=gd_iff.1 h
   have:=kEqm_eq he
   subst this
   obtain ⟨r,rfl,m,c,hm,h⟩:=drM_iff.1 h
   obtain ⟨z,hz,h⟩:=vcGet_run (w:=w) h
   have hf:mfind n m=(mpos n m 0).map (·.2):=rfl
   cases hp:mpos n m 0 with
   | none =>
    rw [hf,hp] at h
    cases ok
    ·exact ⟨_,by simp [Instr.lookup,run_underlying ht,getObj_mp hm,checkKey_int _ hk,findKey_mp m hk,hp,hz,Sem.run_bind,Result.andThen],h⟩
    ·exact ⟨_,by simp [Instr.lookup,run_underlying ht,getObj_mp hm,checkKey_int _ hk,findKey_mp m hk,hp,hz,Sem.run_bind,Result.andThen],h⟩
   | some y =>
    obtain ⟨j,v⟩:=y
    rw [hf,hp] at h
    cases ok
    ·exact ⟨_,by simp [Instr.lookup,run_underlying ht,getObj_mp hm,checkKey_int _ hk,findKey_mp m hk,hp,Sem.run_bind,Result.andThen],h⟩
    ·exact ⟨_,by simp [Instr.lookup,run_underlying ht,getObj_mp hm,checkKey_int _ hk,findKey_mp m hk,hp,Sem.run_bind,Result.andThen],h⟩
  ·exact h.elim
 ·exact h.elim
theorem map_modify (ik:IntKind) (f:ME->ME) (g:MapEntry->MapEntry):∀ (m:List ME) (j:Nat),(∀ b v,m[j]?=some (b,v)->g (mkE ik (b,v))=mkE ik (f (b,v)))->(m.map (mkE ik)).modify j g=(m.modify j f).map (mkE ik)
 | [],j,_=>by simp
 | x :: r,0,h=>by
  obtain ⟨b,v⟩:=x
  simp [h b v rfl]
 | x :: r,j+1,h=>by
  simp only [List.map_cons,List.modify_succ_cons]
  rw [map_modify ik f g r j (fun b v hb=>h b v hb)]
theorem vcMup_run {t:TypeId} {x k v:Value} {K:World->Prop} (h:vcMup P w t x k v K):∃ w',(Instr.mapUpdate t x k v).run P w=.ok () w'/\K w':=by
 unfold vcMup at h
 split at h
 ·rename_i kt et ht
  split at h
  ·rename_i ik q ik' n hk
   obtain ⟨he,h⟩:=gd_iff.1 h
   have:=kEqm_eq he
   subst this
   obtain ⟨r,rfl,m,c,hm,h⟩:=drM_iff.1 h
   refine ⟨_,?_,h⟩
   cases hp:mpos n m 0 with
   | none =>
    simp [Instr.mapUpdate,run_underlying ht,getObj_mp hm,checkKey_int _ hk,findKey_mp m hk,hp,setObj_mp _ hm,Sem.run_bind,Result.andThen,mset,mclk,mpO,mkE]
   | some y =>
    obtain ⟨j,u⟩:=y
    obtain ⟨_,b,hb⟩:=mpos_key n m 0 j u hp
    rw [Nat.sub_zero] at hb
    have hget:(m.map (mkE ik')).toArray[j]?=some (mkE ik' (n,u,b)):=by simp [hb]
    have hkeep:(Instr.keyThatStays (.int ik' n) (.int ik' n)).run P w=.ok (.int ik' n) w:=by simp [Instr.keyThatStays,sameBits_int]
    have hmod:(m.map (mkE ik')).modify j (fun e=>{ e with key:=.int ik' n,val:=v })=(m.modify j (fun e=>(n,v,e.2.2))).map (mkE ik'):=map_modify ik' (fun e=>(n,v,e.2.2)) _ m j (fun b v _=>rfl)
    simp [Instr.mapUpdate,run_underlying ht,getObj_mp hm,checkKey_int _ hk,findKey_mp m hk,hp,hb,mkE,hkeep,setObj_mp _ hm,Sem.run_bind,Result.andThen,mset,mclk,mpO]
    rw [hmod]
  ·exact h.elim
 ·exact h.elim
theorem map_eraseIdx' (ik:IntKind):∀ (m:List ME) (j:Nat),(m.map (mkE ik)).eraseIdx j=(m.eraseIdx j).map (mkE ik)
 | [],_=>by simp
 | _ :: _,0=>by simp
 | x :: r,j+1=>by simp [map_eraseIdx' ik r j]
theorem vcMdl_run {t t2 ty:TypeId} {x k:Value} {K:World->Prop} (h:vcMdl P w t x k K):∃ w',(Builtin.delete_ #[t,t2] ty #[x,k]).run P w=.ok (.tuple #[]) w'/\K w':=by
 unfold vcMdl at h
 split at h
 ·rename_i kt et ht
  split at h
  ·rename_i ik q ik' n hk
   obtain ⟨he,h⟩:=gd_iff.1 h
   have:=kEqm_eq he
   subst this
   obtain ⟨r,rfl,m,c,hm,h⟩:=drM_iff.1 h
   refine ⟨_,?_,h⟩
   cases hp:mpos n m 0 with
   | none =>
    simp [Builtin.delete_,run_underlying ht,getObj_mp hm,checkKey_int _ hk,findKey_mp m hk,hp,setObj_mp _ hm,Sem.run_bind,Result.andThen,mdel,mpO]
   | some y =>
    obtain ⟨j,u⟩:=y
    simp [Builtin.delete_,run_underlying ht,getObj_mp hm,checkKey_int _ hk,findKey_mp m hk,hp,setObj_mp _ hm,Sem.run_bind,Result.andThen,mdel,mpO,map_eraseIdx']
  ·exact h.elim
 ·exact h.elim
end
def exV (P:Program) (t:TypeId) (K:Value->Prop):Prop :=
 match P.underlying t with
 | some (.int k)=>∃ x:Int,K (.int k x)
 | some .bool=>∃ x:Bool,K (.bool x)
 | some .string=>∃ x:ByteArray,K (.string x)
 | some (.pointer _)=>∃ x:Option Addr,K (.pointer x)
 | some (.slice _)=>∃ (A:Option Addr) (n c:Nat),K (.slice A n c)
 | some (.map _ _)=>∃ x:Option Nat,K (.map x)
 | some (.struct _) | some (.array _ _)=>∃ cs:List Value,K (ofL cs)
 | _=>∃ v:Value,K v
def exVs (P:Program):List TypeId->(List Value->Prop)->Prop
 | [],K=>K []
 | t :: r,K=>exV P t (fun v=>exVs P r (fun vs=>K (v :: vs)))
def retOf (vs:List Value):Value :=
 match vs with
 | [v]=>v
 | vs=>.tuple vs.toArray
theorem exV_some {P:Program} {t:TypeId} {K:Value->Prop} (h:exV P t K):∃ v,K v:=by
 unfold exV at h
 split at h
 all_goals first
  | (obtain ⟨a,b,c,h⟩:=h; exact ⟨_,h⟩)
  | (obtain ⟨a,h⟩:=h; exact ⟨_,h⟩)
theorem exVs_some {P:Program}:∀ {ts:List TypeId} {K:List Value->Prop},exVs P ts K->∃ vs,K vs
 | [],_,h=>⟨[],h⟩
 | t :: r,K,h=>by
  obtain ⟨v,h⟩:=exV_some h
  obtain ⟨vs,h⟩:=exVs_some h
  exact ⟨_,h⟩
def extC (P:Program) (f:FuncId) (args:Array Value) (w:World) (K:Value->World->Prop):Prop :=
 ∃ fn e v w',P.funcs[f]?=some fn/\fn.body.isNone=true/\Extern.findNext fn=none/\Extern.find fn=some e/\(e args).run P w=.ok v w'/\K v w'
def vcCallF (P:Program) (f:FuncId) (args:Array Value) (w:World) (K:Value->World->Prop):Prop :=
 match P.funcs[f]? with
 | some fn =>
  match fn.body.isSome with
  | true=>Calls P f args w (fun e w'=>exVs P fn.resultTypes.toList (fun vs=>e=.returned (retOf vs)/\K (retOf vs) w'))
  | false=>extC P f args w (fun v w'=>exVs P fn.resultTypes.toList (fun vs=>v=retOf vs/\K (retOf vs) w'))
 | none=>False
def vcCallV (P:Program) (f:Value) (args:List Value) (w:World) (K:Value->World->Prop):Prop :=
 match f with
 | .func (.func g) first captured=>vcCallF P g (first.toList ++ (args ++ captured.toList)).toArray w K
 | _=>False
def vcOp (P:Program) (ρ:Operand->Value) (o:Oper) (w:World) (K:Value->World->Prop):Prop :=
 match o.op with
 | .alloc t=>vcAlloc P w t K
 | .box t x=>vcBox w t (ρ x) K
 | .buildSlice t len parts=>vcBuildSl P w t len (parts.toList.map fun (i,x)=>(i,ρ x)) K
 | .store t a x=>vcSto P w t (ρ a) (ρ x) (K undef)
 | .makeSlice t l c=>vcMake P w t (ρ l) (ρ c) K
 | .range t x=>vcRange P w t (ρ x) K
 | .next it isS=>vcNext w (ρ it) isS K
 | .convert s d x=>vcCv P w s d (ρ x) K
 | .call { callee:=.builtin .append,args,argTypes }=>(match argTypes.toList,args.toList with | [t,t2],[s,x]=>vcApp P w t t2 (ρ s) (ρ x) K | _,_=>False)
 | .call { callee:=.builtin .copy,args,argTypes }=>(match argTypes.toList,args.toList with | [t,t2],[s,x]=>vcCopy P w t (ρ s) (ρ x) K | _,_=>False)
 | .call { callee:=.builtin .clear,args,argTypes }=>(match argTypes.toList,args.toList with | [t],[s]=>vcClear P w t (ρ s) (K (.tuple #[])) | _,_=>False)
 | .call { callee:=.value f,args,argTypes:=_ }=>vcCallV P (ρ f) (args.toList.map ρ) w K
 | .makeMap _ r=>vcMk w r K
 | .lookup t x i ok=>vcLook P w t (ρ x) (ρ i) ok (fun v=>K v w)
 | .mapUpdate t x i v=>vcMup P w t (ρ x) (ρ i) (ρ v) (K undef)
 | .call { callee:=.builtin .delete,args,argTypes }=>(match argTypes.toList,args.toList with | [t,_],[s,x]=>vcMdl P w t (ρ s) (ρ x) (K (.tuple #[])) | _,_=>False)
 | op=>vcStill P ρ w op (fun v=>K v w)
def slotOf (all:List Oper) (j:Nat):Option Tmp:=(all[j]?).bind (·.dst)
def stillB (P:Program):Op->Bool
 | .move _ | .assign _ | .pick .. | .extract .. | .makeFunc .. | .nilCheck _ | .fieldAddr .. | .field .. | .indexAddr .. | .index .. | .load .. | .unOp .. | .binOp .. | .slice .. | .build ..=>true
 | .convert s d _=>(match P.underlying s,P.underlying d with | some (.int _),some (.int _)=>true | some .string,some .string=>true | _,_=>false)
 | .call { callee:=.builtin .len,.. } | .call { callee:=.builtin .cap,.. } | .call { callee:=.builtin .min,.. } | .call { callee:=.builtin .max,.. }=>true
 | _=>false
section
variable {P:Program} {w:World}
def NoCount (P : Program) : Prop := ∀ (f : Nat) (fn : Func), P.funcs[f]? = some fn -> (fn.name == "runtime.NumGoroutine") = false
theorem noCount_of {P : Program} (h : (P.funcs.all fun fn => !(fn.name == "runtime.NumGoroutine")) = true) : NoCount P := by
 intro f fn hf
 have hm:fn ∈ P.funcs:=Array.mem_of_getElem? hf
 have:=(Array.all_eq_true_iff_forall_mem.1 h) fn hm
 simpa using this
theorem callF_upon (hN:NoCount P) {f:FuncId} {args:Array Value} {K:Value->World->Prop} (h:vcCallF P f args w K) :
  ((callFunc f args).run P w=.ok (.enter f args) w/\Calls P f args w (fun e w'=>∃ v,e=.returned v/\K v w'))\/(∃ v w',(callFunc f args).run P w=.ok (.value v) w'/\K v w'):=by
 unfold vcCallF at h
 split at h
 ·rename_i fn hf
  split at h
  ·rename_i hb
   refine .inl ⟨?_,h.mono fun e w' he=>?_⟩
   ·unfold callFunc
    have hb':fn.body.isNone=false:=by cases hx:fn.body <;> simp_all
    simp only [Sem.run_bind,program,Sem.run,Result.andThen,hf,hN f fn hf,hb',Bool.false_eq_true,if_false]
    rfl
   ·obtain ⟨vs,h1,h2⟩:=exVs_some he
    exact ⟨_,h1,h2⟩
  ·obtain ⟨fn',e,v,w',hf',hb',hx,he,hr,hK⟩:=h
   rw [hf] at hf'
   injection hf' with hf'
   subst hf'
   obtain ⟨vs,h1,h2⟩:=exVs_some hK
   refine .inr ⟨v,w',?_,by rw [h1]; exact h2⟩
   rw [run_callFunc_extern hf (hN f fn hf) hb' hx he,hr]
   rfl
 ·exact h.elim
theorem upon_value {o:Oper} {a:Act} {next:Act->World->Prop} {Q:Exit->Act->World->Prop} {v:Value} {w':World} (h:(execOp a.eval o).run P w=.ok (.value v) w') (hn:next (a.put o.dst v) w'):o.wp P a w next Q:=by
 unfold Oper.wp
 rw [h]
 exact hn
theorem vcOp_wp (hN:NoCount P) {t:List Value} {o:Oper} {K:Value->World->Prop} (h:vcOp P (ev t) o w K) {next:Act->World->Prop} (hn:∀ v w',K v w'->next ((actOf t).put o.dst v) w') (Q:Exit->Act->World->Prop) :
  o.wp P (actOf t) w next Q:=by
 obtain ⟨dst,op,ty,pos,after,guard⟩:=o
 have V:∀ {v w'},(execOp (ev t) ⟨dst,op,ty,pos,after,guard⟩).run P w=.ok (.value v) w'->K v w'->(⟨dst,op,ty,pos,after,guard⟩:Oper).wp P (actOf t) w next Q:=by
  intro v w' h1 h2
  refine upon_value (v:=v) (w':=w') ?_ (hn v w' h2)
  rw [ev_eq]
  exact h1
 unfold vcOp at h
 dsimp only at h
 split at h
 ·obtain ⟨v,w',hr,hK⟩:=vcAlloc_run h
  exact V (by simp [execOp,hr]) hK
 ·obtain ⟨v,w',hr,hK⟩:=vcBox_run (P:=P) h
  exact V (by simp [execOp,hr]) hK
 ·rename_i t1 len parts
  have e:parts.toList.map (fun (i,x)=>(i,ev t x))=(parts.map fun (i,x)=>(i,ev t x)).toList:=by simp
  rw [e] at h
  obtain ⟨v,w',hr,hK⟩:=vcBuildSl_run h
  exact V (by simp [execOp,hr]) hK
 ·rename_i t1 a1 x1
  obtain ⟨w',hr,hK⟩:=vcSto_run h
  unfold Oper.wp
  rw [ev_eq]
  have:(execOp (ev t) ⟨dst,.store t1 a1 x1,ty,pos,after,guard⟩).run P w=.ok .skip w':=by simp [execOp,hr]
  rw [this]
  exact hn _ _ hK
 ·obtain ⟨v,w',hr,hK⟩:=vcMake_run h
  exact V (by simp [execOp,hr]) hK
 ·obtain ⟨v,w',hr,hK⟩:=vcRange_run h
  exact V (by simp [execOp,hr]) hK
 ·obtain ⟨v,w',hr,hK⟩:=vcNext_run (P:=P) (ty:=ty) h
  exact V (by simp [execOp,hr]) hK
 ·obtain ⟨v,w',hr,hK⟩:=vcCv_run h
  exact V (by simp [execOp,hr]) hK
 ·rename_i args ts
  split at h
  ·rename_i t1 t2 s x h1 h2
   obtain ⟨v,w',hr,hK⟩:=vcApp_run (ty:=ty) h
   have e1:ts=#[t1,t2]:=Array.toList_inj.1 h1
   have e2:args=#[s,x]:=Array.toList_inj.1 h2
   subst e1; subst e2
   exact V (by simp [execOp,resolve,invoke,builtin,hr]) hK
  ·exact h.elim
 ·rename_i args ts
  split at h
  ·rename_i t1 t2 s x h1 h2
   obtain ⟨v,w',hr,hK⟩:=vcCopy_run (ty:=ty) (t2:=t2) h
   have e1:ts=#[t1,t2]:=Array.toList_inj.1 h1
   have e2:args=#[s,x]:=Array.toList_inj.1 h2
   subst e1; subst e2
   exact V (by simp [execOp,resolve,invoke,builtin,hr]) hK
  ·exact h.elim
 ·rename_i args ts
  split at h
  ·rename_i t1 s h1 h2
   obtain ⟨w',hr,hK⟩:=vcClear_run (ty:=ty) h
   have e1:ts=#[t1]:=Array.toList_inj.1 h1
   have e2:args=#[s]:=Array.toList_inj.1 h2
   subst e1; subst e2
   exact V (by simp [execOp,resolve,invoke,builtin,hr]) hK
  ·exact h.elim
 ·rename_i f args ts
  unfold vcCallV at h
  split at h
  ·rename_i g first captured hf
   have e:(first.toList ++ (args.toList.map (ev t) ++ captured.toList)).toArray=first ++ args.map (ev t) ++ captured:=by simp
   rw [e] at h
   rcases callF_upon hN h with ⟨hr,hC⟩ | ⟨v,w',hr,hK⟩
   ·unfold Oper.wp
    rw [ev_eq]
    have:(execOp (ev t) ⟨dst,.call { callee:=.value f,args:=args,argTypes:=ts },ty,pos,after,guard⟩).run P w=.ok (.enter g (first ++ args.map (ev t) ++ captured)) w:=by
     simp only [execOp,resolve,hf,Deferred.ofValue,Sem.run_bind,Sem.run_pure,Result.andThen,invoke]
     exact hr
    rw [this]
    refine hC.mono fun e w' ⟨v,he,hK⟩=>?_
    subst he
    exact hn _ _ hK
   ·refine V ?_ hK
    simp only [execOp,resolve,hf,Deferred.ofValue,Sem.run_bind,Sem.run_pure,Result.andThen,invoke]
    exact hr
  ·exact h.elim
 ·rename_i t1 r1
  obtain ⟨v,w',hr,hK⟩:=vcMk_run (P:=P) (t:=t1) (ρ:=ev t) h
  exact V (by simp [execOp,hr]) hK
 ·obtain ⟨v,hr,hK⟩:=vcLook_run h
  exact V (by simp [execOp,hr]) hK
 ·rename_i t1 x1 k1 v1
  obtain ⟨w',hr,hK⟩:=vcMup_run h
  unfold Oper.wp
  rw [ev_eq]
  have:(execOp (ev t) ⟨dst,.mapUpdate t1 x1 k1 v1,ty,pos,after,guard⟩).run P w=.ok .skip w':=by simp [execOp,hr]
  rw [this]
  exact hn _ _ hK
 ·rename_i args ts
  split at h
  ·rename_i t1 t2 s x h1 h2
   obtain ⟨w',hr,hK⟩:=vcMdl_run (t2:=t2) (ty:=ty) h
   have e1:ts=#[t1,t2]:=Array.toList_inj.1 h1
   have e2:args=#[s,x]:=Array.toList_inj.1 h2
   subst e1; subst e2
   exact V (by simp [execOp,resolve,invoke,builtin,hr]) hK
  ·exact h.elim
 ·obtain ⟨v,hr,hK⟩:=vcStill_run (o:=⟨dst,op,ty,pos,after,guard⟩) h
  exact V hr hK
theorem putV_self:∀ {t:List Value} {d:Nat} {v:Value},nthV t d=v->putV t d v=t
 | [],_,_,_=>rfl
 | x :: r,0,v,h=>by simp [nthV] at h; simp [putV,h]
 | x :: r,n+1,v,h=>by simp only [nthV] at h; simp [putV,putV_self h]
theorem yielded_of {all:List Oper} {t:List Value} {j:Nat} :
  (match slotOf all j with | none=>(none:Option Bool) | some d=>match nthV t d with | .bool b=>some b | _=>none)=yielded all.toArray (actOf t).tmps j:=by
 unfold slotOf yielded actOf
 simp only [List.getElem?_toArray]
 cases h:(all[j]?).bind (·.dst) with
 | none=>simp
 | some d =>
  simp only [Option.bind_some]
  rw [nthV_eq]
  by_cases hd:d < t.length
  ·simp [Array.getD_eq_getD_getElem?,hd]
   cases t[d] <;> rfl
  ·simp [Array.getD_eq_getD_getElem?,hd,undef]
end
section
variable {P:Program} {w:World}
theorem ptI_det {k:IntKind} {v:Value} {K:Int->Prop} (h:ptI k v K):∃ x,K x/\ptI k v (fun u=>u=x):=by
 unfold ptI at h ⊢; split at h
 ·simp only [gd_iff] at h; exact ⟨_,h.2,gd_iff.2 ⟨h.1,rfl⟩⟩
 ·exact h.elim
theorem ptB_det {v:Value} {K:Bool->Prop} (h:ptB v K):∃ x,K x/\ptB v (fun u=>u=x):=by
 unfold ptB at h ⊢; split at h
 ·exact ⟨_,h,rfl⟩
 ·exact h.elim
theorem ptS_det {v:Value} {K:ByteArray->Prop} (h:ptS v K):∃ x,K x/\ptS v (fun u=>u=x):=by
 unfold ptS at h ⊢; split at h
 ·exact ⟨_,h,rfl⟩
 ·exact h.elim
theorem ptP_det {v:Value} {K:Option Addr->Prop} (h:ptP v K):∃ x,K x/\ptP v (fun u=>u=x):=by
 unfold ptP at h ⊢; split at h
 ·exact ⟨_,h,rfl⟩
 ·exact h.elim
theorem ptSl_det {v:Value} {K:Option Addr->Nat->Nat->Prop} (h:ptSl v K):∃ A n c,K A n c/\ptSl v (fun A' n' c'=>A'=A/\n'=n/\c'=c):=by
 unfold ptSl at h ⊢; split at h
 ·exact ⟨_,_,_,h,rfl,rfl,rfl⟩
 ·exact h.elim
theorem ptM_det {v:Value} {K:Option Nat->Prop} (h:ptM v K):∃ x,K x/\ptM v (fun u=>u=x):=by
 unfold ptM at h ⊢; split at h
 ·exact ⟨_,h,rfl⟩
 ·exact h.elim
theorem ptI_mono {k:IntKind} {v:Value} {K K':Int->Prop} (hh:∀ x,K x->K' x) (h:ptI k v K):ptI k v K':=by
 unfold ptI at h ⊢; split at h
 ·exact gd_iff.2 ⟨(gd_iff.1 h).1,hh _ (gd_iff.1 h).2⟩
 ·exact h
theorem ptB_mono {v:Value} {K K':Bool->Prop} (hh:∀ x,K x->K' x) (h:ptB v K):ptB v K':=by
 unfold ptB at h ⊢; split at h
 ·exact hh _ h
 ·exact h
theorem ptS_mono {v:Value} {K K':ByteArray->Prop} (hh:∀ x,K x->K' x) (h:ptS v K):ptS v K':=by
 unfold ptS at h ⊢; split at h
 ·exact hh _ h
 ·exact h
theorem ptP_mono {v:Value} {K K':Option Addr->Prop} (hh:∀ x,K x->K' x) (h:ptP v K):ptP v K':=by
 unfold ptP at h ⊢; split at h
 ·exact hh _ h
 ·exact h
theorem ptSl_mono {v:Value} {K K':Option Addr->Nat->Nat->Prop} (hh:∀ A n c,K A n c->K' A n c) (h:ptSl v K):ptSl v K':=by
 unfold ptSl at h ⊢; split at h
 ·exact hh _ _ _ h
 ·exact h
theorem ptM_mono {v:Value} {K K':Option Nat->Prop} (hh:∀ x,K x->K' x) (h:ptM v K):ptM v K':=by
 unfold ptM at h ⊢; split at h
 ·exact hh _ h
 ·exact h
theorem vcPart_det {t:TypeId} {cs:List Value} {o:Nat} {K:Value->Prop} (h:vcPart P t cs o K):∃ v,K v/\vcPart P t cs o (fun u=>u=v):=by
 unfold vcPart at h
 split at h
 case h_12=>exact h.elim
 all_goals (rename_i hu; unfold vcPart; simp only [hu])
 ·exact ⟨_,h,rfl⟩
 ·exact ⟨_,h,rfl⟩
 ·simp only [gd_iff] at h ⊢; obtain ⟨x,hK,h2⟩:=ptI_det h.2; exact ⟨_,hK,h.1,ptI_mono (fun _ e=>by rw [e]) h2⟩
 ·simp only [gd_iff] at h ⊢; obtain ⟨x,hK,h2⟩:=ptB_det h.2; exact ⟨_,hK,h.1,ptB_mono (fun _ e=>by rw [e]) h2⟩
 ·simp only [gd_iff] at h ⊢; obtain ⟨x,hK,h2⟩:=ptS_det h.2; exact ⟨_,hK,h.1,ptS_mono (fun _ e=>by rw [e]) h2⟩
 ·simp only [gd_iff] at h ⊢; obtain ⟨x,hK,h2⟩:=ptP_det h.2; exact ⟨_,hK,h.1,ptP_mono (fun _ e=>by rw [e]) h2⟩
 ·simp only [gd_iff] at h ⊢; obtain ⟨A,n,c,hK,h2⟩:=ptSl_det h.2; exact ⟨_,hK,h.1,ptSl_mono (fun _ _ _ e=>by rw [e.1,e.2.1,e.2.2]) h2⟩
 ·simp only [gd_iff] at h ⊢; obtain ⟨x,hK,h2⟩:=ptM_det h.2; exact ⟨_,hK,h.1,ptM_mono (fun _ e=>by rw [e]) h2⟩
 ·simp only [gd_iff] at h ⊢; exact ⟨_,h.2,h.1,rfl⟩
 ·simp only [gd_iff] at h ⊢; exact ⟨_,h.2,h.1,rfl⟩
 ·simp only [gd_iff] at h ⊢; exact ⟨_,h.2,h.1,rfl⟩
theorem dr_det {q:Option Addr} {F:Nat->Nat->(Value->Prop)->Prop} {K:Value->Prop} (hF:∀ b o,F b o K->∃ v,K v/\F b o (fun u=>u=v)) (h:dr q (fun b o=>F b o K)):∃ v,K v/\dr q (fun b o=>F b o (fun u=>u=v)):=by
 rw [dr_iff] at h
 obtain ⟨b,o,rfl,h⟩:=h
 obtain ⟨v,hK,hv⟩:=hF b o h
 exact ⟨v,hK,hv⟩
theorem gd_det {c:Bool} {F:(Value->Prop)->Prop} {K:Value->Prop} (hF:F K->∃ v,K v/\F (fun u=>u=v)) (h:gd c (F K)):∃ v,K v/\gd c (F (fun u=>u=v)):=by
 obtain ⟨h1,h2⟩:=gd_iff.1 h
 obtain ⟨v,hK,hv⟩:=hF h2
 exact ⟨v,hK,gd_iff.2 ⟨h1,hv⟩⟩
theorem gd_at {c:Bool} {v:Value} {K:Value->Prop} (h:gd c (K v)):∃ v',K v'/\gd c (v=v'):=⟨v,(gd_iff.1 h).2,gd_iff.2 ⟨(gd_iff.1 h).1,rfl⟩⟩
theorem vcNil_det {x:Value} {K:Value->Prop} (h:vcNil x K):∃ v,K v/\vcNil x (fun u=>u=v):=by
 unfold vcNil at h ⊢
 split at h
 ·exact dr_det (F:=fun b o K=>K (.pointer (some ⟨b,o,none⟩))) (fun b o h=>⟨_,h,rfl⟩) h
 ·exact ⟨_,h,rfl⟩
 ·exact h.elim
theorem vcFA_det {s:TypeId} {x:Value} {f:Nat} {K:Value->Prop} (h:vcFA P s x f K):∃ v,K v/\vcFA P s x f (fun u=>u=v):=by
 unfold vcFA at h
 split at h
 ·rename_i hu; unfold vcFA; simp only [hu]
  split at h
  ·exact gd_at h
  ·exact h.elim
 ·exact h.elim
theorem vcFd_det {s:TypeId} {x:Value} {f:Nat} {K:Value->Prop} (h:vcFd P s x f K):∃ v,K v/\vcFd P s x f (fun u=>u=v):=by
 unfold vcFd at h
 split at h
 ·rename_i hu; unfold vcFd; simp only [hu]
  split at h
  ·exact gd_det (F:=vcPart P _ _ _) vcPart_det h
  ·exact h.elim
 ·exact h.elim
theorem vcIxA_det {t:TypeId} {x i:Value} {K:Value->Prop} (h:vcIxA P t x i K):∃ v,K v/\vcIxA P t x i (fun u=>u=v):=by
 unfold vcIxA at h
 split at h
 ·rename_i e A len c k n hu; unfold vcIxA; simp only [hu]
  refine gd_det (F:=fun K=>dr A (fun b o=>gd (decide (0<=n)) (gd (decide (n < (len:Int))) (K (.pointer (some ⟨b,o+n.toNat * szOf P e,none⟩)))))) (fun h=>?_) h
  exact dr_det (F:=fun b o K=>gd (decide (0<=n)) (gd (decide (n < (len:Int))) (K (.pointer (some ⟨b,o+n.toNat * szOf P e,none⟩))))) (fun b o h=>gd_det (F:=fun K=>gd (decide (n < (len:Int))) (K (.pointer (some ⟨b,o+n.toNat * szOf P e,none⟩)))) gd_at h) h
 ·rename_i len e A k n hu; unfold vcIxA; simp only [hu]
  refine gd_det (F:=fun K=>dr A (fun b o=>gd (decide (0<=n)) (gd (decide (n < (len:Int))) (K (.pointer (some ⟨b,o+n.toNat * szOf P e,none⟩)))))) (fun h=>?_) h
  exact dr_det (F:=fun b o K=>gd (decide (0<=n)) (gd (decide (n < (len:Int))) (K (.pointer (some ⟨b,o+n.toNat * szOf P e,none⟩))))) (fun b o h=>gd_det (F:=fun K=>gd (decide (n < (len:Int))) (K (.pointer (some ⟨b,o+n.toNat * szOf P e,none⟩)))) gd_at h) h
 ·exact h.elim
theorem vcIx_det {t:TypeId} {x i:Value} {K:Value->Prop} (h:vcIx P t x i K):∃ v,K v/\vcIx P t x i (fun u=>u=v):=by
 unfold vcIx at h
 split at h
 ·rename_i hu; unfold vcIx; simp only [hu]
  simp only [gd_iff] at h ⊢; exact ⟨_,h.2.2,h.1,h.2.1,rfl⟩
 ·rename_i hu; unfold vcIx; simp only [hu]
  simp only [gd_iff] at h ⊢
  obtain ⟨v,hK,h2⟩:=vcPart_det h.2.2.2
  exact ⟨_,hK,h.1,h.2.1,h.2.2.1,h2⟩
 ·exact h.elim
theorem vcUn_det {op:UnOp} {x:Value} {K:Value->Prop} (h:vcUn op x K):∃ v,K v/\vcUn op x (fun u=>u=v):=by
 unfold vcUn at h ⊢
 split at h
 ·exact ⟨_,h,rfl⟩
 ·exact ⟨_,h,rfl⟩
 ·exact ⟨_,h,rfl⟩
 ·exact h.elim
theorem vcConv_det {s d:TypeId} {x:Value} {K:Value->Prop} (h:vcConv P s d x K):∃ v,K v/\vcConv P s d x (fun u=>u=v):=by
 unfold vcConv at h
 split at h
 ·rename_i h1 h2; unfold vcConv; simp only [h1,h2]; exact ⟨_,h,rfl⟩
 ·rename_i h1 h2; unfold vcConv; simp only [h1,h2]; exact ⟨_,h,rfl⟩
 ·exact h.elim
theorem vcLen_det {t:TypeId} {x:Value} {K:Value->Prop} (h:vcLen P t x K):∃ v,K v/\vcLen P t x (fun u=>u=v):=by
 unfold vcLen at h
 split at h
 ·rename_i h1; unfold vcLen; simp only [h1]; exact ⟨_,h,rfl⟩
 ·rename_i h1; unfold vcLen; simp only [h1]; exact ⟨_,h,rfl⟩
 ·rename_i h1; unfold vcLen; simp only [h1]; exact ⟨_,h,rfl⟩
 ·rename_i h1; unfold vcLen; simp only [h1]; exact ⟨_,h,rfl⟩
 ·rename_i h1; unfold vcLen; simp only [h1]
  split at h
  ·exact ⟨_,h,rfl⟩
  ·exact h.elim
 ·exact h.elim
theorem vcCap_det {t:TypeId} {x:Value} {K:Value->Prop} (h:vcCap P t x K):∃ v,K v/\vcCap P t x (fun u=>u=v):=by
 unfold vcCap at h
 split at h
 ·rename_i h1; unfold vcCap; simp only [h1]; exact ⟨_,h,rfl⟩
 ·rename_i h1; unfold vcCap; simp only [h1]; exact ⟨_,h,rfl⟩
 ·exact h.elim
theorem vcMm_det {m:Bool} {xs:List Value} {K:Value->Prop} (h:vcMm m xs K):∃ v,K v/\vcMm m xs (fun u=>u=v):=by
 unfold vcMm at h ⊢
 split at h
 ·exact gd_at h
 ·exact h.elim
theorem bnd_det {v:Option Value} {d top:Nat} {K:Nat->Prop} (h:bnd v d top K):∃ n,K n/\∀ K':Nat->Prop,K' n->bnd v d top K':=by
 unfold bnd at h
 split at h
 ·exact ⟨_,h,fun K' h=>h⟩
 ·simp only [gd_iff] at h; exact ⟨_,h.2.2,fun K' h'=>gd_iff.2 ⟨h.1,gd_iff.2 ⟨h.2.1,h'⟩⟩⟩
 ·exact h.elim
theorem bnds_det {len cap:Nat} {lo hi mx:Option Value} {K:Nat->Nat->Nat->Prop} (h:bnds len cap lo hi mx K):∃ l h m,K l h m/\∀ K':Nat->Nat->Nat->Prop,K' l h m->bnds len cap lo hi mx K':=by
 unfold bnds at h
 obtain ⟨m,h,h1⟩:=bnd_det h
 obtain ⟨hc,h⟩:=gd_iff.1 h
 obtain ⟨hh,h,h2⟩:=bnd_det h
 obtain ⟨l,h,h3⟩:=bnd_det h
 exact ⟨l,hh,m,h,fun K' hk=>h1 _ (gd_iff.2 ⟨hc,h2 _ (h3 _ hk)⟩)⟩
theorem vcSl_det {t:TypeId} {x:Value} {lo hi mx:Option Value} {K:Value->Prop} (h:vcSl P t x lo hi mx K):∃ v,K v/\vcSl P t x lo hi mx (fun u=>u=v):=by
 unfold vcSl at h
 split at h
 ·rename_i h1; unfold vcSl; simp only [h1]
  obtain ⟨hc,h⟩:=gd_iff.1 h
  obtain ⟨_,_,_,hK,hh⟩:=bnds_det h
  exact ⟨_,hK,gd_iff.2 ⟨hc,hh _ rfl⟩⟩
 ·rename_i h1; unfold vcSl; simp only [h1]
  obtain ⟨hc,h⟩:=gd_iff.1 h
  obtain ⟨_,_,_,hK,hh⟩:=bnds_det h
  exact ⟨_,hK,gd_iff.2 ⟨hc,hh _ rfl⟩⟩
 ·rename_i h1; unfold vcSl; simp only [h1]
  obtain ⟨hc,h⟩:=gd_iff.1 h
  obtain ⟨_,_,_,hK,hh⟩:=bnds_det h
  exact ⟨_,hK,gd_iff.2 ⟨hc,hh _ rfl⟩⟩
 ·exact h.elim
theorem setCh_det:∀ {parts:List (Nat×Value)} {ch:List (List Value)} {K:List (List Value)->Prop},setCh ch parts K->∃ c,K c/\∀ K':List (List Value)->Prop,K' c->setCh ch parts K'
 | [],ch,K,h=>⟨ch,h,fun K' h'=>h'⟩
 | (i,v) :: r,ch,K,h=>by
  unfold setCh at h
  split at h
  ·rename_i c hc
   obtain ⟨h1,h⟩:=gd_iff.1 h
   obtain ⟨c',hK,h2⟩:=setCh_det h
   refine ⟨c',hK,fun K' hk=>?_⟩
   unfold setCh
   simp only [hc]
   exact gd_iff.2 ⟨h1,h2 _ hk⟩
  ·exact h.elim
theorem vcBuild_det {t:TypeId} {parts:List (Nat×Value)} {K:Value->Prop} (h:vcBuild P t parts K):∃ v,K v/\vcBuild P t parts (fun u=>u=v):=by
 unfold vcBuild at h
 split at h
 ·rename_i h1 h2; unfold vcBuild; simp only [h1,h2]
  simp only [gd_iff] at h ⊢
  obtain ⟨c,hK,hh⟩:=setCh_det h.2.2.2
  exact ⟨_,hK,h.1,h.2.1,h.2.2.1,hh _ rfl⟩
 ·rename_i h1 h2; unfold vcBuild; simp only [h1,h2]
  simp only [gd_iff] at h ⊢
  obtain ⟨c,hK,hh⟩:=setCh_det h.2.2
  exact ⟨_,hK,h.1,h.2.1,hh _ rfl⟩
 ·exact h.elim
theorem eqAB_det {n:Nat} {xs ys:List Value} {K:Bool->Prop} (h:eqAB n xs ys K):∃ b,K b/\∀ K':Bool->Prop,K' b->eqAB n xs ys K':=by
 obtain ⟨X,Y,h1,h2,h3,h4,hK⟩:=h
 exact ⟨_,hK,fun K' hk=>⟨X,Y,h1,h2,h3,h4,hk⟩⟩
theorem eqI64_det {n:Nat} {xs ys:List Value} {K:Bool->Prop} (h:eqI64 n xs ys K):∃ b,K b/\∀ K':Bool->Prop,K' b->eqI64 n xs ys K':=by
 obtain ⟨X,Y,h1,h2,h3,h4,hK⟩:=h
 exact ⟨_,hK,fun K' hk=>⟨X,Y,h1,h2,h3,h4,hk⟩⟩
theorem eqMx_det {ts:List Bool} {xs ys:List Value} {K:Bool->Prop} (h:eqMx ts xs ys K):∃ b,K b/\∀ K':Bool->Prop,K' b->eqMx ts xs ys K':=by
 obtain ⟨X,Y,h1,h2,h3,h4,hK⟩:=h
 exact ⟨_,hK,fun K' hk=>⟨X,Y,h1,h2,h3,h4,hk⟩⟩
theorem nilEq_det {a b:Option Addr} {K:Bool->Prop} (h:nilEq a b K):∃ c,K c/\∀ K':Bool->Prop,K' c->nilEq a b K':=by
 unfold nilEq at h
 split at h
 ·exact ⟨_,h,fun K' hk=>hk⟩
 ·split at h
  ·exact ⟨_,h,fun K' hk=>hk⟩
  ·exact h.elim
theorem vcEq_det {t:TypeId} {x y:Value} {K:Bool->Prop} (h:vcEq P t x y K):∃ b,K b/\∀ K':Bool->Prop,K' b->vcEq P t x y K':=by
 unfold vcEq at h
 split at h
 ·rename_i hu; exact ⟨_,h,fun K' hk=>by unfold vcEq; simp only [hu]; exact hk⟩
 ·rename_i hu; obtain ⟨c,hK,hh⟩:=nilEq_det h; exact ⟨_,hK,fun K' hk=>by unfold vcEq; simp only [hu]; exact hh _ hk⟩
 ·rename_i hu; obtain ⟨c,hK,hh⟩:=nilEq_det h; exact ⟨_,hK,fun K' hk=>by unfold vcEq; simp only [hu]; exact hh _ hk⟩
 ·rename_i hu; exact ⟨_,h,fun K' hk=>by unfold vcEq; simp only [hu]; exact hk⟩
 ·rename_i hu
  split at h
  ·rename_i he
   simp only [gd_iff] at h
   obtain ⟨c,hK,hh⟩:=eqAB_det h.2.2
   exact ⟨_,hK,fun K' hk=>by unfold vcEq; simp only [hu,he]; exact gd_iff.2 ⟨h.1,gd_iff.2 ⟨h.2.1,hh _ hk⟩⟩⟩
  ·exact h.elim
 ·rename_i hu
  simp only [gd_iff] at h
  obtain ⟨h1,h2,h⟩:=h
  split at h
  ·rename_i hi
   obtain ⟨c,hK,hh⟩:=eqI64_det h
   exact ⟨_,hK,fun K' hk=>by unfold vcEq; simp only [hu,hi]; exact gd_iff.2 ⟨h1,gd_iff.2 ⟨h2,hh _ hk⟩⟩⟩
  ·rename_i hi
   split at h
   ·rename_i ts hts
    obtain ⟨c,hK,hh⟩:=eqMx_det h
    exact ⟨_,hK,fun K' hk=>by unfold vcEq; simp only [hu,hi,hts]; exact gd_iff.2 ⟨h1,gd_iff.2 ⟨h2,hh _ hk⟩⟩⟩
   ·rename_i hts
    split at h
    ·rename_i ks hks
     obtain ⟨hx,hy,hK⟩:=h
     exact ⟨_,hK,fun K' hk=>by unfold vcEq; simp only [hu,hi,hts,hks]; exact gd_iff.2 ⟨h1,gd_iff.2 ⟨h2,hx,hy,hk⟩⟩⟩
    ·exact h.elim
 ·exact h.elim
theorem vcBin_det {op:BinOp} {t:TypeId} {x y:Value} {K:Value->Prop} (h:vcBin P op t x y K):∃ v,K v/\vcBin P op t x y (fun u=>u=v):=by
 unfold vcBin at h
 split at h
 case h_26=>exact h.elim
 case h_25 =>
  obtain ⟨b,hK,hh⟩:=vcEq_det h
  refine ⟨_,hK,?_⟩
  unfold vcBin
  split <;> first | exact hh _ rfl | (exfalso; rename_i hx; first | exact hx _ _ _ _ rfl rfl rfl rfl | exact hx _ _ _ _ rfl rfl | exact hx _ _ _ _ rfl rfl rfl | exact hx _ _ rfl rfl | exact hx _ _ rfl rfl rfl) | (simp_all; done) | (exfalso; simp_all; rename_i hx; exact hx _ _ _ _ rfl rfl rfl rfl)
 case h_24 =>
  obtain ⟨b,hK,hh⟩:=vcEq_det h
  refine ⟨_,hK,?_⟩
  unfold vcBin
  split <;> first | exact hh _ rfl | (exfalso; rename_i hx; first | exact hx _ _ _ _ rfl rfl rfl rfl | exact hx _ _ _ _ rfl rfl | exact hx _ _ _ _ rfl rfl rfl | exact hx _ _ rfl rfl | exact hx _ _ rfl rfl rfl) | (simp_all; done) | (exfalso; simp_all; rename_i hx; exact hx _ _ _ _ rfl rfl rfl rfl)
 all_goals first
  | exact ⟨_,h,rfl⟩
  | exact ⟨_,(gd_iff.1 h).2,gd_iff.2 ⟨(gd_iff.1 h).1,rfl⟩⟩
  | (simp only [gd_iff] at h; exact ⟨_,h.2.2,gd_iff.2 ⟨h.1,gd_iff.2 ⟨h.2.1,rfl⟩⟩⟩)
theorem ifNil_det {x:Value} {K:Bool->Prop} (h:ifNil x K):∃ b,K b/\∀ K':Bool->Prop,K' b->ifNil x K':=by
 unfold ifNil at h ⊢
 split at h
 ·exact ⟨_,h,fun K' hk=>hk⟩
 ·exact ⟨_,h,fun K' hk=>hk⟩
 ·exact h.elim
theorem vcBinI_det {op:BinOp} {t:TypeId} {oy:Operand} {x y:Value} {K:Value->Prop} (h:vcBinI P op t oy x y K):∃ v,K v/\vcBinI P op t oy x y (fun u=>u=v):=by
 unfold vcBinI at h ⊢
 rw [vIf_iff] at h
 cases hb:(isIfT P t && (constB oy && nilB y)) with
 | false =>
  obtain ⟨v,hK,hh⟩:=vcBin_det (h.2 hb)
  exact ⟨v,hK,hh⟩
 | true =>
  have h':=h.1 hb
  clear h
  split at h'
  ·obtain ⟨b,hK,hh⟩:=ifNil_det h'
   exact ⟨_,hK,hh (fun b1=>Value.bool b1=Value.bool b) rfl⟩
  ·obtain ⟨b,hK,hh⟩:=ifNil_det h'
   exact ⟨_,hK,hh (fun b1=>Value.bool (!b1)=Value.bool (!b)) rfl⟩
  ·exact h'.elim
def loadB:Op->Bool
 | .load ..=>true
 | _=>false
theorem vcStill_det {ρ:Operand->Value} {op:Op} {K:Value->Prop} (hl:loadB op=false) (h:vcStill P ρ w op K):∃ v,K v/\∀ w',vcStill P ρ w' op (fun u=>u=v):=by
 unfold vcStill at h
 split at h
 ·exact ⟨_,h,fun _=>rfl⟩
 ·exact ⟨_,h,fun _=>rfl⟩
 ·split at h
  ·rename_i b hb
   cases b
   ·exact ⟨_,h,fun _=>by simp only [vcStill,hb,vIf]⟩
   ·exact ⟨_,h,fun _=>by simp only [vcStill,hb,vIf]⟩
  ·exact h.elim
 ·split at h
  ·rename_i he
   split at h
   ·rename_i hv; exact ⟨_,h,fun _=>by simp only [vcStill,he,hv]⟩
   ·exact h.elim
  ·exact h.elim
 ·exact ⟨_,h,fun _=>rfl⟩
 ·obtain ⟨v,hK,hh⟩:=vcNil_det h; exact ⟨v,hK,fun _=>hh⟩
 ·obtain ⟨v,hK,hh⟩:=vcFA_det h; exact ⟨v,hK,fun _=>hh⟩
 ·obtain ⟨v,hK,hh⟩:=vcFd_det h; exact ⟨v,hK,fun _=>hh⟩
 ·obtain ⟨v,hK,hh⟩:=vcIxA_det h; exact ⟨v,hK,fun _=>hh⟩
 ·obtain ⟨v,hK,hh⟩:=vcIx_det h; exact ⟨v,hK,fun _=>hh⟩
 ·simp [loadB] at hl
 ·obtain ⟨v,hK,hh⟩:=vcUn_det h; exact ⟨v,hK,fun _=>hh⟩
 ·obtain ⟨v,hK,hh⟩:=vcBinI_det h; exact ⟨v,hK,fun _=>hh⟩
 ·obtain ⟨v,hK,hh⟩:=vcConv_det h; exact ⟨v,hK,fun _=>hh⟩
 ·obtain ⟨v,hK,hh⟩:=vcSl_det h; exact ⟨v,hK,fun _=>hh⟩
 ·obtain ⟨v,hK,hh⟩:=vcBuild_det h; exact ⟨v,hK,fun _=>hh⟩
 ·split at h
  ·rename_i h1 h2; obtain ⟨v,hK,hh⟩:=vcLen_det h; exact ⟨v,hK,fun _=>by simp only [vcStill,h1,h2]; exact hh⟩
  ·exact h.elim
 ·split at h
  ·rename_i h1 h2; obtain ⟨v,hK,hh⟩:=vcCap_det h; exact ⟨v,hK,fun _=>by simp only [vcStill,h1,h2]; exact hh⟩
  ·exact h.elim
 ·obtain ⟨v,hK,hh⟩:=vcMm_det h; exact ⟨v,hK,fun _=>hh⟩
 ·obtain ⟨v,hK,hh⟩:=vcMm_det h; exact ⟨v,hK,fun _=>hh⟩
 ·exact h.elim
end
structure Hd where
 S:World->Prop
 ds:Nat->Bool
def LClosed (md:Region.Mode) (ops:Array Oper) (l:Array Bool):Prop :=
 ∀ j oj,ops[j]?=some oj->l.getD j false=true->∀ e ∈ oj.after,Region.binds md e=true->l.getD e.on false=true
section
variable {P:Program} {ops:Array Oper} {Q:Exit->Act->World->Prop} {md:Region.Mode}
theorem LClosed.set {l:Array Bool} {i:Nat} (h:LClosed md ops l) (hi:i ∈ Region.ready md ops l):LClosed md ops (l.setIfInBounds i true):=by
 obtain ⟨_,oi,hoi,hall⟩:=mem_ready.1 hi
 intro j oj hj hl e he hb
 by_cases hij:i=j
 ·subst hij
  have:oj=oi:=Option.some.inj (hj.symm.trans hoi)
  subst this
  exact getD_set_true (hall e he hb)
 ·rw [getD_set_ne false hij] at hl
  exact getD_set_true (h j oj hj hl e he hb)
def wpF (P:Program) (md:Region.Mode) (ops:Array Oper) (Q:Exit->Act->World->Prop) (H:List Hd):Nat->Array Bool->Act->World->Prop
 | 0,l,a,w=>Region.ready md ops l=[]/\Q .normal a w
 | n+1,l,a,w =>
  (Region.ready md ops l=[]->Q .normal a w) /\
  ∀ i ∈ Region.ready md ops l,wpOp P ops Q i (fun a' w'=>(∀ h ∈ H,h.ds i=false->h.S w->h.S w')/\wpF P md ops Q H n (l.setIfInBounds i true) a' w') a w
theorem wpAny_of_wpF {H:List Hd}:∀ (n:Nat) (l:Array Bool) (a:Act) (w:World),wpF P md ops Q H n l a w->wpAny P md ops Q n l a w
 | 0,_,_,_,h=>h
 | n+1,_,_,_,h=>⟨h.1,fun i hi=>wpOp_mono (fun a' w' h'=>wpAny_of_wpF n _ a' w' h'.2) (h.2 i hi)⟩
theorem wpF_mono {H H':List Hd} (hh:∀ h ∈ H',h ∈ H\/∀ w,h.S w):∀ (n:Nat) (l:Array Bool) (a:Act) (w:World),wpF P md ops Q H n l a w->wpF P md ops Q H' n l a w
 | 0,_,_,_,h=>h
 | n+1,_,_,_,h=>⟨h.1,fun i hi=>wpOp_mono (fun a' w' h'=>⟨fun x hx hd hS=>(hh x hx).elim (fun hm=>h'.1 x hm hd hS) (fun ht=>ht w'),wpF_mono hh n _ a' w' h'.2⟩) (h.2 i hi)⟩
theorem wpF_first {H:List Hd} {h:Hd} (hm:h ∈ H) {i:Nat} {oi:Oper} {v:Value} (hi:ops[i]?=some oi) (hsel:∀ (j:Nat) (o:Oper) cs b,ops[j]?=some o->o.op ≠ .select cs b)
  (hP:∀ c a w,¬ Q (.panic c) a w) (hds:∀ d,h.ds d=true->∀ l,LClosed md ops l->d ∈ Region.ready md ops l->l.getD i false=true) :
  ∀ (fuel:Nat) (l:Array Bool) (a:Act) (w:World),
   (∀ j oj,ops[j]?=some oj->j ≠ i->l.getD j true=false->(∀ e ∈ oj.after,Region.binds md e=true->e.on ≠ i)->oi.apart ops oj=true) ->
   LClosed md ops l->i ∈ Region.ready md ops l->YieldsIf P ops h.S oi v a->h.S w ->
   wpF P md ops Q H fuel (l.setIfInBounds i true) (a.put oi.dst v) w->wpF P md ops Q H (fuel+1) l a w:=by
 intro fuel
 induction fuel with
 | zero =>
  intro l a w _ _ hr hy hS HH
  refine ⟨fun h=>(by rw [h] at hr; cases hr),fun j hj=>?_⟩
  by_cases hji:j=i
  ·subst hji; exact hy.wpOp hi hS ⟨fun _ _ _ h=>h,HH⟩
  ·have:=ready_mono hj hji
   rw [HH.1] at this
   cases this
 | succ fuel ih =>
  intro l a w hfree hc hr hy hS HH
  refine ⟨fun h=>(by rw [h] at hr; cases hr),fun j hj=>?_⟩
  by_cases hji:j=i
  ·subst hji; exact hy.wpOp hi hS ⟨fun _ _ _ h=>h,HH⟩
  ·have h1:=HH.2 j (ready_mono hj hji)
   obtain ⟨hjun,oj,hoj,hall⟩:=mem_ready.1 hj
   have hiun:=(mem_ready.1 hr).1
   have hno:∀ {x:Bool},l.getD i false=true->False:=fun {x} h1=>by
    rcases Nat.lt_or_ge i l.size with h' | h'
    ·simp [h'] at hiun h1; rw [hiun] at h1; cases h1
    ·simp [Array.getElem?_eq_none h'] at h1
   have hnot:∀ e ∈ oj.after,Region.binds md e=true->e.on ≠ i:=fun e he hb heq=>by
    have h1:=hall e he hb
    rw [heq] at h1
    exact hno (x:=true) h1
   have hjd:h.ds j=false:=by
    cases hd:h.ds j
    ·rfl
    ·exact (hno (x:=true) (hds j hd l hc hj)).elim
   have h2:=wpOp_putIf hoj (hfree j oj hoj hji hjun hnot) (fun cs b=>hsel i oi cs b hi) (fun cs b=>hsel j oj cs b hoj) (fun c a w hq=>absurd hq (hP c _ w)) hy h1
   have hfree':∀ k ok,ops[k]?=some ok->k ≠ i->(l.setIfInBounds j true).getD k true=false ->
     (∀ e ∈ ok.after,Region.binds md e=true->e.on ≠ i)->oi.apart ops ok=true:=fun k ok hk hki hun hno=>by
    refine hfree k ok hk hki ?_ hno
    by_cases hjk:j=k
    ·subst hjk; exact hjun
    ·rw [getD_set_ne true hjk] at hun; exact hun
   refine wpOp_mono (fun a' w' h3=>⟨h3.2.1,ih (l.setIfInBounds j true) a' w' hfree' (hc.set hj) (ready_mono hr (Ne.symm hji)) h3.1 (h3.2.1 h hm hjd hS) ?_⟩) h2
   rw [Array.setIfInBounds_comm _ _ hji]
   exact h3.2.2
end
def maskE (md:Region.Mode) (acc:List Nat):List Edge->Nat
 | []=>0
 | e :: r=>if Region.binds md e then (2 ^ e.on ||| (acc.getD e.on 0)) ||| maskE md acc r else maskE md acc r
def waitsG (md:Region.Mode):List Oper->List Nat->List Nat
 | [],acc=>acc
 | o :: r,acc=>waitsG md r (acc ++ [maskE md acc o.after.toList])
def waits (all:List Oper):List Nat:=waitsG .any all []
def waitsB (all:List Oper) (i k:Nat):Bool:=Nat.testBit ((waits all).getD k 0) i
theorem maskE_bit {md:Region.Mode} {acc:List Nat} {i:Nat}:∀ {es:List Edge},(maskE md acc es).testBit i=true->∃ e ∈ es,Region.binds md e=true/\(e.on=i\/(acc.getD e.on 0).testBit i=true)
 | [],h=>by simp [maskE] at h
 | e :: r,h=>by
  unfold maskE at h
  split at h
  ·rename_i hb
   rw [Nat.testBit_or,Nat.testBit_or,Bool.or_eq_true,Bool.or_eq_true] at h
   rcases h with (h | h) | h
   ·rw [Nat.testBit_two_pow] at h
    exact ⟨e,List.mem_cons_self,hb,.inl (by simpa using h)⟩
   ·exact ⟨e,List.mem_cons_self,hb,.inr h⟩
   ·obtain ⟨x,hx,h⟩:=maskE_bit h
    exact ⟨x,List.mem_cons_of_mem _ hx,h⟩
  ·obtain ⟨x,hx,h⟩:=maskE_bit h
   exact ⟨x,List.mem_cons_of_mem _ hx,h⟩
def WInv (md:Region.Mode) (ops:Array Oper) (i:Nat) (acc:List Nat):Prop :=
 ∀ d,(acc.getD d 0).testBit i=true->∃ o,ops[d]?=some o/\∀ l,LClosed md ops l->(∀ e ∈ o.after,Region.binds md e=true->l.getD e.on false=true)->l.getD i false=true
theorem waitsG_inv {md:Region.Mode} {ops:Array Oper} {i:Nat}:∀ (r:List Oper) (acc:List Nat),(∀ j,r[j]?=ops[acc.length+j]?)->WInv md ops i acc->WInv md ops i (waitsG md r acc)
 | [],acc,_,h=>h
 | o :: r,acc,hr,h=>by
  unfold waitsG
  have ho:ops[acc.length]?=some o:=by simpa using (hr 0).symm
  refine waitsG_inv r _ (fun j=>by have:=hr (j+1); simp only [List.length_append,List.length_cons,List.length_nil,List.getElem?_cons_succ] at this ⊢; rw [this]; congr 1; omega) ?_
  intro d hd
  rw [List.getD_eq_getElem?_getD] at hd
  by_cases hlt:d < acc.length
  ·rw [List.getElem?_append_left hlt,<- List.getD_eq_getElem?_getD] at hd
   exact h d hd
  ·by_cases heq:d=acc.length
   ·subst heq
    rw [List.getElem?_append_right (Nat.le_refl _)] at hd
    simp only [Nat.sub_self,List.getElem?_cons_zero,Option.getD_some] at hd
    refine ⟨o,ho,fun l hc hall=>?_⟩
    obtain ⟨e,he,hb,h2⟩:=maskE_bit hd
    have hon:=hall e (by simpa using he) hb
    rcases h2 with h2 | h2
    ·rw [<- h2]; exact hon
    ·obtain ⟨o',ho',hh⟩:=h e.on h2
     exact hh l hc (fun e' he' hb'=>hc _ _ ho' hon e' he' hb')
   ·rw [List.getElem?_eq_none (by simp; omega)] at hd
    simp at hd
theorem waitsB_spec {all:List Oper} {i k:Nat} (h:waitsB all i k=true) (l:Array Bool) (hc:LClosed .any all.toArray l) (hk:k ∈ Region.ready .any all.toArray l):l.getD i false=true:=by
 have inv:WInv .any all.toArray i (waits all):=waitsG_inv all [] (fun j=>by simp) (fun d hd=>by simp at hd)
 obtain ⟨o,ho,hh⟩:=inv k h
 obtain ⟨_,o',ho',hall⟩:=mem_ready.1 hk
 have:o'=o:=Option.some.inj (ho'.symm.trans ho)
 subst this
 exact hh l hc hall
structure HB where
 i:Nat
 w:World
 b:Nat
 o:Nat
 n:Nat
def kp (w:World) (b o n:Nat) (w':World) (A:Prop):Prop:=(∀ j,j < n->cellAt w' b (o+j)=cellAt w b (o+j))/\A
def kps:List HB->World->Prop->Prop
 | [],_,A=>A
 | h :: r,w',A=>kp h.w h.b h.o h.n w' (kps r w' A)
def liveH (all:List Oper) (k:Nat):List HB->List HB
 | []=>[]
 | h :: r=>match waitsB all h.i k with
  | true=>liveH all k r
  | false=>h :: liveH all k r
def HB.S (h:HB) (w':World):Prop:=∀ j,j < h.n->cellAt w' h.b (h.o+j)=cellAt h.w h.b (h.o+j)
def HB.hd (all:List Oper) (h:HB):Hd:=⟨h.S,fun d=>waitsB all h.i d⟩
theorem kps_out {w':World} {A:Prop}:∀ {H:List HB},kps H w' A->(∀ h ∈ H,h.S w')/\A
 | [],h=>⟨fun _ hh=>(by cases hh),h⟩
 | x :: r,h=>by
  obtain ⟨h1,h2⟩:=h
  obtain ⟨h3,h4⟩:=kps_out h2
  refine ⟨fun y hy=>?_,h4⟩
  rcases List.mem_cons.1 hy with rfl | hy
  ·exact h1
  ·exact h3 y hy
theorem liveH_mem {all:List Oper} {k:Nat} {h:HB}:∀ {H:List HB},h ∈ H->waitsB all h.i k=false->h ∈ liveH all k H
 | x :: r,hm,hw=>by
  unfold liveH
  rcases List.mem_cons.1 hm with rfl | hm
  ·simp [hw]
  ·split
   ·exact liveH_mem hm hw
   ·exact List.mem_cons_of_mem _ (liveH_mem hm hw)
def ldN (P:Program) (t:TypeId):Nat :=
 match P.underlying t with
 | some (.struct _) | some (.array _ _)=>szOf P t
 | _=>1
def vcG (all:List Oper) (o:Oper) (t:List Value) (R S:List Value->Prop):Prop :=
 match o.guard with
 | none=>R t
 | some (j,want) =>
  match slotOf all j with
  | none=>S t
  | some d =>
   match nthV t d with
   | .bool b =>
    vIf b
     (match want with | true=>R (putV t d (.bool true)) | false=>S (putV t d (.bool true)))
     (match want with | false=>R (putV t d (.bool false)) | true=>S (putV t d (.bool false)))
   | _=>S t
theorem vcG_out {all:List Oper} {o:Oper} {t:List Value} {R S:List Value->Prop} (h:vcG all o t R S) :
  (Region.wanted o (yielded all.toArray (actOf t).tmps)=true/\R t)\/(Region.wanted o (yielded all.toArray (actOf t).tmps)=false/\S t):=by
 unfold vcG at h
 unfold Region.wanted
 split at h
 ·rename_i hg
  simp only [hg]
  exact .inl ⟨trivial,h⟩
 ·rename_i j want hg
  simp only [hg]
  have hy:=yielded_of (all:=all) (t:=t) (j:=j)
  generalize yielded all.toArray (actOf t).tmps j=y at hy ⊢
  split at h
  ·rename_i hd
   simp only [hd] at hy
   subst hy
   exact .inr ⟨by simp,h⟩
  ·rename_i d hd
   simp only [hd] at hy
   generalize hv:nthV t d=x at h hy
   cases x
   case bool b =>
    simp only at hy h
    subst hy
    cases b <;> cases want <;> simp only [vIf,putV_self hv] at h <;> first | exact .inl ⟨by simp,h⟩ | exact .inr ⟨by simp,h⟩
   all_goals
    simp only at hy h
    subst hy
    exact .inr ⟨by simp,h⟩
def vcS (P:Program) (ρ:Operand->Value) (w:World) (i:Nat) (H:List HB) (op:Op) (K:List HB->Value->Prop):Prop :=
 match op with
 | .load t a=>(match ρ a with | .pointer q=>dr q (fun b o=>vcLd P t w b o (fun v=>K (⟨i,w,b,o,ldN P t⟩ :: H) v)) | _=>False)
 | op=>vcStill P ρ w op (K H)
def firstStill (P:Program) (all:List Oper):List Nat->Option Nat
 | []=>none
 | i :: r=>match all[i]? with
  | some o=>(match stillB P o.op with | true=>some i | false=>firstStill P all r)
  | none=>firstStill P all r
def pickO (P:Program) (all:List Oper) (rs:List Nat):Option Nat :=
 match firstStill P all rs with
 | some i=>some i
 | none=>rs.head?
def conjL:List Nat->(Nat->Prop)->Prop
 | [],_=>True
 | [i],F=>F i
 | i :: r,F=>F i/\conjL r F
theorem conjL_mem {F:Nat->Prop}:∀ {l:List Nat},conjL l F->∀ i ∈ l,F i
 | [],_,i,hi=>by cases hi
 | [j],h,i,hi=>by
  have:i=j:=by simpa using hi
  subst this; exact h
 | j :: k :: r,h,i,hi=>by
  rcases List.mem_cons.1 hi with rfl | hi
  ·exact h.1
  ·exact conjL_mem h.2 i hi
def vcOrd (P:Program) (all:List Oper) (K:List Value->World->Prop):Nat->Array Bool->List HB->List Value->World->Prop
 | 0,l,_,t,w=>gd (Region.ready .any all.toArray l).isEmpty (K t w)
 | n+1,l,H,t,w =>
  match pickO P all (Region.ready .any all.toArray l) with
  | none=>K t w
  | some i =>
   match all[i]? with
   | none=>False
   | some o =>
    match stillB P o.op with
    | true=>gd (Region.free .any all.toArray l i) (vcG all o t (fun t=>vcS P (ev t) w i H o.op (fun H' v=>vcOrd P all K n (l.setIfInBounds i true) H' (putO t o.dst v) w)) (fun t=>vcOrd P all K n (l.setIfInBounds i true) H (putO t o.dst undef) w))
    | false=>conjL (Region.ready .any all.toArray l) (fun i=>match all[i]? with
     | none=>False
     | some o=>vcG all o t (fun t=>vcOp P (ev t) o w (fun v w'=>kps (liveH all i H) w' (vcOrd P all K n (l.setIfInBounds i true) H (putO t o.dst v) w'))) (fun t=>vcOrd P all K n (l.setIfInBounds i true) H (putO t o.dst undef) w))
theorem firstStill_mem {P:Program} {all:List Oper} {i:Nat}:∀ {rs:List Nat},firstStill P all rs=some i->i ∈ rs
 | [],h=>by simp [firstStill] at h
 | x :: r,h=>by
  unfold firstStill at h
  split at h
  ·split at h
   ·simp only [Option.some.injEq] at h; subst h; exact List.mem_cons_self
   ·exact List.mem_cons_of_mem _ (firstStill_mem h)
  ·exact List.mem_cons_of_mem _ (firstStill_mem h)
theorem pickO_mem {P:Program} {all:List Oper} {i:Nat} {rs:List Nat} (h:pickO P all rs=some i):i ∈ rs:=by
 unfold pickO at h
 split at h
 ·rename_i hf; simp only [Option.some.injEq] at h; subst h; exact firstStill_mem hf
 ·exact List.mem_of_head? h
theorem pickO_none {P:Program} {all:List Oper} {rs:List Nat} (h:pickO P all rs=none):rs=[]:=by
 unfold pickO at h
 split at h
 ·cases h
 ·cases rs <;> simp_all
section
variable {P:Program} {w:World}
theorem vcLd_det {t:TypeId} {b o:Nat} {K:Value->Prop} (h:vcLd P t w b o K):∃ v,K v/\∀ w',(∀ j,j < ldN P t->cellAt w' b (o+j)=cellAt w b (o+j))->vcLd P t w' b o (fun u=>u=v):=by
 unfold vcLd at h
 split at h
 case h_12=>exact h.elim
 all_goals (rename_i hu; unfold vcLd ldN; simp only [hu])
 case h_1 | h_2 =>
  obtain ⟨cs,hl,hc,h⟩:=h
  exact ⟨_,h,fun w' e=>⟨cs,hl,fun j v hj=>(e j (by have:=(List.getElem?_eq_some_iff.1 hj).1; omega)).trans (hc j v hj),rfl⟩⟩
 case h_7 =>
  obtain ⟨x,y,z,hc,h⟩:=h
  exact ⟨_,h,fun w' e=>⟨x,y,z,(e 0 (by omega)).trans hc,rfl⟩⟩
 all_goals
  obtain ⟨x,hc,h⟩:=h
  exact ⟨_,h,fun w' e=>⟨x,(e 0 (by omega)).trans hc,rfl⟩⟩
theorem vcOrd_sound (hN:NoCount P) {all:List Oper} {N:Nat} {K:List Value->World->Prop} {Q:Exit->Act->World->Prop} (hsel:Region.noSelect all.toArray=true)
  (hK:∀ t w,t.length=N->K t w->Q .normal (actOf t) w) (hP:∀ c a w,¬ Q (.panic c) a w) :
  ∀ (n:Nat) (l:Array Bool) (H:List HB) (t:List Value) (w:World),t.length=N->LClosed .any all.toArray l->vcOrd P all K n l H t w ->
   wpF P .any all.toArray Q (H.map (HB.hd all)) n l (actOf t) w
 | 0,l,H,t,w,hl,hc,h=>by
  obtain ⟨h1,h2⟩:=gd_iff.1 h
  exact ⟨by simpa using h1,hK t w hl h2⟩
 | n+1,l,H,t,w,hl,hc,h=>by
  unfold vcOrd at h
  split at h
  ·rename_i hp
   have hr:=pickO_none hp
   exact ⟨fun _=>hK t w hl h,fun i hi=>by rw [hr] at hi; cases hi⟩
  ·rename_i i hp
   have hr:=pickO_mem hp
   split at h
   ·exact h.elim
   ·rename_i o ho
    have ho':all.toArray[i]?=some o:=by simpa using ho
    have hc':=hc.set hr
    split at h
    ·rename_i hst
     obtain ⟨hf,h⟩:=gd_iff.1 h
     have hfree:=Region.free_spec ho' hf
     have first:∀ (hd:Hd) (H':List Hd) (v:Value),hd ∈ H'->(∀ x ∈ H.map (HB.hd all),x ∈ H'\/∀ w,x.S w)->(∀ d,hd.ds d=true->∀ l,LClosed .any all.toArray l->d ∈ Region.ready .any all.toArray l->l.getD i false=true) ->
       YieldsIf P all.toArray hd.S o v (actOf t)->hd.S w->wpF P .any all.toArray Q H' n (l.setIfInBounds i true) ((actOf t).put o.dst v) w->wpF P .any all.toArray Q (H.map (HB.hd all)) (n+1) l (actOf t) w :=
      fun hd H' v hm hsub hds hy hS hw=>wpF_mono hsub _ _ _ _ (wpF_first hm ho' (Region.noSelect_spec hsel) hP hds n l (actOf t) w hfree hc hr hy hS hw)
     have pure1:∀ v,YieldsIf P all.toArray (fun _=>True) o v (actOf t)->vcOrd P all K n (l.setIfInBounds i true) H (putO t o.dst v) w->wpF P .any all.toArray Q (H.map (HB.hd all)) (n+1) l (actOf t) w:=fun v hy hn=>by
      refine first ⟨fun _=>True,fun _=>false⟩ (⟨fun _=>True,fun _=>false⟩ :: H.map (HB.hd all)) v List.mem_cons_self (fun x hx=>.inl (List.mem_cons_of_mem _ hx)) (fun d hd=>by cases hd) hy trivial ?_
      refine wpF_mono (fun x hx=>?_) _ _ _ _ (by rw [put_eq]; exact vcOrd_sound hN hsel hK hP n _ H _ w (by rw [putO_length]; exact hl) hc' hn)
      rcases List.mem_cons.1 hx with rfl | hx
      ·exact .inr (fun _=>trivial)
      ·exact .inl hx
     rcases vcG_out h with ⟨hw,h⟩ | ⟨hw,h⟩
     ·unfold vcS at h
      split at h
      ·rename_i ty a hop
       split at h
       ·rename_i q hq
        rw [dr_iff] at h
        obtain ⟨b,off,rfl,h⟩:=h
        obtain ⟨v,hn,hh⟩:=vcLd_det h
        let hb:HB:=⟨i,w,b,off,ldN P ty⟩
        refine first (hb.hd all) ((hb :: H).map (HB.hd all)) v (List.mem_cons_self) (fun x hx=>.inl (List.mem_cons_of_mem _ hx)) (fun d hd=>waitsB_spec hd) (.inl ⟨hw,fun w' hS=>?_⟩) (fun j _=>rfl) ?_
        ·have h2:=hh w' hS
         obtain ⟨v',hv',e⟩:=vcLd_run h2
         subst e
         obtain ⟨dst,op,ty',pos,after,guard⟩:=o
         simp only at hop
         subst hop
         rw [ev_eq]
         simp [execOp,Instr.loadAt,Instr.sureAddr,hq,hv',Sem.run_bind]
        ·rw [put_eq]; exact vcOrd_sound hN hsel hK hP n _ (hb :: H) _ w (by rw [putO_length]; exact hl) hc' hn
       ·exact h.elim
      ·rename_i hnl
       have hl':loadB o.op=false:=by
        cases hop:o.op <;> first | rfl | (exact absurd hop (hnl _ _))
       obtain ⟨v,hn,hh⟩:=vcStill_det hl' h
       refine pure1 v (.inl ⟨hw,fun w' _=>?_⟩) hn
       obtain ⟨v',hv',e⟩:=vcStill_run (hh w')
       subst e
       rw [ev_eq]
       exact hv'
     ·exact pure1 undef (.inr ⟨hw,rfl⟩) h
    ·refine ⟨fun hn=>(by rw [hn] at hr; cases hr),fun j hj=>?_⟩
     have h:=conjL_mem h j hj
     clear ho ho' hc' hr
     have hc':=hc.set hj
     split at h
     ·exact h.elim
     rename_i o ho
     have ho':all.toArray[j]?=some o:=by simpa using ho
     unfold wpOp
     simp only [ho']
     have ih:=fun (t':List Value) (w':World) (hl':t'.length=N) (h':vcOrd P all K n (l.setIfInBounds j true) H t' w')=>vcOrd_sound hN hsel hK hP n _ H t' w' hl' hc' h'
     rcases vcG_out h with ⟨hw,h⟩ | ⟨hw,h⟩
     ·rw [if_pos hw]
      refine .inl (vcOp_wp hN h (fun v w' hv=>?_) Q)
      obtain ⟨h1,h2⟩:=kps_out hv
      refine ⟨fun x hx hd hS=>?_,by rw [put_eq]; exact ih _ _ (by rw [putO_length]; exact hl) h2⟩
      obtain ⟨hb,hbm,rfl⟩:=List.mem_map.1 hx
      exact h1 hb (liveH_mem hbm hd)
     ·rw [if_neg (by simp [hw])]
      exact ⟨fun x hx hd hS=>hS,by rw [put_eq]; exact ih _ _ (by rw [putO_length]; exact hl) h⟩
def vcDraw (P:Program) (ops:List Oper) (K:List Value->World->Prop) (t:List Value) (w:World):Prop :=
 gd (Region.noSelect ops.toArray) (vcOrd P ops K ops.length (Array.replicate ops.length false) [] t w.drew)
theorem getD_replicate_false (n i:Nat):(Array.replicate n false).getD i false=false:=by
 by_cases h:i < n <;> simp [Array.getD_eq_getD_getElem?,h]
theorem vcDraw_sound (hN:NoCount P) (hm:P.follows .mixedOrders=true) {ops:List Oper} {N id:Nat} {K:List Value->World->Prop} {Q:Exit->Act->World->Prop}
  (hK:∀ t w,t.length=N->K t w->Q .normal (actOf t) w) {t:List Value} (hl:t.length=N) (h:vcDraw P ops K t w):(Code.region id ops.toArray true).wp P Q (actOf t) w:=by
 obtain ⟨hsel,h⟩:=gd_iff.1 h
 refine Go.wp_mono (Q:=fun e a w=>e=.normal/\Q .normal a w) (wp_region_any hm (wpAny_of_wpF (H:=[]) _ _ _ _ ?_)) (fun e a w he=>by rw [he.1]; exact he.2)
 have h0:LClosed .any ops.toArray (Array.replicate ops.length false):=fun j oj _ hh=>by rw [getD_replicate_false] at hh; cases hh
 have:=vcOrd_sound hN (Q:=fun e a w=>e=.normal/\Q .normal a w) hsel (fun t w hl hk=>⟨rfl,hK t w hl hk⟩) (fun c a w hh=>by cases hh.1) ops.length _ [] t w.drew hl h0 h
 simpa using this
end
def yld (P:Program) (l:Nat) (args:List Value) (w:World) (K:Bool->World->Prop):Prop:=YieldAt Fence.wide 0 P l args.toArray w (fun e w'=>∃ b,e=.returned (.bool b)/\K b w')
abbrev Wd (ro:Option Nat):Fence:={ Fence.wide with round:=ro }
def vcOpY (P:Program) (ρ:Operand->Value) (o:Oper) (w:World) (K:Value->World->Prop):Prop :=
 match o.op with
 | .call { callee:=.value f,args,argTypes:=_ } =>
  match ρ f with
  | .func (.yield l) first captured=>gd (Nat.beq (first.toList.length+captured.toList.length) 0) (yld P l (args.toList.map ρ) w (fun b w'=>K (.bool b) w'))
  | _=>vcOp P ρ o w K
 | _=>vcOp P ρ o w K
def vcCallU (P:Program) (f:Value) (args:List Value) (w:World) (K:Value->World->Prop):Prop :=
 match f with
 | .func (.yield l) first captured=>gd (Nat.beq (first.toList.length+captured.toList.length) 0) (yld P l args w (fun b w'=>K (.bool b) w'))
 | _=>vcCallV P f args w K
def vcListY (P:Program) (all:List Oper) (K:List Value->World->Prop):List Oper->List Value->World->Prop
 | [],t,w=>K t w
 | o :: r,t,w =>
  match o.guard with
  | none=>vcOpY P (ev t) o w (fun v w'=>vcListY P all K r (putO t o.dst v) w')
  | some (j,want) =>
   match slotOf all j with
   | none=>vcListY P all K r (putO t o.dst undef) w
   | some d =>
    match nthV t d with
    | .bool b =>
     vIf b
      (match want with
      | true=>vcOpY P (ev (putV t d (.bool true))) o w (fun v w'=>vcListY P all K r (putO (putV t d (.bool true)) o.dst v) w')
      | false=>vcListY P all K r (putO (putV t d (.bool true)) o.dst undef) w)
      (match want with
      | false=>vcOpY P (ev (putV t d (.bool false))) o w (fun v w'=>vcListY P all K r (putO (putV t d (.bool false)) o.dst v) w')
      | true=>vcListY P all K r (putO (putV t d (.bool false)) o.dst undef) w)
    | _=>vcListY P all K r (putO t o.dst undef) w
section
variable {P:Program} {w:World}
theorem no_defer {ρ:Operand->Value} {o:Oper} {K:Value->World->Prop} (h:vcOpY P ρ o w K):∀ c,o.op ≠ .defer c:=by
 obtain ⟨dst,op,ty,pos,after,guard⟩:=o
 intro c hc
 dsimp only at hc
 subst hc
 simp [vcOpY,vcOp,vcStill] at h
theorem upon_in {ro:Option Nat} {n:Nat} {o:Oper} {a:Act} {next:Act->World->Prop} {Q:Exit->Act->World->Prop} {r:Result Next} (h:o.upon P a next Q r):o.uponIn (Wd ro) n P a next Q r:=by
 unfold Oper.upon at h
 unfold Oper.uponIn
 split at h
 ·exact h
 ·exact h
 ·exact h
 ·refine ⟨fun hd=>(by cases hd),callsIn_wide.2 h⟩
 ·exact ⟨fun hd=>(by cases hd),fun c cs _=>let ⟨v,w',q,s⟩:=h c cs; ⟨v,w',q,stepsIn_wide.2 s⟩⟩
 ·exact h
 ·exact h.elim
theorem yld_exec {o:Oper} {f:Operand} {args:Array Operand} {ts:Array TypeId} {ρ:Operand->Value} {l:Nat} (ho:o.op=.call { callee:=.value f,args:=args,argTypes:=ts }) (hf:ρ f=.func (.yield l) #[] #[]) :
  execOp ρ o=Instr.yield l (args.map ρ):=by
 simp [execOp,ho,resolve,hf,Deferred.ofValue,invoke]
theorem vcOpY_wpIn (hN:NoCount P) {ro:Option Nat} {n:Nat} {t:List Value} {o:Oper} {K:Value->World->Prop} (h:vcOpY P (ev t) o w K) {next:Act->World->Prop} (hn:∀ v w',K v w'->next ((actOf t).put o.dst v) w') (Q:Exit->Act->World->Prop) :
  o.wpIn (Wd ro) n P (actOf t) w next Q:=by
 have hd:=no_defer h
 refine ⟨fun f _=>trivial,?_⟩
 rw [Oper.semAt_eq _ _ _ hd]
 have plain:vcOp P (ev t) o w K->o.uponIn (Wd ro) n P (actOf t) next Q ((execOp (actOf t).eval o).run P w):=fun h'=>upon_in (vcOp_wp hN h' hn Q)
 unfold vcOpY at h
 obtain ⟨dst,op,ty,pos,after,guard⟩:=o
 dsimp only at h
 split at h
 ·rename_i f args ts
  split at h
  ·rename_i l first captured hf
   obtain ⟨h0,h⟩:=gd_iff.1 h
   have h0:=Nat.eq_of_beq_eq_true h0
   have e1:first=#[]:=Array.toList_inj.1 (List.length_eq_zero_iff.1 (by omega))
   have e2:captured=#[]:=Array.toList_inj.1 (List.length_eq_zero_iff.1 (by omega))
   subst e1; subst e2
   obtain ⟨fn,tmps,assign,body,hy,hR⟩:=h
   have e3:(args.toList.map (ev t)).toArray=args.map (ev t):=by rw [<- Array.toList_map,Array.toArray_toList]
   rw [e3] at hy
   rw [ev_eq,yld_exec rfl hf,hy]
   refine ⟨fun hd=>(by cases hd),trivial,fun c cs _=>?_⟩
   obtain ⟨e,w',⟨b,rfl,hK⟩,hs⟩:=hR.2 c cs (room_wide _)
   exact ⟨.returned (.bool b),w',hn _ _ hK,hs⟩
  ·exact plain h
 ·exact plain h
theorem vcListY_sound (hN:NoCount P) {ro:Option Nat} {n:Nat} {all:List Oper} {N:Nat} {K:List Value->World->Prop} {Q:Exit->Act->World->Prop} (hK:∀ t w,t.length=N->K t w->Q .normal (actOf t) w) :
  ∀ (l p:List Oper) (t:List Value) (w:World),all=p ++ l->t.length=N->vcListY P all K l t w->wpOpsIn (Wd ro) n P all.toArray Q (List.range' p.length l.length) (actOf t) w
 | [],p,t,w,ha,hl,h=>hK t w hl h
 | o :: r,p,t,w,ha,hl,h=>by
  have ih:=fun t w=>vcListY_sound hN (ro:=ro) (n:=n) (all:=all) hK r (p ++ [o]) t w (by rw [ha]; simp)
  rw [List.length_append,List.length_singleton] at ih
  have ho:all.toArray[p.length]?=some o:=by rw [List.getElem?_toArray,ha,List.getElem?_append_right (Nat.le_refl _),Nat.sub_self]; rfl
  have go:∀ t:List Value,t.length=N->vcOpY P (ev t) o w (fun v w'=>vcListY P all K r (putO t o.dst v) w')->o.wpIn (Wd ro) n P (actOf t) w (wpOpsIn (Wd ro) n P all.toArray Q (List.range' (p.length+1) r.length)) Q:=by
   intro t hl h
   exact vcOpY_wpIn hN h (fun v w' hv=>by rw [put_eq]; exact ih _ _ (by rw [putO_length]; exact hl) hv) Q
  have sk:∀ t:List Value,t.length=N->vcListY P all K r (putO t o.dst undef) w->(∀ f,o.about P w (actOf t).eval=some f->(Wd ro).fn f)/\wpOpsIn (Wd ro) n P all.toArray Q (List.range' (p.length+1) r.length) ((actOf t).put o.dst undef) w:=by
   intro t hl h
   rw [put_eq]
   exact ⟨fun _ _=>trivial,ih _ _ (by rw [putO_length]; exact hl) h⟩
  rw [List.length_cons,List.range'_succ]
  unfold wpOpsIn
  rw [ho]
  dsimp only
  unfold vcListY at h
  unfold Region.wanted
  split at h
  ·rename_i hg
   simp only [hg,if_true]
   exact go t hl h
  ·rename_i j want hg
   simp only [hg]
   have hy:=yielded_of (all:=all) (t:=t) (j:=j)
   generalize yielded all.toArray (actOf t).tmps j=y at hy ⊢
   split at h
   ·rename_i hd
    simp only [hd] at hy
    subst hy
    rw [if_neg (by simp)]
    exact sk t hl h
   ·rename_i d hd
    simp only [hd] at hy
    generalize hv:nthV t d=x at h hy
    cases x
    case bool b =>
     simp only at hy h
     subst hy
     cases b
     ·simp only [vIf,putV_self hv] at h
      cases want
      ·rw [if_pos (by simp)]; exact go t hl h
      ·rw [if_neg (by simp)]; exact sk t hl h
     ·simp only [vIf,putV_self hv] at h
      cases want
      ·rw [if_neg (by simp)]; exact sk t hl h
      ·rw [if_pos (by simp)]; exact go t hl h
    all_goals
     simp only at hy h
     subst hy
     rw [if_neg (by simp)]
     exact sk t hl h
theorem regionY_sound (hN:NoCount P) {ro:Option Nat} {n id:Nat} {ops:Array Oper} {N:Nat} {K:List Value->World->Prop} {Q:Exit->Act->World->Prop} (hK:∀ t w,t.length=N->K t w->Q .normal (actOf t) w) {t:List Value} (hl:t.length=N) (h:vcListY P ops.toList K ops.toList t w) :
  (Code.region id ops false).wpIn (Wd ro) n P Q (actOf t) w:=by
 refine wpIn_region ?_
 have:=vcListY_sound hN (ro:=ro) (n:=n) (Q:=Q) hK ops.toList [] t w rfl hl h
 rw [List.range_eq_range']
 simpa using this
end
def firstR:Code->Nat
 | .region id _ _=>id
 | .seq a _=>firstR a
 | .block _ b=>firstR b
 | .loop b=>firstR b+1000
 | .scope b=>firstR b
 | .cond _ a _=>firstR a
 | _=>0
def mkT:Nat->Nat->List Nat->List Value->(Nat->Value)->List Value
 | 0,_,_,_,_=>[]
 | n+1,i,l :: ls,v :: vs,d=>if Nat.beq i l then v :: mkT n (i+1) ls vs d else d i :: mkT n (i+1) (l :: ls) (v :: vs) d
 | n+1,i,_,_,d=>d i :: mkT n (i+1) [] [] d
theorem mkT_eq (t:List Value):∀ (n i:Nat) (ls:List Nat),mkT n i ls (ls.map (nthV t)) (nthV t)=(List.range' i n).map (nthV t)
 | 0,i,ls=>by simp [mkT]
 | n+1,i,[]=>by
  simp only [mkT,List.map_nil,List.range'_succ,List.map_cons]
  rw [show mkT n (i+1) [] [] (nthV t)=mkT n (i+1) [] (([]:List Nat).map (nthV t)) (nthV t) from rfl,mkT_eq t n (i+1) []]
 | n+1,i,l :: ls=>by
  simp only [mkT,List.map_cons,List.range'_succ]
  split
  ·rename_i h
   have:i=l:=Nat.eq_of_beq_eq_true h
   subst this
   rw [mkT_eq t n (i+1) ls]
  ·rw [show nthV t l :: List.map (nthV t) ls=(l :: ls).map (nthV t) from rfl,mkT_eq t n (i+1) (l :: ls)]
theorem nthV_range:∀ (t:List Value),(List.range' 0 t.length).map (nthV t)=t:=by
 intro t
 apply List.ext_getElem?
 intro i
 rw [List.getElem?_map]
 by_cases h:i < t.length
 ·rw [List.getElem?_range' h]
  simp [nthV_eq,Array.getD_eq_getD_getElem?,h]
 ·rw [List.getElem?_eq_none (by simp; omega),List.getElem?_eq_none (by omega)]
  rfl
def PT:Nat->Type
 | 0=>Unit
 | n+1=>(Nat×Nat)×PT n
def ptL:(n:Nat)->PT n->List Value
 | 0,_=>[]
 | n+1,x=>.pointer (some ⟨x.1.1,x.1.2,none⟩) :: ptL n x.2
def ptD:(n:Nat)->List Value->PT n
 | 0,_=>()
 | n+1,[]=>((0,0),ptD n [])
 | n+1,v :: r=>((match v with | .pointer (some q)=>(q.block,q.off) | _=>((0,0):Nat×Nat)),ptD n r)
def oneP (v:Value):Bool:=match v with | .pointer (some q)=>(match q.spot with | none=>true | some _=>false) | _=>false
def ptOk:Nat->List Value->Bool
 | 0,[]=>true
 | n+1,v :: r=>oneP v && ptOk n r
 | _,_=>false
theorem pt_back:∀ (n:Nat) (l:List Value),ptOk n l=true->ptL n (ptD n l)=l
 | 0,[],_=>rfl
 | 0,_ :: _,h=>by cases h
 | n+1,[],h=>by cases h
 | n+1,v :: r,h=>by
  have h':(oneP v && ptOk n r)=true:=h
  rw [Bool.and_eq_true] at h'
  have ih:=pt_back n r h'.2
  have h1:=h'.1
  unfold oneP at h1
  split at h1
  ·rename_i q
   obtain ⟨b,o,sp⟩:=q
   cases sp with
   | none=>show Value.pointer (some ⟨b,o,none⟩) :: ptL n (ptD n r)=_; rw [ih]
   | some _=>cases h1
  ·cases h1
inductive SK where
 | kI (k:IntKind) | kB | kS | kP | kL | kSl | kA | kM | kV | kF (g:Nat) | kG (g:Nat) | kY | kH (g:Nat) (n:Nat) | kR (g:Nat)
def SK.T:SK->Type
 | .kI _=>Int | .kB=>Bool | .kS=>ByteArray | .kP=>Option Addr | .kL=>Nat×Nat | .kSl=>Option Addr×Nat×Nat | .kA=>List Value | .kM=>Option Nat | .kV=>Value | .kF _=>Unit | .kG _=>Nat×Nat | .kY=>Nat | .kH _ n=>PT n | .kR _=>Nat×Nat
def SK.enc:(k:SK)->k.T->Value
 | .kI k,x=>.int k x
 | .kB,x=>.bool x
 | .kS,x=>.string x
 | .kP,x=>.pointer x
 | .kL,x=>.pointer (some ⟨x.1,x.2,none⟩)
 | .kSl,x=>.slice x.1 x.2.1 x.2.2
 | .kA,x=>ofL x
 | .kM,x=>.map x
 | .kV,x=>x
 | .kF g,_=>.func (.func g) #[] #[]
 | .kG g,x=>.func (.func g) #[] #[.pointer (some ⟨x.1,x.2,none⟩)]
 | .kY,x=>.func (.yield x) #[] #[]
 | .kH g n,x=>.func (.func g) #[] (ptL n x).toArray
 | .kR g,x=>.func (.func g) #[.pointer (some ⟨x.1,x.2,none⟩)] #[]
def SK.dec:(k:SK)->Value->k.T
 | .kI _,x=>(match x with | .int _ n=>n | _=>(0:Int))
 | .kB,x=>(match x with | .bool n=>n | _=>false)
 | .kS,x=>(match x with | .string n=>n | _=>ByteArray.empty)
 | .kP,x=>(match x with | .pointer n=>n | _=>(none:Option Addr))
 | .kL,x=>(match x with | .pointer (some q)=>(q.block,q.off) | _=>((0,0):Nat×Nat))
 | .kSl,x=>(match x with | .slice q n c=>(q,n,c) | _=>((none,0,0):Option Addr×Nat×Nat))
 | .kA,x=>(match x with | .agg cs=>cs.toList | _=>([]:List Value))
 | .kM,x=>(match x with | .map n=>n | _=>(none:Option Nat))
 | .kV,x=>x
 | .kF _,_=>()
 | .kG _,x=>(match x with | .func _ _ v=>(match v.toList with | [.pointer (some q)]=>(q.block,q.off) | _=>((0,0):Nat×Nat)) | _=>((0,0):Nat×Nat))
 | .kY,x=>(match x with | .func (.yield l) _ _=>l | _=>(0:Nat))
 | .kH _ n,x=>(match x with | .func _ _ v=>ptD n v.toList | _=>ptD n [])
 | .kR _,x=>(match x with | .func _ v _=>(match v.toList with | [.pointer (some q)]=>(q.block,q.off) | _=>((0,0):Nat×Nat)) | _=>((0,0):Nat×Nat))
def kEq:IntKind->IntKind->Bool
 | .i8,.i8 | .i16,.i16 | .i32,.i32 | .i64,.i64 | .u8,.u8 | .u16,.u16 | .u32,.u32 | .u64,.u64=>true
 | _,_=>false
theorem kEq_eq {j k:IntKind} (h:kEq j k=true):j=k:=by cases j <;> cases k <;> first | rfl | cases h
def oneL (l:List Value):Bool:=match l with | [.pointer (some q)]=>(match q.spot with | none=>true | some _=>false) | _=>false
theorem oneL_eq {l:List Value} (h:oneL l=true):∃ b o,l=[.pointer (some ⟨b,o,none⟩)]:=by
 unfold oneL at h
 split at h
 ·rename_i q
  obtain ⟨b,o,sp⟩:=q
  cases sp with
  | none=>exact ⟨b,o,rfl⟩
  | some _=>cases h
 ·cases h
def SK.ok:(k:SK)->Value->Bool
 | .kI k,x=>(match x with | .int k' _=>kEq k' k | _=>false)
 | .kB,x=>(match x with | .bool _=>true | _=>false)
 | .kS,x=>(match x with | .string _=>true | _=>false)
 | .kP,x=>(match x with | .pointer _=>true | _=>false)
 | .kL,x=>(match x with | .pointer (some q)=>(match q.spot with | none=>true | some _=>false) | _=>false)
 | .kSl,x=>(match x with | .slice _ _ _=>true | _=>false)
 | .kA,x=>(match x with | .agg _=>true | _=>false)
 | .kM,x=>(match x with | .map _=>true | _=>false)
 | .kV,_=>true
 | .kF g,x=>(match x with | .func (.func g') u v=>Nat.beq g' g && (u.toList.isEmpty && v.toList.isEmpty) | _=>false)
 | .kG g,x=>(match x with | .func (.func g') u v=>Nat.beq g' g && (u.toList.isEmpty && oneL v.toList) | _=>false)
 | .kY,x=>(match x with | .func (.yield _) u v=>u.toList.isEmpty && v.toList.isEmpty | _=>false)
 | .kH g n,x=>(match x with | .func (.func g') u v=>Nat.beq g' g && (u.toList.isEmpty && ptOk n v.toList) | _=>false)
 | .kR g,x=>(match x with | .func (.func g') u v=>Nat.beq g' g && (v.toList.isEmpty && oneL u.toList) | _=>false)
theorem encdec_L (x:Value) (h:SK.kL.ok x=true):SK.kL.enc (SK.kL.dec x)=x:=by
 cases x
 case pointer q =>
  cases q with
  | none=>cases h
  | some a =>
   obtain ⟨b,o,sp⟩:=a
   cases sp with
   | none=>rfl
   | some _=>cases h
 all_goals cases h
theorem encdec_A (x:Value) (h:SK.kA.ok x=true):SK.kA.enc (SK.kA.dec x)=x:=by
 cases x
 case agg cs =>
  have e:cs.toList.toArray=cs:=by simp
  exact congrArg Value.agg e
 all_goals cases h
theorem encdec_F (g:Nat) (x:Value) (h:(SK.kF g).ok x=true):(SK.kF g).enc ((SK.kF g).dec x)=x:=by
 cases x
 case func f u v =>
  cases f
  case func g' =>
   have h':(Nat.beq g' g && (u.toList.isEmpty && v.toList.isEmpty))=true:=h
   simp only [Bool.and_eq_true] at h'
   obtain ⟨h1,h2,h3⟩:=h'
   have e1:=Nat.eq_of_beq_eq_true h1
   have e2:u=#[]:=by simpa using h2
   have e3:v=#[]:=by simpa using h3
   subst e1; subst e2; subst e3
   rfl
  all_goals cases h
 all_goals cases h
theorem encdec_G (g:Nat) (x:Value) (h:(SK.kG g).ok x=true):(SK.kG g).enc ((SK.kG g).dec x)=x:=by
 cases x
 case func f u v =>
  cases f
  case func g' =>
   have h':(Nat.beq g' g && (u.toList.isEmpty && oneL v.toList))=true:=h
   simp only [Bool.and_eq_true] at h'
   obtain ⟨h1,h2,h3⟩:=h'
   have e1:=Nat.eq_of_beq_eq_true h1
   have e2:u=#[]:=by simpa using h2
   obtain ⟨b,o,e3⟩:=oneL_eq h3
   have e4:v=#[.pointer (some ⟨b,o,none⟩)]:=by
    apply Array.toList_inj.1
    rw [e3]
   subst e1; subst e2; subst e4
   rfl
  all_goals cases h
 all_goals cases h
theorem encdec_Y (x:Value) (h:SK.kY.ok x=true):SK.kY.enc (SK.kY.dec x)=x:=by
 cases x
 case func f u v =>
  cases f
  case yield l =>
   have h':(u.toList.isEmpty && v.toList.isEmpty)=true:=h
   simp only [Bool.and_eq_true] at h'
   obtain ⟨h2,h3⟩:=h'
   have e2:u=#[]:=by simpa using h2
   have e3:v=#[]:=by simpa using h3
   subst e2; subst e3
   rfl
  all_goals cases h
 all_goals cases h
theorem encdec_R (g:Nat) (x:Value) (h:(SK.kR g).ok x=true):(SK.kR g).enc ((SK.kR g).dec x)=x:=by
 cases x
 case func f u v =>
  cases f
  case func g' =>
   have h':(Nat.beq g' g && (v.toList.isEmpty && oneL u.toList))=true:=h
   simp only [Bool.and_eq_true] at h'
   obtain ⟨h1,h2,h3⟩:=h'
   have e1:=Nat.eq_of_beq_eq_true h1
   have e2:v=#[]:=by simpa using h2
   obtain ⟨b,o,e3⟩:=oneL_eq h3
   have e4:u=#[.pointer (some ⟨b,o,none⟩)]:=by
    apply Array.toList_inj.1
    rw [e3]
   subst e1; subst e2; subst e4
   rfl
  all_goals cases h
 all_goals cases h
theorem encdec_H (g n:Nat) (x:Value) (h:(SK.kH g n).ok x=true):(SK.kH g n).enc ((SK.kH g n).dec x)=x:=by
 cases x
 case func f u v =>
  cases f
  case func g' =>
   have h':(Nat.beq g' g && (u.toList.isEmpty && ptOk n v.toList))=true:=h
   simp only [Bool.and_eq_true] at h'
   obtain ⟨h1,h2,h3⟩:=h'
   have e1:=Nat.eq_of_beq_eq_true h1
   have e2:u=#[]:=by simpa using h2
   subst e1; subst e2
   show Value.func (.func g') #[] (ptL n (ptD n v.toList)).toArray=_
   rw [pt_back n _ h3,Array.toArray_toList]
  all_goals cases h
 all_goals cases h
theorem encdec_I (k:IntKind) (x:Value) (h:(SK.kI k).ok x=true):(SK.kI k).enc ((SK.kI k).dec x)=x:=by
 cases x
 case int k' n =>
  have h':kEq k' k=true:=h
  have e:=kEq_eq h'
  subst e
  rfl
 all_goals cases h
theorem SK.enc_dec (k:SK) (x:Value) (h:k.ok x=true):k.enc (k.dec x)=x:=by
 cases k
 case kI k=>exact encdec_I k x h
 case kL=>exact encdec_L x h
 case kA=>exact encdec_A x h
 case kF g=>exact encdec_F g x h
 case kG g=>exact encdec_G g x h
 case kY=>exact encdec_Y x h
 case kH g n=>exact encdec_H g n x h
 case kR g=>exact encdec_R g x h
 case kV=>rfl
 all_goals (cases x <;> first | rfl | cases h)
def Tup:List SK->Type
 | []=>Unit
 | k :: r=>k.T×Tup r
def encs:(ks:List SK)->Tup ks->List Value
 | [],_=>[]
 | k :: r,x=>k.enc x.1 :: encs r x.2
def decs:(ks:List SK)->List Value->Tup ks
 | [],_=>()
 | k :: r,[]=>(k.dec undef,decs r [])
 | k :: r,v :: vs=>(k.dec v,decs r vs)
def oks:List SK->List Value->Bool
 | [],[]=>true
 | k :: r,v :: vs=>k.ok v && oks r vs
 | _,_=>false
theorem encs_decs:∀ (ks:List SK) (vs:List Value),oks ks vs=true->encs ks (decs ks vs)=vs
 | [],[],_=>rfl
 | k :: r,v :: vs,h=>by
  simp only [oks,Bool.and_eq_true] at h
  simp only [decs,encs,SK.enc_dec _ _ h.1,encs_decs r vs h.2]
 | [],_ :: _,h=>by simp [oks] at h
 | _ :: _,[],h=>by simp [oks] at h
structure jnC {σ:Type} (J:σ->World->Prop) (s:σ) (w:World):Prop where
 out:J s w
def loopC {σ:Type} (B:σ->World->(σ->World->Prop)->Prop):Nat->σ->World->Prop
 | 0,_,_=>False
 | n+1,s,w=>B s w (loopC B n)
def slotsOf:List (Nat×SK)->List Nat
 | []=>[]
 | x :: r=>x.1 :: slotsOf r
def kindsOf:List (Nat×SK)->List SK
 | []=>[]
 | x :: r=>x.2 :: kindsOf r
def proj (t:List Value):List Nat->List Value
 | []=>[]
 | i :: r=>nthV t i :: proj t r
theorem proj_eq (t:List Value):∀ l,proj t l=l.map (nthV t)
 | []=>rfl
 | i :: r=>by simp [proj,proj_eq t r]
def vcJ (sl:List (Nat×SK)) (J:Tup (kindsOf sl)->World->Prop) (t:List Value) (w:World):Prop :=
 gd (oks (kindsOf sl) (proj t (slotsOf sl))) (jnC J (decs (kindsOf sl) (proj t (slotsOf sl))) w)
structure Ann where
 lp:List (Nat×List (Nat×SK))
 jn:List (Nat×List (Nat×SK))
def find?:List (Nat×List (Nat×SK))->Nat->Option (List (Nat×SK))
 | [],_=>none
 | x :: r,n=>if Nat.beq x.1 n then some x.2 else find? r n
def lpOf (A:Ann) (n:Nat):List (Nat×SK) :=
 match find? A.lp n with
 | some l=>l
 | none=>[]
def vc (P:Program) (N:Nat) (A:Ann):Code->(Exit->List Value->World->Prop)->List Value->World->Prop
 | .skip,Q,t,w=>Q .normal t w
 | .region _ ops draw,Q,t,w =>
  match draw with
  | false=>vcListY P ops.toList (Q .normal) ops.toList t w
  | true=>vcDraw P ops.toList (Q .normal) t w
 | .seq a b,Q,t,w =>
  match find? A.jn (firstR b) with
  | none=>vc P N A a (fun e t w=>match e with | .normal=>vc P N A b Q t w | e=>Q e t w) t w
  | some sl=>vc P N A a (fun e t w=>match e with | .normal=>vcJ sl (fun s w=>∀ d:Nat->Value,vc P N A b Q (mkT N 0 (slotsOf sl) (encs (kindsOf sl) s) d) w) t w | e=>Q e t w) t w
 | .cond c x y,Q,t,w=>(match ev t c with | .bool b=>vIf b (vc P N A x Q t w) (vc P N A y Q t w) | _=>False)
 | .block id c,Q,t,w=>vc P N A c (fun e t w=>match e with | .exit j=>(if Nat.beq j id then Q .normal t w else Q (.exit j) t w) | e=>Q e t w) t w
 | .loop c,Q,t,w =>
  vcJ (lpOf A (firstR c)) (fun s w=>∃ n,loopC (fun s w C=>∀ d:Nat->Value,vc P N A c (fun e t w'=>match e with | .normal=>vcJ (lpOf A (firstR c)) C t w' | e=>Q e t w') (mkT N 0 (slotsOf (lpOf A (firstR c))) (encs (kindsOf (lpOf A (firstR c))) s) d) w) n s w) t w
 | .exit id,Q,t,w=>Q (.exit id) t w
 | .ret,Q,t,w=>Q .ret t w
 | .scope c,Q,t,w=>vc P N A c (fun e t w=>match e with | .goto _=>False | e=>Q e t w) t w
 | .label _,Q,t,w=>Q .normal t w
 | _,_,_,_=>False
def vcRes (P:Program) (t:List Value) (w:World):List ResultVar->(List Value->Prop)->Prop
 | [],K=>K []
 | .tmp i :: r,K=>vcRes P t w r (fun vs=>K (nthV t i :: vs))
 | .cell a ty :: r,K=>(match nthV t a with | .pointer q=>dr q (fun b o=>vcLd P ty w b o (fun v=>vcRes P t w r (fun vs=>K (v :: vs)))) | _=>False)
def vcFn (P:Program) (A:Ann) (f:FuncId) (args:List Value) (w:World) (Q:Value->World->Prop):Prop :=
 match P.funcs[f]? with
 | some fn =>
  match fn.body with
  | some c=>gd (decide (args.length<=fn.ntmps)) (vc P fn.ntmps A c (fun e t w=>match e with | .normal=>vcRes P t w fn.results.toList (fun vs=>Q (retOf vs) w) | .ret=>vcRes P t w fn.results.toList (fun vs=>Q (retOf vs) w) | _=>False)
    (args ++ List.replicate (fn.ntmps - args.length) undef) w)
  | none=>False
 | none=>False
section
variable {P:Program}
def Post (N:Nat) (Q:Exit->List Value->World->Prop):Exit->Act->World->Prop:=fun e a w=>∃ t,a=actOf t/\t.length=N/\Q e t w
theorem vcJ_out {sl:List (Nat×SK)} {J:Tup (kindsOf sl)->World->Prop} {t:List Value} {w:World} (h:vcJ sl J t w):oks (kindsOf sl) (proj t (slotsOf sl))=true/\J (decs (kindsOf sl) (proj t (slotsOf sl))) w:=⟨(gd_iff.1 h).1,(gd_iff.1 h).2.out⟩
theorem mkT_back {sl:List (Nat×SK)} {t:List Value} {N:Nat} (hl:t.length=N) (hok:oks (kindsOf sl) (proj t (slotsOf sl))=true) :
  mkT N 0 (slotsOf sl) (encs (kindsOf sl) (decs (kindsOf sl) (proj t (slotsOf sl)))) (nthV t)=t:=by
 rw [encs_decs _ _ hok,proj_eq,mkT_eq,<- hl,nthV_range]
theorem vcJ_back {sl:List (Nat×SK)} {t:List Value} {w:World} {N:Nat} {K:List Value->World->Prop} (hl:t.length=N) (h:vcJ sl (fun s w=>∀ d:Nat->Value,K (mkT N 0 (slotsOf sl) (encs (kindsOf sl) s) d) w) t w):K t w:=by
 obtain ⟨hok,h⟩:=vcJ_out h
 have h:=h (nthV t)
 rwa [mkT_back hl hok] at h
theorem vc_sound (hN:NoCount P) (hm:P.follows .mixedOrders=true) {N:Nat} {A:Ann}:∀ (c:Code) (Q:Exit->List Value->World->Prop) (t:List Value) (w:World),t.length=N->vc P N A c Q t w->c.wp P (Post N Q) (actOf t) w
 | .skip,Q,t,w,hl,h=>wp_skip ⟨t,rfl,hl,h⟩
 | .region id ops false,Q,t,w,hl,h=>by
  exact wpIn_wide.1 (regionY_sound (ro:=none) (n:=0) hN (N:=N) (Q:=Post N Q) (fun t w hl h=>⟨t,rfl,hl,h⟩) hl h)
 | .region id ops true,Q,t,w,hl,h=>by
  have e:ops=ops.toList.toArray:=by simp
  rw [e]
  exact vcDraw_sound hN hm (fun t w hl h=>⟨t,rfl,hl,h⟩) hl h
 | .seq a b,Q,t,w,hl,h=>by
  unfold vc at h
  split at h
  ·refine wp_seq (Go.wp_mono (vc_sound hN hm a _ t w hl h) ?_)
   rintro e a w ⟨t',rfl,hl',hq⟩
   cases e with
   | normal=>exact vc_sound hN hm b Q t' w hl' hq
   | _=>exact ⟨t',rfl,hl',hq⟩
  ·refine wp_seq (Go.wp_mono (vc_sound hN hm a _ t w hl h) ?_)
   rintro e a w ⟨t',rfl,hl',hq⟩
   cases e with
   | normal=>exact vc_sound hN hm b Q t' w hl' (vcJ_back hl' hq)
   | _=>exact ⟨t',rfl,hl',hq⟩
 | .cond c x y,Q,t,w,hl,h=>by
  simp only [vc] at h
  split at h
  ·rename_i b hb
   refine wp_cond (t:=b) (by rw [ev_eq]; exact hb) ?_
   cases b
   ·exact vc_sound hN hm y Q t w hl h
   ·exact vc_sound hN hm x Q t w hl h
  ·exact h.elim
 | .block id c,Q,t,w,hl,h=>by
  refine wp_block (Go.wp_mono (vc_sound hN hm c _ t w hl h) ?_)
  rintro e a w ⟨t',rfl,hl',hq⟩
  cases e with
  | exit j =>
   simp only [Exit.inBlock]
   by_cases hj:j=id
   ·subst hj
    rw [if_pos rfl]
    simp only [Nat.beq_refl,if_true] at hq
    exact ⟨t',rfl,hl',hq⟩
   ·rw [if_neg hj]
    have:Nat.beq j id=false:=by rw [<- Bool.not_eq_true]; exact fun hh=>hj (Nat.eq_of_beq_eq_true hh)
    simp only [this,Bool.false_eq_true,if_false] at hq
    exact ⟨t',rfl,hl',hq⟩
  | _=>exact ⟨t',rfl,hl',hq⟩
 | .loop c,Q,t,w,hl,h=>by
  have ihc:=vc_sound hN hm (N:=N) (A:=A) c
  unfold vc at h
  obtain ⟨hok,n,h⟩:=vcJ_out h
  refine wp_loop_rounds n ?_
  have key:∀ (n:Nat) (t:List Value) (w:World),t.length=N->oks (kindsOf (lpOf A (firstR c))) (proj t (slotsOf (lpOf A (firstR c))))=true ->
    loopC (fun s w C=>∀ d:Nat->Value,vc P N A c (fun e t w'=>match e with | .normal=>vcJ (lpOf A (firstR c)) C t w' | e=>Q e t w') (mkT N 0 (slotsOf (lpOf A (firstR c))) (encs (kindsOf (lpOf A (firstR c))) s) d) w) n (decs (kindsOf (lpOf A (firstR c))) (proj t (slotsOf (lpOf A (firstR c))))) w ->
    Code.rounds P c (Post N Q) n (actOf t) w:=by
   intro n
   induction n with
   | zero=>intro t w _ _ h; exact h
   | succ n ih =>
    intro t w hl hok h
    have h:=h (nthV t)
    rw [mkT_back hl hok] at h
    rw [rounds_succ]
    refine Go.wp_mono (ihc _ t w hl h) ?_
    rintro e a w ⟨t',rfl,hl',hq⟩
    cases e with
    | normal =>
     obtain ⟨hok',hq⟩:=vcJ_out hq
     exact ih t' w hl' hok' hq
    | _=>exact ⟨t',rfl,hl',hq⟩
  exact key n t w hl hok h
 | .exit id,Q,t,w,hl,h=>wp_exit ⟨t,rfl,hl,h⟩
 | .ret,Q,t,w,hl,h=>wp_ret ⟨t,rfl,hl,h⟩
 | .rangeFunc ..,_,_,_,_,h=>h.elim
 | .scope c,Q,t,w,hl,h=>by
  refine wp_scope_straight (Go.wp_mono (vc_sound hN hm c _ t w hl h) ?_)
  rintro e a w ⟨t',rfl,hl',hq⟩
  cases e with
  | goto l=>exact hq.elim
  | _=>exact ⟨t',rfl,hl',hq⟩
 | .label _,Q,t,w,hl,h=>wp_label ⟨t,rfl,hl,h⟩
 | .goto _,_,_,_,_,h=>h.elim
 | .refuse _,_,_,_,_,h=>h.elim
def resV (tmps:Array Value):ResultVar->Sem Value
 | .tmp t=>pure (tmps.getD t undef)
 | .cell a t=>do loadVar t (<- asAddr (tmps.getD a undef))
theorem vcRes_run {t:List Value} {w:World}:∀ (rs:List ResultVar) (K:List Value->Prop),vcRes P t w rs K ->
  ∃ vs,(rs.mapM (resV t.toArray)).run P w=.ok vs w/\vs.length=rs.length/\K vs
 | [],K,h=>⟨[],by simp,rfl,h⟩
 | .tmp i :: r,K,h=>by
  obtain ⟨vs,hv,hl,hK⟩:=vcRes_run r _ h
  refine ⟨nthV t i :: vs,?_,by simp [hl],hK⟩
  rw [List.mapM_cons]
  simp only [resV,Sem.run_bind,Sem.run_pure,Result.andThen,hv,<- nthV_eq]
 | .cell a ty :: r,K,h=>by
  simp only [vcRes] at h
  split at h
  ·rename_i q hq
   rw [dr_iff] at h
   obtain ⟨b,o,rfl,h⟩:=h
   obtain ⟨v,hv,h⟩:=vcLd_run h
   obtain ⟨vs,hvs,hl,hK⟩:=vcRes_run r _ h
   refine ⟨v :: vs,?_,by simp [hl],hK⟩
   rw [List.mapM_cons]
   rw [nthV_eq] at hq
   simp only [resV,Sem.run_bind,hq,asAddr,Sem.run_pure,Result.andThen,hv,hvs]
  ·exact h.elim
theorem results_run {fn:Func} {t:List Value} {w:World} {Q:Value->Prop} (h:vcRes P t w fn.results.toList (fun vs=>Q (retOf vs))):∃ v,(results fn t.toArray).run P w=.ok v w/\Q v:=by
 obtain ⟨vs,hv,hl,hQ⟩:=vcRes_run _ _ h
 refine ⟨_,?_,hQ⟩
 have e:results fn t.toArray=(do let vs <- fn.results.mapM (resV t.toArray); pure (if h:vs.size=1 then vs[0] else .tuple vs)):=by
  unfold results
  congr 1
 rw [e,Array.mapM_eq_mapM_toList]
 simp only [map_eq_pure_bind,Sem.run_bind,hv,Sem.run_pure,Result.andThen]
 congr 1
 unfold retOf
 split
 ·rename_i h1
  match vs,h1 with
  | [v],_=>rfl
 ·rename_i h1
  split
  ·exact absurd rfl h1
  ·rfl
theorem vcFn_sound (hN:NoCount P) (hm:P.follows .mixedOrders=true) {A:Ann} {f:FuncId} {args:List Value} {w:World} {Q:Value->World->Prop} (h:vcFn P A f args w Q) :
  Calls P f args.toArray w (fun e w'=>∃ v,e=.returned v/\Q v w'):=by
 unfold vcFn at h
 split at h
 ·rename_i fn hf
  split at h
  ·rename_i c hc
   simp only [gd_iff,decide_eq_true_eq] at h
   obtain ⟨hl,h⟩:=h
   refine calls_of_wp hf hc ?_
   have e:({ tmps:=args.toArray ++ Array.replicate (fn.ntmps - args.toArray.size) undef,defers:=[] }:Act)=actOf (args ++ List.replicate (fn.ntmps - args.length) undef):=by
    simp [actOf]
   rw [e]
   refine Go.wp_mono (vc_sound hN hm c _ _ w (by simp; omega) h) ?_
   rintro e a w ⟨t,rfl,ht,hq⟩
   cases e with
   | normal =>
    obtain ⟨v,hv,hQ⟩:=results_run (Q:=fun v=>Q v w) hq
    exact ⟨rfl,v,hv,v,rfl,hQ⟩
   | ret =>
    obtain ⟨v,hv,hQ⟩:=results_run (Q:=fun v=>Q v w) hq
    exact ⟨rfl,v,hv,v,rfl,hQ⟩
   | _=>exact hq.elim
  ·exact h.elim
 ·exact h.elim
theorem vcFn_of (hN:NoCount P) (hm:P.follows .mixedOrders=true) {A:Ann} {f:FuncId} {args:List Value} {w:World} {Q:Value->World->Prop} {X:Prop} (h:X) (e:vcFn P A f args w Q=X) :
  Calls P f args.toArray w (fun e w'=>∃ v,e=.returned v/\Q v w'):=vcFn_sound hN hm (e.symm ▸ h)
end
end Go.GV
namespace Go.GV
open Go Go.RowKit
theorem loop_rule {σ:Type} {B:σ->World->(σ->World->Prop)->Prop} (I:σ->World->Prop) (m:σ->World->Nat)
  (h:∀ s w C,I s w->(∀ s' w',I s' w'->m s' w' < m s w->C s' w')->B s w C) (s:σ) (w:World) (hI:I s w):∃ n,loopC B n s w:=by
 have key:∀ n s w,I s w->m s w < n->loopC B n s w:=by
  intro n
  induction n with
  | zero=>intro s w _ h; omega
  | succ n ih =>
   intro s w hI hm
   exact h s w _ hI (fun s' w' hI' hlt=>ih s' w' hI' (by omega))
 exact ⟨_,key _ s w hI (Nat.lt_succ_self _)⟩
structure Fr (S:Nat->Prop) (w w':World):Prop where
 os:w'.os=w.os
 tape:w'.tape=w.tape
 output:w'.output=w.output
 size:w.heap.size<=w'.heap.size
 block:∀ k,k < w.heap.size->¬ S k->w'.heap[k]?=w.heap[k]?
theorem Fr.refl (S:Nat->Prop) (w:World):Fr S w w:=⟨rfl,rfl,rfl,Nat.le_refl _,fun _ _ _=>rfl⟩
theorem Fr.mono {S T:Nat->Prop} {w w':World} (h:Fr S w w') (hh:∀ k,k < w.heap.size->S k->T k):Fr T w w' :=
 ⟨h.os,h.tape,h.output,h.size,fun k hk hn=>h.block k hk (fun hs=>hn (hh k hk hs))⟩
theorem Fr.trans {S T U:Nat->Prop} {a b c:World} (h:Fr S a b) (k:Fr T b c) (hS:∀ i,i < a.heap.size->S i->U i) (hT:∀ i,i < a.heap.size->T i->U i):Fr U a c :=
 ⟨k.os.trans h.os,k.tape.trans h.tape,k.output.trans h.output,Nat.le_trans h.size k.size,
  fun i hi hn=>(k.block i (Nat.lt_of_lt_of_le hi h.size) (fun ht=>hn (hT i hi ht))).trans (h.block i hi (fun hs=>hn (hS i hi hs)))⟩
theorem Fr.trans1 {S:Nat->Prop} {a b c:World} (h:Fr S a b) (k:Fr S b c):Fr S a c:=h.trans k (fun _ _ h=>h) (fun _ _ h=>h)
theorem Fr.drew (S:Nat->Prop) (w:World):Fr S w w.drew:=⟨rfl,rfl,rfl,Nat.le_refl _,fun _ _ _=>rfl⟩
theorem heap_alloc_at (w:World) (o:Obj):(w.alloc o).heap[w.heap.size]?=some o:=by unfold World.alloc; simp
theorem heap_alloc_lt {w:World} {o:Obj} {k:Nat} (h:k < w.heap.size):(w.alloc o).heap[k]?=w.heap[k]?:=by
 unfold World.alloc; simp [Array.getElem?_push,Nat.ne_of_lt h]
theorem alloc_size (w:World) (o:Obj):(w.alloc o).heap.size=w.heap.size+1:=by unfold World.alloc; simp
theorem Fr.alloc (S:Nat->Prop) (w:World) (o:Obj):Fr S w (w.alloc o):=⟨rfl,rfl,rfl,by rw [alloc_size]; omega,fun k hk _=>heap_alloc_lt hk⟩
theorem Fr.st {S:Nat->Prop} {w:World} {b o:Nat} {vs:List Value} (h:b < w.heap.size->S b):Fr S w (stB w b o vs) :=
 ⟨rfl,rfl,rfl,by rw [stB_size]; exact Nat.le_refl _,fun k hk hn=>stB_other (fun e=>hn (by subst e; exact h hk))⟩
theorem Fr.of_below {S:Nat->Prop} {B:Nat} {w w':World} (h:Below B w w') (hS:∀ k,k < w.heap.size->B<=k->S k):Fr S w w' :=
 ⟨h.os,h.tape,h.output,h.size,fun k hk hn=>h.block k (by rcases Nat.lt_or_ge k B with hh | hh; exact hh; exact absurd (hS k hk hh) hn)⟩
theorem heap_lt {w:World} {k:Nat} {o:Obj} (h:w.heap[k]?=some o):k < w.heap.size:=(Array.getElem?_eq_some_iff.1 h).1
theorem Fr.at {S:Nat->Prop} {w w':World} (h:Fr S w w') {k:Nat} {o:Obj} (hk:w.heap[k]?=some o) (hn:¬ S k):w'.heap[k]?=some o :=
 (h.block k (heap_lt hk) hn).trans hk
theorem cellAt_of_heap {w w':World} {b o:Nat} (h:w'.heap[b]?=w.heap[b]?):cellAt w' b o=cellAt w b o:=by simp [cellAt,World.cell?,h]
theorem cellAt_blk {w:World} {b o:Nat} {c:Array Value} {e:TypeId} {f:Nat×Nat} (h:w.heap[b]?=some (.cells c e f)):cellAt w b o=c[o]?:=by
 simp [cellAt,World.cell?,h]
theorem cellAt_lt {w:World} {b o:Nat} {v:Value} (h:cellAt w b o=some v):b < w.heap.size:=World.block_lt_of_cell? _ _ h
theorem Fr.cell {S:Nat->Prop} {w w':World} (h:Fr S w w') {b o:Nat} {v:Value} (hc:cellAt w b o=some v) (hn:¬ S b):cellAt w' b o=some v :=
 (cellAt_of_heap (h.block b (cellAt_lt hc) hn)).trans hc
theorem Fr.cells {S:Nat->Prop} {w w':World} (h:Fr S w w') {b o:Nat} {vs:List Value} (hc:cellsAt w b o vs) (hn:¬ S b):cellsAt w' b o vs :=
 fun j v hj=>h.cell (hc j v hj) hn
def blkOf:Option Addr->Option Nat
 | some a=>some a.block
 | none=>none
def Sl (w:World) (sz:Nat) (A:Option Addr) (n:Nat) (vs:List Value):Prop :=
 vs.length=n * sz/\(n ≠ 0->∃ b o,A=some ⟨b,o,none⟩/\cellsAt w b o vs)
theorem Sl.src {w:World} {sz:Nat} {A:Option Addr} {n c:Nat} {vs:List Value} (h:Sl w sz A n vs):srcOf w sz (.slice A n c) n vs :=
 ⟨rfl,h.1,fun h0=>by obtain ⟨b,o,rfl,hc⟩:=h.2 h0; exact hc⟩
theorem Fr.sl {S:Nat->Prop} {w w':World} (h:Fr S w w') {sz:Nat} {A:Option Addr} {n:Nat} {vs:List Value} (hs:Sl w sz A n vs) (hn:n ≠ 0->∀ b,blkOf A=some b->¬ S b):Sl w' sz A n vs :=
 ⟨hs.1,fun h0=>by obtain ⟨b,o,rfl,hc⟩:=hs.2 h0; exact ⟨b,o,rfl,h.cells hc (hn h0 b rfl)⟩⟩
theorem Sl.nil (w:World) (sz:Nat) (A:Option Addr):Sl w sz A 0 []:=⟨by simp,fun h=>absurd rfl h⟩
theorem Sl.get {w:World} {A:Option Addr} {n:Nat} {vs:List Value} (h:Sl w 1 A n vs) {i:Nat} (hi:i < n) {v:Value} (hv:vs[i]?=some v):∃ b o,A=some ⟨b,o,none⟩/\cellAt w b (o+i * 1)=some v:=by
 obtain ⟨b,o,e,hc⟩:=h.2 (by omega)
 exact ⟨b,o,e,by rw [Nat.mul_one]; exact hc i v hv⟩
theorem Sl.blt {w:World} {sz:Nat} {A:Option Addr} {n:Nat} {vs:List Value} (h:Sl w sz A n vs) (hz:sz ≠ 0) (h0:n ≠ 0) {b:Nat} (hb:blkOf A=some b):b < w.heap.size:=by
 obtain ⟨b',o,rfl,hc⟩:=h.2 h0
 simp only [blkOf,Option.some.injEq] at hb
 subst hb
 have hl:0 < vs.length:=by rw [h.1]; exact Nat.mul_pos (by omega) (by omega)
 exact cellAt_lt (hc 0 _ (List.getElem?_eq_getElem hl))
structure Row (w:World) (B:Nat) (e:TypeId) (sz:Nat) (A:Option Addr) (n c:Nat) (vs:List Value):Prop where
 len:vs.length=n * sz
 le:n<=c
 at_:(A=none/\n=0/\c=0)\/∃ b cs,A=some ⟨b,0,none⟩/\B<=b/\w.heap[b]?=some (.cells cs e (0,0))/\cs.size=c * sz/\cs.toList.take (n * sz)=vs
theorem Row.nil (w:World) (B:Nat) (e:TypeId) (sz:Nat):Row w B e sz none 0 0 []:=⟨by simp,Nat.le_refl _,.inl ⟨rfl,rfl,rfl⟩⟩
theorem cellsAt_take {w:World} {b:Nat} {cs:Array Value} {e:TypeId} {f:Nat×Nat} {m:Nat} {vs:List Value} (h:w.heap[b]?=some (.cells cs e f)) (ht:cs.toList.take m=vs):cellsAt w b 0 vs:=by
 intro j v hj
 rw [cellAt_blk h,Nat.zero_add]
 subst ht
 rw [List.getElem?_take] at hj
 split at hj
 ·simpa using hj
 ·cases hj
theorem Row.sl {w:World} {B:Nat} {e:TypeId} {sz:Nat} {A:Option Addr} {n c:Nat} {vs:List Value} (h:Row w B e sz A n c vs):Sl w sz A n vs:=by
 refine ⟨h.len,fun h0=>?_⟩
 rcases h.at_ with ⟨_,h1,_⟩ | ⟨b,cs,rfl,_,hb,hs,ht⟩
 ·exact absurd h1 h0
 ·exact ⟨b,0,rfl,cellsAt_take hb ht⟩
theorem Fr.row {S:Nat->Prop} {w w':World} (h:Fr S w w') {B:Nat} {e:TypeId} {sz:Nat} {A:Option Addr} {n c:Nat} {vs:List Value} (hr:Row w B e sz A n c vs) (hn:∀ b,blkOf A=some b->¬ S b):Row w' B e sz A n c vs:=by
 refine ⟨hr.len,hr.le,?_⟩
 rcases hr.at_ with h1 | ⟨b,cs,rfl,hB,hb,hs,ht⟩
 ·exact .inl h1
 ·exact .inr ⟨b,cs,rfl,hB,h.at hb (hn b rfl),hs,ht⟩
theorem Row.blt {w:World} {B:Nat} {e:TypeId} {sz:Nat} {A:Option Addr} {n c:Nat} {vs:List Value} (h:Row w B e sz A n c vs) {b:Nat} (hb:blkOf A=some b):B<=b/\b < w.heap.size:=by
 rcases h.at_ with ⟨rfl,_,_⟩ | ⟨b',cs,rfl,hB,hh,_,_⟩
 ·simp [blkOf] at hb
 ·simp only [blkOf,Option.some.injEq] at hb; subst hb; exact ⟨hB,heap_lt hh⟩
theorem splice_take {c:List Value} {n:Nat} {old vs:List Value} (ht:c.take n=old) (hn:old.length=n):(splice c n vs).take (n+vs.length)=old ++ vs:=by
 unfold splice
 rw [ht,List.take_append_of_le_length (by simp [hn]),List.take_of_length_le (by simp [hn])]
theorem splice_length {c:List Value} {n:Nat} {vs:List Value} (h:n+vs.length<=c.length):(splice c n vs).length=c.length:=by
 simp [splice]; omega
theorem app_row2 {w:World} {B:Nat} {e:TypeId} {sz bytes:Nat} {z:List Value} {A:Option Addr} {n c:Nat} {x:Value} {old us:List Value} {m:Nat} {K:Option Addr->Nat->Nat->World->Prop}
  (hr:Row w B e sz A n c old) (hx:srcOf w sz x m us) (h1:∀ v ∈ us,v.oneCell'=true) (hz:z.length=sz) (hb:(n+m) * bytes<=140737488355328) (hm:n+m<=9223372036854775807) (hB:B<=w.heap.size)
  (hK:∀ A' c' w',Row w' B e sz A' (n+m) c' (old ++ us)->Fr (fun k=>blkOf A=some k) w w'->(∀ k,blkOf A'=some k->blkOf A=some k\/w.heap.size<=k)->K A' (n+m) c' w'):app w sz bytes z e A n c x K:=by
 have hul:us.length=m * sz:=by
  unfold srcOf at hx
  split at hx
  ·obtain ⟨rfl,h,_⟩:=hx; exact h
  ·obtain ⟨rfl,rfl,rfl⟩:=hx; simp
  ·exact hx.elim
 refine ⟨m,us,hx,h1,hb,hm,fun hle=>⟨fun h0=>?_,fun h0=>?_⟩,fun hlt=>⟨old,hr.sl.src,fun cap hc1 hc2=>?_⟩⟩
 ·subst h0
  have:us=[]:=List.length_eq_zero_iff.1 (by simpa using hul)
  subst this
  exact hK A c w (by rw [List.append_nil]; exact hr) (Fr.refl _ _) (fun _ h=>.inl h)
 ·rcases hr.at_ with ⟨rfl,rfl,rfl⟩ | ⟨b,cs,rfl,hBb,hh,hs,ht⟩
  ·omega
  ·have hfit:n * sz+us.length<=cs.size:=by rw [hs,hul,<- Nat.add_mul]; exact Nat.mul_le_mul_right _ hle
   show st w b (0+n * sz) us _
   rw [Nat.zero_add]
   refine ⟨⟨cs,e,0,0,hh,hfit,.inl (Nat.zero_le _)⟩,h1,?_⟩
   refine hK _ _ _ ⟨by rw [List.length_append,hr.len,hul,Nat.add_mul],hle,.inr ⟨b,_,rfl,hBb,stB_heap hh,?_,?_⟩⟩ (Fr.st (fun _=>rfl)) (fun _ h=>.inl h)
   ·simp only [List.size_toArray]; rw [splice_length (by simpa using hfit)]; simpa using hs
   ·have:=splice_take (vs:=us) ht hr.len
    rw [hul,<- Nat.add_mul] at this
    simpa using this
 ·refine hK _ _ _ ⟨by rw [List.length_append,hr.len,hul,Nat.add_mul],hc1,.inr ⟨_,_,rfl,?_,heap_alloc_at _ _,?_,?_⟩⟩ ?_ (fun k hk=>.inr (by simp only [blkOf,Option.some.injEq] at hk; subst hk; exact Nat.le_refl _))
  ·exact hB
  ·simp only [List.size_toArray,List.length_append,zeros_length,hr.len,hul,hz,<- Nat.add_mul]
   congr 1; omega
  ·simp only [List.append_assoc]
   rw [<- List.append_assoc,List.take_append_of_le_length (by rw [List.length_append,hr.len,hul,<- Nat.add_mul]; exact Nat.le_refl _),List.take_of_length_le (by rw [List.length_append,hr.len,hul,<- Nat.add_mul]; exact Nat.le_refl _)]
  ·exact (Fr.drew _ w).trans1 (Fr.alloc _ _ _)
theorem app_row {w:World} {B:Nat} {e:TypeId} {sz bytes:Nat} {z:List Value} {A:Option Addr} {n c:Nat} {x:Value} {old us:List Value} {m:Nat} {K:Option Addr->Nat->Nat->World->Prop}
  (hr:Row w B e sz A n c old) (hx:srcOf w sz x m us) (h1:∀ v ∈ us,v.oneCell'=true) (hz:z.length=sz) (hb:(n+m) * bytes<=140737488355328) (hm:n+m<=9223372036854775807) (hB:B<=w.heap.size)
  (hK:∀ A' c' w',Row w' B e sz A' (n+m) c' (old ++ us)->Fr (fun k=>blkOf A=some k) w w'->K A' (n+m) c' w'):app w sz bytes z e A n c x K :=
 app_row2 hr hx h1 hz hb hm hB (fun A' c' w' h f _=>hK A' c' w' h f)
theorem appZ_row {w:World} {B:Nat} {e:TypeId} {sz bytes:Nat} {z:List Value} {A:Option Addr} {n c:Nat} {x:Int} {old:List Value} {m:Nat} {K:Option Addr->Nat->Nat->World->Prop}
  (hr:Row w B e sz A n c old) (hx:IntKind.wrap .i64 x=(m:Int)) (h48:(m:Int) * bytes<=281474976710656) (h1:∀ v ∈ z,v.oneCell'=true) (hz:z.length=sz) (hb:(n+m) * bytes<=140737488355328) (hm:n+m<=9223372036854775807) (hB:B<=w.heap.size)
  (hK:∀ A' c' w',Row w' B e sz A' (n+m) c' (old ++ zeros m z)->Fr (fun k=>blkOf A=some k) w w'->K A' (n+m) c' w'):appZ w sz bytes z e A n c x K:=by
 have hul:(zeros m z).length=m * sz:=by rw [zeros_length,hz]
 have h1z:∀ v ∈ zeros m z,v.oneCell'=true:=fun v hv=>by
  simp only [zeros,List.mem_flatten,List.mem_replicate] at hv
  obtain ⟨l,⟨_,rfl⟩,hv⟩:=hv
  exact h1 v hv
 unfold appZ
 rw [hx,Int.toNat_natCast]
 refine ⟨Int.natCast_nonneg m,h48,h1,hb,hm,fun hle=>⟨fun h0=>?_,fun h0=>?_⟩,fun hlt=>⟨old,hr.sl.src,fun cap hc1 hc2=>?_⟩⟩
 ·subst h0
  have:zeros 0 z=[]:=rfl
  exact hK A c w (by rw [this,List.append_nil]; exact hr) (Fr.refl _ _)
 ·rcases hr.at_ with ⟨rfl,rfl,rfl⟩ | ⟨b,cs,rfl,hBb,hh,hs,ht⟩
  ·omega
  ·have hfit:n * sz+(zeros m z).length<=cs.size:=by rw [hs,hul,<- Nat.add_mul]; exact Nat.mul_le_mul_right _ hle
   show st w b (0+n * sz) (zeros m z) _
   rw [Nat.zero_add]
   refine ⟨⟨cs,e,0,0,hh,hfit,.inl (Nat.zero_le _)⟩,h1z,?_⟩
   refine hK _ _ _ ⟨by rw [List.length_append,hr.len,hul,Nat.add_mul],hle,.inr ⟨b,_,rfl,hBb,stB_heap hh,?_,?_⟩⟩ (Fr.st (fun _=>rfl))
   ·simp only [List.size_toArray]; rw [splice_length (by simpa using hfit)]; simpa using hs
   ·have:=splice_take (vs:=zeros m z) ht hr.len
    rw [hul,<- Nat.add_mul] at this
    simpa using this
 ·refine hK _ _ _ ⟨by rw [List.length_append,hr.len,hul,Nat.add_mul],hc1,.inr ⟨_,_,rfl,?_,heap_alloc_at _ _,?_,?_⟩⟩ ?_
  ·exact hB
  ·simp only [List.size_toArray,List.length_append,zeros_length,hr.len,hul,hz,<- Nat.add_mul]
   congr 1; omega
  ·simp only [List.append_assoc]
   rw [<- List.append_assoc,List.take_append_of_le_length (by rw [List.length_append,hr.len,hul,<- Nat.add_mul]; exact Nat.le_refl _),List.take_of_length_le (by rw [List.length_append,hr.len,hul,<- Nat.add_mul]; exact Nat.le_refl _)]
  ·exact (Fr.drew _ w).trans1 (Fr.alloc _ _ _)
theorem Row.new {w:World} {B:Nat} {e:TypeId} {sz n:Nat} {vs:List Value} (hB:B<=w.heap.size) (hl:vs.length=n * sz):Row (w.alloc (.cells vs.toArray e)) B e sz (some ⟨w.heap.size,0,none⟩) n n vs :=
 ⟨hl,Nat.le_refl _,.inr ⟨_,_,rfl,hB,heap_alloc_at _ _,by simp [hl],by simp [<- hl]⟩⟩
theorem Row.made {w:World} {B:Nat} {e:TypeId} {sz n c:Nat} {z:List Value} (hB:B<=w.heap.size) (hz:z.length=sz) (hn:n<=c):Row (w.alloc (.cells (zeros c z).toArray e)) B e sz (some ⟨w.heap.size,0,none⟩) n c (zeros n z):=by
 refine ⟨by rw [zeros_length,hz],hn,.inr ⟨_,_,rfl,hB,heap_alloc_at _ _,by simp [zeros_length,hz],?_⟩⟩
 have e1:zeros c z=zeros n z ++ zeros (c - n) z:=by
  unfold zeros
  rw [<- List.flatten_append,List.replicate_append_replicate]
  congr 2; omega
 simp only [e1]
 rw [List.take_append_of_le_length (by rw [zeros_length,hz]; exact Nat.le_refl _),List.take_of_length_le (by rw [zeros_length,hz]; exact Nat.le_refl _)]
def RecAt (w:World) (b:Nat) (e:TypeId) (cs:List Value):Prop:=w.heap[b]?=some (.cells cs.toArray e (0,0))
theorem RecAt.lt {w:World} {b:Nat} {e:TypeId} {cs:List Value} (h:RecAt w b e cs):b < w.heap.size:=heap_lt h
theorem RecAt.cell {w:World} {b:Nat} {e:TypeId} {cs:List Value} (h:RecAt w b e cs) {o:Nat} {v:Value} (hv:cs[o]?=some v):cellAt w b o=some v:=by rw [cellAt_blk h]; simpa using hv
theorem RecAt.cells {w:World} {b:Nat} {e:TypeId} {cs:List Value} (h:RecAt w b e cs) {o:Nat} {vs:List Value} (hv:∀ j v,vs[j]?=some v->cs[o+j]?=some v):cellsAt w b o vs:=fun j v hj=>h.cell (hv j v hj)
theorem RecAt.fr {S:Nat->Prop} {w w':World} {b:Nat} {e:TypeId} {cs:List Value} (f:Fr S w w') (h:RecAt w b e cs) (hn:¬ S b):RecAt w' b e cs:=f.at h hn
theorem RecAt.new (w:World) (cs:List Value) (e:TypeId):RecAt (w.alloc (.cells cs.toArray e)) w.heap.size e cs:=heap_alloc_at _ _
theorem RecAt.st {w:World} {b:Nat} {e:TypeId} {cs:List Value} (h:RecAt w b e cs) {o:Nat} {vs:List Value}:RecAt (stB w b o vs) b e (splice cs o vs):=by
 have:=stB_heap (o:=o) (vs:=vs) h
 simpa [RecAt] using this
theorem RecAt.st_mk {w:World} {b:Nat} {e:TypeId} {cs:List Value} (h:RecAt w b e cs) {o:Nat} {vs:List Value} {K:World->Prop} (hl:o+vs.length<=cs.length) (h1:∀ v ∈ vs,v.oneCell'=true) (hK:RecAt (stB w b o vs) b e (splice cs o vs)->Fr (fun k=>k=b) w (stB w b o vs)->K (stB w b o vs)):Go.GV.st w b o vs K :=
 ⟨⟨_,_,0,0,h,by simpa using hl,.inl (Nat.zero_le _)⟩,h1,hK h.st (Fr.st (fun _=>rfl))⟩
theorem splice_get {c:List Value} {o:Nat} {vs:List Value} (h:o+vs.length<=c.length) (j:Nat):(splice c o vs)[j]?=if j < o then c[j]? else if j < o+vs.length then vs[j - o]? else c[j]?:=by
 unfold splice
 by_cases h1:j < o
 ·rw [if_pos h1,List.append_assoc,List.getElem?_append_left (by simp; omega),List.getElem?_take,if_pos h1]
 ·rw [if_neg h1]
  by_cases h2:j < o+vs.length
  ·rw [if_pos h2,List.append_assoc,List.getElem?_append_right (by simp; omega),List.getElem?_append_left (by simp; omega)]
   congr 1; simp; omega
  ·rw [if_neg h2,List.append_assoc,List.getElem?_append_right (by simp; omega),List.getElem?_append_right (by simp; omega),List.getElem?_drop]
   congr 1; simp; omega
theorem nw_mk {w:World} {cs:List Value} {e:TypeId} {K:Nat->World->Prop} (h:K w.heap.size (w.alloc (.cells cs.toArray e))):nw w cs e K:=h
theorem freeze_cell (w:World) (b n m b' o:Nat):cellAt (w.freeze ⟨b,n,none⟩ m) b' o=cellAt w b' o:=by
 unfold World.freeze
 split
 ·rfl
 ·unfold cellAt World.cell?
  simp only [Array.getElem?_modify]
  by_cases h:b=b'
  ·subst h
   simp only [if_true]
   cases hh:w.heap[b]? with
   | none=>rfl
   | some x=>cases x <;> rfl
  ·rw [if_neg h]
theorem freeze_fr (w:World) (b n m:Nat):Fr (fun k=>k=b) w (w.freeze ⟨b,n,none⟩ m):=by
 unfold World.freeze
 split
 ·exact Fr.refl _ _
 ·exact ⟨rfl,rfl,rfl,by simp,fun k _ hn=>by simp only [Array.getElem?_modify]; rw [if_neg (fun h=>hn h.symm)]⟩
theorem mkS_mk {w:World} {b:Nat} {e:TypeId} {cs:List Value} {K:World->Prop} (h:RecAt w b e cs) (hK:∀ w',Fr (fun k=>k=b) w w'->(∀ b' o,cellAt w' b' o=cellAt w b' o)->K w'):mkS w b K :=
 ⟨_,_,_,h,hK _ (freeze_fr _ _ _ _) (fun b' o=>freeze_cell _ _ _ _ _ _)⟩
theorem jnC_mk {σ:Type} {J:σ->World->Prop} {s:σ} {w:World} (h:J s w):jnC J s w:=⟨h⟩
theorem dr_mk {b o:Nat} {K:Nat->Nat->Prop} (h:K b o):dr (some ⟨b,o,none⟩) K:=h
theorem gd_mk {c:Bool} {A:Prop} (h1:c=true) (h2:A):gd c A:=gd_iff.2 ⟨h1,h2⟩
theorem vIf_t {b:Bool} {A B:Prop} (h:b=true) (hA:A):vIf b A B:=by subst h; exact hA
theorem vIf_f {b:Bool} {A B:Prop} (h:b=false) (hB:B):vIf b A B:=by subst h; exact hB
theorem vIf_mk {b:Bool} {A B:Prop} (hA:b=true->A) (hB:b=false->B):vIf b A B:=vIf_iff.2 ⟨hA,hB⟩
theorem kp_mk {S:Nat->Prop} {w w':World} {b o n:Nat} {A:Prop} (f:Fr S w w') (hb:b < w.heap.size) (hn:¬ S b) (h:A):kp w b o n w' A:=⟨fun _ _=>cellAt_of_heap (f.block b hb hn),h⟩
theorem tmod_nat (a b:Nat):Int.tmod (a:Int) (b:Int)=((a % b:Nat):Int):=by rw [Int.tmod_eq_emod_of_nonneg (by omega)]; rfl
theorem bvs_one (l:List UInt8):∀ v ∈ l.map bv,v.oneCell'=true:=by
 intro v hv
 obtain ⟨b,_,rfl⟩:=List.mem_map.1 hv
 rfl
theorem b2s_sl {w:World} {A:Option Addr} {n:Nat} {l:List UInt8} {K:ByteArray->Prop} (h:Sl w 1 A n (l.map bv)) (hK:K ⟨l.toArray⟩):b2s w A n K:=by
 have hl:l.length=n:=by simpa using h.1
 refine ⟨fun h0=>?_,fun h0=>?_⟩
 ·have:l=[]:=List.length_eq_zero_iff.1 (by omega)
  subst this; exact hK
 ·obtain ⟨b,o,rfl,hc⟩:=h.2 h0
  exact ⟨l,hl,hc,hK⟩
theorem byteAt_eq {s:ByteArray} {i:Nat} (h:i < s.size):byteAt s i=((s[i]'h).toNat:Int):=by
 unfold byteAt
 have:s.data.toList.getD i 0=s[i]'h:=by
  rw [List.getD_eq_getElem?_getD,Array.getElem?_toList]
  have e:s.data[i]?=some (s[i]'h):=Array.getElem?_eq_getElem h
  rw [e]; rfl
 rw [this]
theorem i64_id {n:Int} (h1 : -9223372036854775808<=n) (h2:n<=9223372036854775807):IntKind.wrap .i64 n=n:=by
 rw [IntKind.wrap_i64]; omega
theorem u8_id {n:Int} (h1:0<=n) (h2:n < 256):IntKind.wrap .u8 n=n:=by
 rw [IntKind.wrap_u8]; omega
end Go.GV
namespace Go.GV
open Go
theorem mpos_shift (n:Int):∀ (m:List ME) (i:Nat),mpos n m (i+1)=(mpos n m i).map fun y=>(y.1+1,y.2)
 | [],_=>rfl
 | x :: r,i=>by
  rw [mpos,mpos]
  split
  ·rfl
  ·exact mpos_shift n r (i+1)
theorem mfind_cons (n:Int) (x:ME) (r:List ME):mfind n (x :: r)=if n=x.1 then some x.2.1 else mfind n r:=by
 unfold mfind
 rw [mpos]
 split
 ·rfl
 ·rw [mpos_shift]
  cases mpos n r 0 <;> rfl
theorem mset_cons (n:Int) (v:Value) (c:Nat) (x:ME) (r:List ME):mset n v c (x :: r)=if n=x.1 then (n,v,x.2.2) :: r else x :: mset n v c r:=by
 unfold mset
 rw [mpos]
 by_cases h:n=x.1
 ·rw [if_pos h,if_pos h]; rfl
 ·rw [if_neg h,if_neg h,mpos_shift]
  cases mpos n r 0 <;> simp
theorem mdel_cons (n:Int) (x:ME) (r:List ME):mdel n (x :: r)=if n=x.1 then r else x :: mdel n r:=by
 unfold mdel
 rw [mpos]
 by_cases h:n=x.1
 ·rw [if_pos h,if_pos h]; rfl
 ·rw [if_neg h,if_neg h,mpos_shift]
  cases mpos n r 0 <;> simp
theorem mfind_mset (k n:Int) (v:Value) (c:Nat):∀ m:List ME,mfind k (mset n v c m)=if k=n then some v else mfind k m
 | []=>by
  show mfind k [(n,v,c)]=_
  rw [mfind_cons]
 | x :: r=>by
  rw [mset_cons]
  by_cases h:n=x.1
  ·rw [if_pos h,mfind_cons,mfind_cons]
   by_cases hk:k=n
   ·rw [if_pos hk,if_pos hk]
   ·rw [if_neg hk,if_neg hk,if_neg (by rw [<- h]; exact hk)]
  ·rw [if_neg h,mfind_cons,mfind_cons,mfind_mset k n v c r]
   by_cases hk:k=n
   ·rw [if_pos hk,if_pos hk,if_neg (by rw [hk]; exact h)]
   ·rw [if_neg hk,if_neg hk]
theorem mset_keys (n:Int) (v:Value) (c:Nat):∀ m:List ME,(∀ k,k ∈ (mset n v c m).map (·.1) ↔ k=n\/k ∈ m.map (·.1))/\((m.map (·.1)).Nodup->((mset n v c m).map (·.1)).Nodup)
 | []=>⟨fun k=>by simp [mset,mpos],fun _=>by simp [mset,mpos]⟩
 | x :: r=>by
  obtain ⟨ih1,ih2⟩:=mset_keys n v c r
  rw [mset_cons]
  by_cases h:n=x.1
  ·rw [if_pos h]
   refine ⟨fun k=>?_,fun hn=>?_⟩
   ·simp [h]
   ·simp only [List.map_cons] at hn ⊢
    rw [h]; exact hn
  ·rw [if_neg h]
   refine ⟨fun k=>?_,fun hn=>?_⟩
   ·simp only [List.map_cons,List.mem_cons,ih1]
    constructor
    ·rintro (h' | h' | h')
     ·exact .inr (.inl h')
     ·exact .inl h'
     ·exact .inr (.inr h')
    ·rintro (h' | h' | h')
     ·exact .inr (.inl h')
     ·exact .inl h'
     ·exact .inr (.inr h')
   ·simp only [List.map_cons,List.nodup_cons] at hn ⊢
    refine ⟨fun hx=>?_,ih2 hn.2⟩
    rcases (ih1 _).1 hx with h' | h'
    ·exact h h'.symm
    ·exact hn.1 h'
theorem mfind_none {k:Int}:∀ {m:List ME},k ∉ m.map (·.1)->mfind k m=none
 | [],_=>rfl
 | x :: r,h=>by
  simp only [List.map_cons,List.mem_cons,not_or] at h
  rw [mfind_cons,if_neg h.1,mfind_none h.2]
theorem mdel_spec (n:Int):∀ m:List ME,(m.map (·.1)).Nodup->(∀ k,mfind k (mdel n m)=if k=n then none else mfind k m)/\((mdel n m).map (·.1)).Nodup/\∀ k,k ∈ (mdel n m).map (·.1)->k ∈ m.map (·.1)
 | [],_=>⟨fun k=>by simp [mdel,mpos,mfind],by simp [mdel,mpos],fun k h=>by simp [mdel,mpos] at h⟩
 | x :: r,hn=>by
  simp only [List.map_cons,List.nodup_cons] at hn
  obtain ⟨ih1,ih2,ih3⟩:=mdel_spec n r hn.2
  rw [mdel_cons]
  by_cases h:n=x.1
  ·rw [if_pos h]
   refine ⟨fun k=>?_,hn.2,fun k hk=>by simp only [List.map_cons,List.mem_cons]; exact .inr hk⟩
   rw [mfind_cons]
   by_cases hk:k=n
   ·rw [if_pos hk]; exact mfind_none (by rw [hk,h]; exact hn.1)
   ·rw [if_neg hk,if_neg (by rw [<- h]; exact hk)]
  ·rw [if_neg h]
   refine ⟨fun k=>?_,?_,fun k hk=>?_⟩
   ·rw [mfind_cons,mfind_cons,ih1]
    by_cases hk:k=n
    ·rw [if_pos hk,if_neg (by rw [hk]; exact h),if_pos hk]
    ·rw [if_neg hk,if_neg hk]
   ·simp only [List.map_cons,List.nodup_cons]
    exact ⟨fun hx=>hn.1 (ih3 _ hx),ih2⟩
   ·simp only [List.map_cons,List.mem_cons] at hk ⊢
    exact hk.imp id (ih3 k)
def MapI (w:World) (r:Nat) (f:Int->Option Value):Prop:=∃ m c,mpAt w r .i64 m c/\(m.map (·.1)).Nodup/\∀ n,mfind n m=f n
def updI (f:Int->Option Value) (n:Int) (v:Option Value):Int->Option Value:=fun k=>if k=n then v else f k
theorem MapI.lt {w:World} {r:Nat} {f:Int->Option Value} (h:MapI w r f):r < w.heap.size:=by
 obtain ⟨m,c,h,_⟩:=h
 exact heap_lt h
theorem MapI.fr {w w':World} {r:Nat} {f:Int->Option Value} {S:Nat->Prop} (h:MapI w r f) (g:Fr S w w') (hn:¬ S r):MapI w' r f:=by
 obtain ⟨m,c,h1,h2,h3⟩:=h
 exact ⟨m,c,g.at h1 hn,h2,h3⟩
theorem fr_mpW {w:World} {r:Nat} {o:Obj}:Fr (fun k=>k=r) w (mpW w r o):=by
 refine ⟨rfl,rfl,rfl,?_,fun k hk hn=>?_⟩
 ·show w.heap.size<=(w.heap.setIfInBounds r o).size
  simp
 ·show (w.heap.setIfInBounds r o)[k]?=w.heap[k]?
  rw [Array.getElem?_setIfInBounds_ne (fun h=>hn h.symm)]
theorem mpW_at {w:World} {r:Nat} {ik:IntKind} {m m':List ME} {c c':Nat} (h:mpAt w r ik m c):mpAt (mpW w r (mpO ik m' c')) r ik m' c':=by
 show (w.heap.setIfInBounds r (mpO ik m' c'))[r]?=_
 rw [Array.getElem?_setIfInBounds_self_of_lt (heap_lt h)]
theorem mlk_mk {w:World} {r:Nat} {f:Int->Option Value} {n:Int} {K:Option Value->Prop} (h:MapI w r f) (hK:K (f n)):mlk w r .i64 n K:=by
 obtain ⟨m,c,h1,_,h3⟩:=h
 exact ⟨m,c,h1,by rw [h3]; exact hK⟩
theorem mup_mk {w:World} {r:Nat} {f:Int->Option Value} {n:Int} {v:Value} {K:World->Prop} (h:MapI w r f) (hK:∀ w',MapI w' r (updI f n (some v))->Fr (fun k=>k=r) w w'->w'.heap.size=w.heap.size->K w'):mup w r .i64 n v K:=by
 obtain ⟨m,c,h1,h2,h3⟩:=h
 refine ⟨m,c,h1,hK _ ⟨_,_,mpW_at h1,(mset_keys n v c m).2 h2,fun k=>?_⟩ fr_mpW (by simp [mpW])⟩
 rw [mfind_mset,h3]; rfl
theorem mdl_mk {w:World} {r:Nat} {f:Int->Option Value} {n:Int} {K:World->Prop} (h:MapI w r f) (hK:∀ w',MapI w' r (updI f n none)->Fr (fun k=>k=r) w w'->w'.heap.size=w.heap.size->K w'):mdl w r .i64 n K:=by
 obtain ⟨m,c,h1,h2,h3⟩:=h
 obtain ⟨q1,q2,_⟩:=mdel_spec n m h2
 refine ⟨m,c,h1,hK _ ⟨_,_,mpW_at h1,q2,fun k=>?_⟩ fr_mpW (by simp [mpW])⟩
 rw [q1,h3]; rfl
theorem mmk_mk {w:World} {K:Nat->World->Prop} (hK:∀ w',MapI w' w.heap.size (fun _=>none)->Fr (fun _=>False) w w'->w'.heap.size=w.heap.size+1->K w.heap.size w'):mmk w K:=by
 refine hK _ ⟨[],0,?_,List.nodup_nil,fun _=>rfl⟩ (Fr.alloc _ _ _) (alloc_size _ _)
 exact heap_alloc_at _ _
theorem drM_mk {r:Nat} {K:Nat->Prop} (h:K r):drM (some r) K:=h
end Go.GV
namespace Go.GV
open Go Go.RowKit Go.ChangeShapes Go.WideShapes Go.ChangeAt
section
variable {H:Type} {enc:TypeId×Value->H} {P:Program}
def readable (P:Program) (ts:List TypeId):Bool:=ts.all fun t=>P.readableRec t && decide (t < P.types.size)
theorem trodAll_stays (hl:laidOutB P=true) {W W':World} (hb:Below W.heap.size W W'):∀ {ts:List TypeId} {vs:List Value} {ds:List (DataW H)} {ps:List MemPlace},readable P ts=true ->
  DataW.TrodAll enc P W 0 (fun _=>true) true ts vs ds ps->(∀ x ∈ ps,x.block < W.heap.size)->DataW.TrodAll enc P W' 0 (fun b=>decide (b < W.heap.size)) true ts vs ds ps
 | [],vs,ds,ps,_,h,_=>by
  obtain ⟨rfl,rfl,rfl⟩:=trodAll_nil h
  exact trodAll_mk0
 | t :: ts,vs,ds,ps,hr,h,hp=>by
  obtain ⟨v,vs',d,ds',p,q,rfl,rfl,rfl,h1,h2⟩:=trodAll_cons h
  simp only [readable,List.all_cons,Bool.and_eq_true,decide_eq_true_eq] at hr
  refine trodAll_cons_mk (Below.trod hl hr.1.1 hr.1.2 h1 hb (fun x hx=>hp x (by simp [hx]))) (trodAll_stays hl hb ?_ h2 (fun x hx=>hp x (by simp [hx])))
  simpa [readable] using hr.2
theorem Fr.keptBut {W W':World} (h:Fr (fun _=>False) W W') (may:MemPlace->Prop):W.keptBut W' may:=by
 refine ⟨h.os,h.output,fun i hi=>?_⟩
 rw [h.block i hi (fun h=>h)]
 exact (World.keptBut_refl W may).2.2 i hi
theorem close_true (hl:laidOutB P=true) {f:Func} {s:ChangeSpec} {W W':World} {args:Array Value} {ds gs:List (DataW H)} {before:List MemPlace} {tb:TypeId}
  (hr:readable P f.params.toList=true) (hv:varsRowed P s.vars=true) (hrt:f.resultTypes=#[tb]) (hb:P.underlying tb=some .bool)
  (hW:DataW.Whole enc P f.params.toList s.vars false W args.toList ds gs before)
  (h1:(s.fn H (ds ++ gs)).results=[.lit (.bool true)]) (h2:(s.fn H (ds ++ gs)).args=ds) (h3:(s.fn H (ds ++ gs)).vars=gs)
  (hf:Fr (fun _=>False) W W'):s.post enc P f false true false false W args (.bool true) W':=by
 have hlt:=hW.lt
 obtain ⟨p,q,hA,hV,rfl,hz,hn⟩:=hW
 have hB:Below W.heap.size W W':=⟨hf.os,hf.tape,hf.output,hf.size,fun k hk=>hf.block k hk (fun h=>h)⟩
 refine ⟨ds,gs,p ++ q,[],p,q,⟨p,q,hA,hV,rfl,hz,hn⟩,?_,?_,?_,hf.keptBut _,fun h=>by cases h⟩
 ·rw [h1,hrt]
  exact trodAll_cons_mk (shut_bool hb _) trodAll_mk0
 ·rw [h2]
  exact trodAll_stays hl hB hr hA (fun x hx=>hlt x (by simp [hx]))
 ·rw [h3]
  exact Below.trodVars hl hB hv hV
end
section
variable {H:Type} {enc:TypeId×Value->H} {P:Program} {w:World}
def TR (enc:TypeId×Value->H) (P:Program) (w:World) (fuel:Nat) (t:TypeId) (cs:List Value) (x:DataW H×List MemPlace):Prop:=DataW.trod enc P w 0 (fun _=>true) true fuel t cs=some x
theorem mapM_some {α β:Type} {f:α->Option β}:∀ {l:List α} {r:List β},l.mapM f=some r->r.length=l.length/\∀ (i:Nat) (a:α),l[i]?=some a->∃ b,r[i]?=some b/\f a=some b
 | [],r,h=>by
  have:r=[]:=by simpa [pure] using h.symm
  subst this
  exact ⟨rfl,fun i a h=>by simp at h⟩
 | a :: l,r,h=>by
  rw [List.mapM_cons] at h
  cases hf:f a with
  | none=>rw [hf] at h; cases h
  | some b =>
   rw [hf] at h
   cases hm:l.mapM f with
   | none=>rw [hm] at h; cases h
   | some r' =>
    rw [hm] at h
    have:b :: r'=r:=by simpa using h
    subst this
    obtain ⟨h1,h2⟩:=mapM_some hm
    refine ⟨by simp [h1],fun i x hx=>?_⟩
    cases i with
    | zero=>simp only [List.getElem?_cons_zero,Option.some.injEq] at hx; subst hx; exact ⟨b,rfl,hf⟩
    | succ i=>simp only [List.getElem?_cons_succ] at hx ⊢; exact h2 i x hx
theorem tr_int {fuel:Nat} {t:TypeId} {k:IntKind} {cs:List Value} {x:DataW H×List MemPlace} (ht:P.underlying t=some (.int k)) (h:TR enc P w fuel t cs x):∃ n,cs=[.int k n]/\(Lit.int k n).wf=true/\x=(.lit (.int k n),[]):=by
 cases fuel with
 | zero=>cases h
 | succ m =>
  unfold TR DataW.trod at h
  rw [ht] at h
  split at h <;> simp_all
theorem tr_string {fuel:Nat} {t:TypeId} {cs:List Value} {x:DataW H×List MemPlace} (ht:P.underlying t=some .string) (h:TR enc P w fuel t cs x):∃ s,cs=[.string s]/\s.size<=maxLen/\x=(.lit (.string s.data.toList),[]):=by
 cases fuel with
 | zero=>cases h
 | succ m =>
  unfold TR DataW.trod at h
  rw [ht] at h
  split at h <;> simp_all
theorem tr_struct {fuel:Nat} {t:TypeId} {fs:Array Field} {cs:List Value} {x:DataW H×List MemPlace} (ht:P.underlying t=some (.struct fs)) (h:TR enc P w fuel t cs x) :
  cs.length=P.cellsOf t/\∃ ds:List (DataW H),x.1=.agg ds/\ds.length=fs.size/\∀ (i:Nat) (f:Field),fs[i]?=some f->∃ m y,TR enc P w m f.type ((cs.drop f.offset).take (P.cellsOf f.type)) y/\ds[i]?=some y.1:=by
 cases fuel with
 | zero=>cases h
 | succ m =>
  unfold TR DataW.trod at h
  simp only [ht] at h
  split at h
  ·rename_i hl
   cases hm:(fs.toList.mapM fun f=>DataW.trod enc P w 0 (fun _=>true) true m f.type ((cs.drop f.offset).take (P.cellsOf f.type))) with
   | none=>rw [hm] at h; cases h
   | some xs =>
    rw [hm] at h
    simp only [Option.map_some,Option.some.injEq] at h
    subst h
    obtain ⟨h1,h2⟩:=mapM_some hm
    refine ⟨hl,_,rfl,by simp [h1],fun i f hf=>?_⟩
    obtain ⟨y,hy,hr⟩:=h2 i f (by simpa using hf)
    exact ⟨m,y,hr,by rw [List.getElem?_map,hy]; rfl⟩
  ·cases h
theorem tr_array {fuel:Nat} {t e:TypeId} {k:Nat} {cs:List Value} {x:DataW H×List MemPlace} (ht:P.underlying t=some (.array k e)) (h:TR enc P w fuel t cs x) :
  cs.length=P.cellsOf t/\∃ ds:List (DataW H),x.1=.agg ds/\ds.length=k/\∀ i,i < k->∃ m y,TR enc P w m e ((cs.drop (i * P.cellsOf e)).take (P.cellsOf e)) y/\ds[i]?=some y.1:=by
 cases fuel with
 | zero=>cases h
 | succ m =>
  unfold TR DataW.trod at h
  simp only [ht] at h
  split at h
  ·rename_i hl
   cases hm:((List.range k).mapM fun i=>DataW.trod enc P w 0 (fun _=>true) true m e ((cs.drop (i * P.cellsOf e)).take (P.cellsOf e))) with
   | none=>rw [hm] at h; cases h
   | some xs =>
    rw [hm] at h
    simp only [Option.map_some,Option.some.injEq] at h
    subst h
    obtain ⟨h1,h2⟩:=mapM_some hm
    refine ⟨hl,_,rfl,by simpa using h1,fun i hi=>?_⟩
    obtain ⟨y,hy,hr⟩:=h2 i i (by rw [List.getElem?_range hi])
    exact ⟨m,y,hr,by rw [List.getElem?_map,hy]; rfl⟩
  ·cases h
theorem choose_list {α β:Type} {R:Nat->α->β->Prop}:∀ (l:List α),(∀ (i:Nat) (a:α),l[i]?=some a->∃ b,R i a b)->∃ bs:List β,bs.length=l.length/\∀ (i:Nat) (a:α),l[i]?=some a->∃ b,bs[i]?=some b/\R i a b
 | [],_=>⟨[],rfl,fun i a h=>by simp at h⟩
 | a :: l,h=>by
  obtain ⟨b,hb⟩:=h 0 a rfl
  obtain ⟨bs,h1,h2⟩:=choose_list (R:=fun i=>R (i+1)) l (fun i x hx=>h (i+1) x (by simpa using hx))
  refine ⟨b :: bs,by simp [h1],fun i x hx=>?_⟩
  cases i with
  | zero=>simp only [List.getElem?_cons_zero,Option.some.injEq] at hx; subst hx; exact ⟨b,rfl,hb⟩
  | succ i=>simp only [List.getElem?_cons_succ] at hx ⊢; exact h2 i x hx
theorem agg_of_struct {v:Value} {t:TypeId} {fs:Array Field} (ht:P.underlying t=some (.struct fs)) (hval:Value.okWide P w .any 0 t v):∃ cs:List Value,v=ofL cs/\v.cells.toList=cs:=by
 cases v with
 | agg cs=>exact ⟨cs.toList,by simp [ofL],rfl⟩
 | _ =>
  exfalso
  simp [Value.okWide,Cell.okWide,Cell.ok,ht] at hval
end
open Lib in
theorem cmp_anti:∀ a b:List UInt8,compareBytes a b = - compareBytes b a
 | [],[]=>rfl
 | [],_ :: _=>rfl
 | _ :: _,[]=>rfl
 | x :: a,y :: b=>by
  unfold compareBytes
  by_cases h1:x < y
  ·rw [if_pos h1,if_neg (UInt8.lt_asymm h1),if_pos h1]
  ·by_cases h2:y < x
   ·rw [if_neg h1,if_pos h2,if_pos h2]; rfl
   ·rw [if_neg h1,if_neg h2,if_neg h2,if_neg h1,cmp_anti a b]
open Lib in
theorem cmp_zero:∀ a b:List UInt8,compareBytes a b=0 ↔ a=b
 | [],[]=>⟨fun _=>rfl,fun _=>rfl⟩
 | [],_ :: _=>by simp [compareBytes]
 | _ :: _,[]=>by simp [compareBytes]
 | x :: a,y :: b=>by
  unfold compareBytes
  have ih:=cmp_zero a b
  by_cases h1:x < y
  ·rw [if_pos h1]
   constructor
   ·intro h; cases h
   ·intro h; injection h with h; subst h; exact absurd h1 (UInt8.lt_irrefl x)
  ·by_cases h2:y < x
   ·rw [if_neg h1,if_pos h2]
    constructor
    ·intro h; cases h
    ·intro h; injection h with h; subst h; exact absurd h2 (UInt8.lt_irrefl x)
   ·rw [if_neg h1,if_neg h2,ih]
    have:x=y:=UInt8.le_antisymm (UInt8.not_lt.1 h2) (UInt8.not_lt.1 h1)
    subst this
    simp
open Lib in
theorem cmp_trans:∀ a b c:List UInt8,compareBytes a b<=0->compareBytes b c<=0->compareBytes a c<=0
 | [],b,[],_,_=>by simp [compareBytes]
 | [],b,_ :: _,_,_=>by simp [compareBytes]
 | _ :: _,[],c,h,_=>by simp [compareBytes] at h
 | _ :: _,_ :: _,[],_,h=>by simp [compareBytes] at h
 | x :: a,y :: b,z :: c,h1,h2=>by
  have ih:=cmp_trans a b c
  unfold compareBytes at h1 h2 ⊢
  by_cases xy:x < y
  ·by_cases yz:y < z
   ·rw [if_pos (UInt8.lt_trans xy yz)]; omega
   ·rw [if_neg yz] at h2
    by_cases zy:z < y
    ·rw [if_pos zy] at h2; omega
    ·have:y=z:=UInt8.le_antisymm (UInt8.not_lt.1 zy) (UInt8.not_lt.1 yz)
     subst this
     rw [if_pos xy]; omega
  ·rw [if_neg xy] at h1
   by_cases yx:y < x
   ·rw [if_pos yx] at h1; omega
   ·have:x=y:=UInt8.le_antisymm (UInt8.not_lt.1 yx) (UInt8.not_lt.1 xy)
    subst this
    rw [if_neg yx] at h1
    by_cases xz:x < z
    ·rw [if_pos xz]; omega
    ·rw [if_neg xz] at h2 ⊢
     by_cases zx:z < x
     ·rw [if_pos zx] at h2; omega
     ·rw [if_neg zx] at h2 ⊢
      exact ih h1 h2
open Lib in
theorem cmp_at:∀ (i:Nat) (a b:List UInt8),a.take i=b.take i->compareBytes a b=compareBytes (a.drop i) (b.drop i)
 | 0,a,b,_=>rfl
 | i+1,[],[],_=>rfl
 | i+1,[],y :: b,h=>by simp at h
 | i+1,x :: a,[],h=>by simp at h
 | i+1,x :: a,y :: b,h=>by
  simp only [List.take_succ_cons,List.cons.injEq] at h
  obtain ⟨rfl,h⟩:=h
  simp only [List.drop_succ_cons]
  rw [<- cmp_at i a b h]
  show (if x < x then -1 else if x < x then 1 else compareBytes a b)=_
  rw [if_neg (UInt8.lt_irrefl x),if_neg (UInt8.lt_irrefl x)]
variable {H:Type} {enc:TypeId×Value->H} {P:Program} {w:World}
theorem tr_byteArray {fuel:Nat} {t e:TypeId} {k:Nat} {cs:List Value} {x:DataW H×List MemPlace} (ht:P.underlying t=some (.array k e)) (he:P.underlying e=some (.int .u8)) (hc:P.cellsOf e=1) (hk:P.cellsOf t=k) (h:TR enc P w fuel t cs x) :
  ∃ l:List UInt8,cs=l.map bv/\l.length=k:=by
 obtain ⟨hl,ds,_,_,hi⟩:=tr_array ht h
 rw [hk] at hl
 have each:∀ (i:Nat) (v:Value),cs[i]?=some v->∃ b:UInt8,v=bv b:=fun i v hv=>by
  have hil:=(List.getElem?_eq_some_iff.1 hv).1
  obtain ⟨m,y,hy,_⟩:=hi i (by omega)
  rw [hc,Nat.mul_one] at hy
  obtain ⟨z,hz,hw,_⟩:=tr_int he hy
  have h1:((cs.drop i).take 1)[0]?=some v:=by rw [List.getElem?_take,if_pos (by omega),List.getElem?_drop,Nat.add_zero]; exact hv
  rw [hz] at h1
  simp only [List.getElem?_cons_zero,Option.some.injEq] at h1
  simp only [Lit.wf,IntKind.has,Bool.and_eq_true,decide_eq_true_eq] at hw
  have e1:IntKind.u8.min=0:=by decide
  have e2:IntKind.u8.max=255:=by decide
  refine ⟨UInt8.ofNat z.toNat,?_⟩
  rw [<- h1]
  unfold bv
  congr 1
  simp; omega
 obtain ⟨l,hl2,hl3⟩:=choose_list (R:=fun _ v (b:UInt8)=>v=bv b) cs (fun i v hv=>each i v hv)
 refine ⟨l,?_,by omega⟩
 apply List.ext_getElem?
 intro i
 by_cases hi:i < cs.length
 ·obtain ⟨b,hb,hvb⟩:=hl3 i _ (List.getElem?_eq_getElem hi)
  rw [List.getElem?_map,hb,List.getElem?_eq_getElem hi,hvb]; rfl
 ·rw [List.getElem?_eq_none (by omega),List.getElem?_eq_none (by simp; omega)]
end Go.GV
namespace Go.GV
open Go Go.RowKit
theorem splice_full {c vs:List Value} (h:vs.length=c.length):splice c 0 vs=vs:=by
 unfold splice
 rw [List.take_zero,List.nil_append,Nat.zero_add,h,List.drop_length,List.append_nil]
structure RowO (w:World) (B:Nat) (e:TypeId) (sz:Nat) (A:Option Addr) (n c:Nat) (vs:List Value):Prop where
 len:vs.length=n * sz
 le:n<=c
 at_:(A=none/\n=0/\c=0)\/∃ b o cs,A=some ⟨b,o,none⟩/\B<=b/\w.heap[b]?=some (.cells cs e (0,0))/\o+c * sz<=cs.size/\(cs.toList.drop o).take (n * sz)=vs
section
variable {α:Type} {enc:α->List Value} {sz:Nat}
def flt (enc:α->List Value) (l:List α):List Value:=(l.map enc).flatten
theorem flt_nil:flt enc []=[]:=rfl
theorem flt_app (a b:List α):flt enc (a ++ b)=flt enc a ++ flt enc b:=by simp [flt]
theorem flt_one (x:α):flt enc [x]=enc x:=by simp [flt]
theorem flt_cons (x:α) (l:List α):flt enc (x :: l)=enc x ++ flt enc l:=by simp [flt]
theorem flt_len:∀ {l:List α},(∀ x ∈ l,(enc x).length=sz)->(flt enc l).length=l.length * sz
 | [],_=>by simp [flt]
 | x :: r,h=>by
  rw [flt_cons,List.length_append,h x (List.mem_cons_self ..),flt_len (fun y hy=>h y (List.mem_cons_of_mem _ hy)),List.length_cons,Nat.add_mul]; omega
theorem flt_get:∀ {l:List α},(∀ x ∈ l,(enc x).length=sz)->∀ {i:Nat} {x:α},l[i]?=some x->∀ j,j < sz->(flt enc l)[i * sz+j]?=(enc x)[j]?
 | [],_,i,x,h,_,_=>by simp at h
 | y :: r,hl,0,x,h,j,hj=>by
  simp only [List.getElem?_cons_zero,Option.some.injEq] at h
  subst h
  rw [flt_cons,Nat.zero_mul,Nat.zero_add,List.getElem?_append_left (by rw [hl y (List.mem_cons_self ..)]; exact hj)]
 | y :: r,hl,i+1,x,h,j,hj=>by
  have h1:=hl y (List.mem_cons_self ..)
  have ih:=flt_get (fun z hz=>hl z (List.mem_cons_of_mem _ hz)) (i:=i) (x:=x) (by simpa using h) j hj
  rw [flt_cons,List.getElem?_append_right (by rw [h1,Nat.add_mul]; omega),h1,<- ih]
  congr 1
  rw [Nat.add_mul]; omega
theorem flt_oneCell {l:List α} (h:∀ x ∈ l,∀ v ∈ enc x,v.oneCell'=true):∀ v ∈ flt enc l,v.oneCell'=true:=by
 intro v hv
 simp only [flt,List.mem_flatten,List.mem_map] at hv
 obtain ⟨_,⟨x,hx,rfl⟩,hv⟩:=hv
 exact h x hx v hv
theorem flt_take {l:List α} (hl:∀ x ∈ l,(enc x).length=sz) {k:Nat} (hk:k<=l.length):(flt enc l).take (k * sz)=flt enc (l.take k):=by
 conv=>lhs; rw [<- List.take_append_drop k l,flt_app]
 have h1:(flt enc (l.take k)).length=k * sz:=by rw [flt_len (fun x hx=>hl x (List.mem_of_mem_take hx)),List.length_take,Nat.min_eq_left hk]
 rw [<- h1,List.take_left]
theorem flt_drop {l:List α} (hl:∀ x ∈ l,(enc x).length=sz) {k:Nat} (hk:k<=l.length):(flt enc l).drop (k * sz)=flt enc (l.drop k):=by
 conv=>lhs; rw [<- List.take_append_drop k l,flt_app]
 have h1:(flt enc (l.take k)).length=k * sz:=by rw [flt_len (fun x hx=>hl x (List.mem_of_mem_take hx)),List.length_take,Nat.min_eq_left hk]
 rw [<- h1,List.drop_left]
theorem flt_set {l:List α} (hl:∀ x ∈ l,(enc x).length=sz) {i:Nat} (hi:i < l.length) {y:α} (hy:(enc y).length=sz):splice (flt enc l) (i * sz) (enc y)=flt enc (l.set i y):=by
 unfold splice
 rw [flt_take hl (by omega),hy,show i * sz+sz=(i+1) * sz by rw [Nat.add_mul]; omega,flt_drop hl (by omega),List.set_eq_take_append_cons_drop,if_pos hi,flt_app,flt_cons,List.append_assoc]
end
theorem row_putG {w:World} {B:Nat} {e:TypeId} {sz:Nat} {A:Option Addr} {n c:Nat} {vs us:List Value} {o':Nat} {K:World->Prop} (hr:Row w B e sz A n c vs) (hn:n ≠ 0) (hfit:o'+us.length<=n * sz) (h1:∀ v ∈ us,v.oneCell'=true)
  (hK:∀ w',Row w' B e sz A n c (splice vs o' us)->Fr (fun k=>blkOf A=some k) w w'->K w'):dr A fun b o=>st w b (o+o') us K:=by
 rcases hr.at_ with ⟨_,h0,_⟩ | ⟨b,cs,rfl,hB,hh,hs,ht⟩
 ·exact absurd h0 hn
 ·have hle:=hr.le
  have hl:=hr.len
  have hmul:n * sz<=c * sz:=Nat.mul_le_mul_right _ hle
  show st w b (0+o') us K
  rw [Nat.zero_add]
  have hfit2:o'+us.length<=cs.toList.length:=by simp; omega
  refine ⟨⟨cs,e,0,0,hh,by simpa using hfit2,.inl (Nat.zero_le _)⟩,h1,hK _ ⟨by rw [splice_length (by omega)]; exact hl,hle,.inr ⟨b,_,rfl,hB,stB_heap hh,?_,?_⟩⟩ (Fr.st (fun _=>rfl))⟩
  ·simp only [List.size_toArray]; rw [splice_length hfit2]; simpa using hs
  ·apply List.ext_getElem?
   intro i
   rw [List.getElem?_take]
   by_cases hi:i < n * sz
   ·rw [if_pos hi,splice_get hfit2,splice_get (by omega)]
    by_cases h2:i < o'
    ·rw [if_pos h2,if_pos h2,<- ht,List.getElem?_take,if_pos hi]
    ·rw [if_neg h2,if_neg h2]
     by_cases h3:i < o'+us.length
     ·rw [if_pos h3,if_pos h3]
     ·rw [if_neg h3,if_neg h3,<- ht,List.getElem?_take,if_pos hi]
   ·rw [if_neg hi,List.getElem?_eq_none]
    rw [splice_length (by omega)]; omega
section
variable {α:Type} {enc:α->List Value} {sz:Nat}
theorem el_rd {w:World} {A:Option Addr} {n:Nat} {l:List α} (h:Sl w sz A n (flt enc l)) (hl:∀ x ∈ l,(enc x).length=sz) {i:Nat} {x:α} (hi:l[i]?=some x) {ii:Int} (hii:ii=(i:Int)) {X:Nat->Nat->Prop} (hn:l.length=n)
  (hX:∀ b o,A=some ⟨b,o,none⟩->cellsAt w b (o+ii.toNat * sz) (enc x)->X b o):dr A fun b o=>gd (decide (0<=ii)) (gd (decide (ii < ((n:Nat):Int))) (X b o)):=by
 subst hii
 have hil:=(List.getElem?_eq_some_iff.1 hi).1
 obtain ⟨b,o,rfl,hc⟩:=h.2 (by omega)
 refine dr_mk (gd_mk (decide_eq_true (by omega)) (gd_mk (decide_eq_true (by omega)) (hX b o rfl ?_)))
 rw [Int.toNat_natCast]
 intro j v hj
 have hj':j < sz:=by have:=(List.getElem?_eq_some_iff.1 hj).1; rw [hl x (List.mem_of_getElem? hi)] at this; exact this
 rw [Nat.add_assoc]
 exact hc _ v (by rw [flt_get hl hi j hj']; exact hj)
theorem el_put {w:World} {B:Nat} {e:TypeId} {A:Option Addr} {n c:Nat} {l:List α} (hr:Row w B e sz A n c (flt enc l)) (hl:∀ x ∈ l,(enc x).length=sz) (hn:l.length=n) {i:Nat} (hi:i < n) {ii:Int} (hii:ii=(i:Int)) {y:α} (hy:(enc y).length=sz) (h1:∀ v ∈ enc y,v.oneCell'=true) {K:World->Prop}
  (hK:∀ w',Row w' B e sz A n c (flt enc (l.set i y))->Fr (fun k=>blkOf A=some k) w w'->K w') :
  dr A fun b o=>gd (decide (0<=ii)) (gd (decide (ii < ((n:Nat):Int))) (gd ((enc y).length == sz) (st w b (o+ii.toNat * sz) (enc y) K))):=by
 subst hii
 have hmul:(i+1) * sz<=n * sz:=Nat.mul_le_mul_right _ hi
 rw [Nat.add_mul] at hmul
 have h:=row_putG (o':=i * sz) (us:=enc y) (K:=K) hr (by omega) (by omega) h1 (fun w' hr' f'=>hK w' (by rw [<- flt_set hl (by omega) hy]; exact hr') f')
 rw [dr_iff] at h
 obtain ⟨b,o,rfl,h⟩:=h
 refine dr_mk (gd_mk (decide_eq_true (by omega)) (gd_mk (decide_eq_true (by omega)) (gd_mk (by rw [hy]; simp) ?_)))
 rw [Int.toNat_natCast]
 exact h
end
theorem slS {b m l sz:Nat} (h:l < m):slA (some (⟨b,0,none⟩:Addr)) m l sz=some ⟨b,l * sz,none⟩:=by
 unfold slA
 rw [if_neg (by omega),Option.map_some,add_none,Nat.zero_add]
theorem sl0 (b m sz:Nat):slA (some (⟨b,0,none⟩:Addr)) m 0 sz=some ⟨b,0,none⟩:=by
 unfold slA
 split
 ·rfl
 ·rw [Option.map_some,add_none,Nat.zero_mul]
theorem sl_blk {b m l sz:Nat}:blkOf (slA (some (⟨b,0,none⟩:Addr)) m l sz)=some b:=by
 unfold slA
 split
 ·rfl
 ·rw [Option.map_some,add_none]; rfl
theorem splice_nil (c:List Value) (o:Nat):splice c o []=c:=by simp [splice]
theorem Row.tailS {w:World} {B:Nat} {e:TypeId} {sz:Nat} {A:Option Addr} {n c k:Nat} {vs:List Value} (h:Row w B e sz A n c vs) (hk:k<=n):Sl w sz (slA A c k sz) (n - k) (vs.drop (k * sz)):=by
 have hl:=h.len
 have hle:=h.le
 refine ⟨by rw [List.length_drop,hl,Nat.sub_mul],fun h0=>?_⟩
 rcases h.at_ with ⟨_,h1,_⟩ | ⟨b,cs,rfl,_,hh,_,ht⟩
 ·omega
 ·refine ⟨b,k * sz,slS (by omega),fun j v hj=>?_⟩
  rw [List.getElem?_drop] at hj
  have:=cellsAt_take hh ht (k * sz+j) v hj
  rwa [Nat.zero_add] at this
theorem Sl.headS {w:World} {sz:Nat} {A:Option Addr} {n k:Nat} {vs:List Value} (h:Sl w sz A n vs) (hk:k<=n):Sl w sz A k (vs.take (k * sz)):=by
 have hl:=h.1
 have hm:k * sz<=n * sz:=Nat.mul_le_mul_right _ hk
 refine ⟨by rw [List.length_take,hl,Nat.min_eq_left hm],fun h0=>?_⟩
 obtain ⟨b,o,hA,hc⟩:=h.2 (by omega)
 refine ⟨b,o,hA,fun j v hj=>hc j v ?_⟩
 rw [List.getElem?_take] at hj
 split at hj
 ·exact hj
 ·cases hj
theorem row_cutG {w:World} {B:Nat} {e:TypeId} {sz:Nat} {A:Option Addr} {n c k:Nat} {vs:List Value} (hr:Row w B e sz A n c vs) (hk:k<=n):Row w B e sz A k c (vs.take (k * sz)):=by
 have hl:=hr.len
 have hle:=hr.le
 have hm:k * sz<=n * sz:=Nat.mul_le_mul_right _ hk
 refine ⟨by rw [List.length_take,hl,Nat.min_eq_left hm],by omega,?_⟩
 rcases hr.at_ with ⟨h1,h2,h3⟩ | ⟨b,cs,hA,hB,hh,hs,ht⟩
 ·exact .inl ⟨h1,by omega,h3⟩
 ·exact .inr ⟨b,cs,hA,hB,hh,hs,by rw [<- ht,List.take_take,Nat.min_eq_left hm]⟩
theorem row_ext {w:World} {B:Nat} {e:TypeId} {sz:Nat} {A:Option Addr} {n c k:Nat} {vs:List Value} (hr:Row w B e sz A n c vs) (hk:n+k<=c):∃ us,us.length=k * sz/\Row w B e sz A (n+k) c (vs ++ us):=by
 have hl:=hr.len
 rcases hr.at_ with ⟨h1,h2,h3⟩ | ⟨b,cs,hA,hB,hh,hs,ht⟩
 ·have:k=0:=by omega
  subst this
  exact ⟨[],by simp,by rw [List.append_nil]; exact hr⟩
 ·have hm:(n+k) * sz<=c * sz:=Nat.mul_le_mul_right _ hk
  have hcl:cs.toList.length=c * sz:=by simpa using hs
  rw [Nat.add_mul] at hm
  refine ⟨(cs.toList.drop (n * sz)).take (k * sz),by rw [List.length_take,List.length_drop,hcl]; omega,?_,hk,.inr ⟨b,cs,hA,hB,hh,hs,?_⟩⟩
  ·rw [List.length_append,List.length_take,List.length_drop,hcl,hl,Nat.add_mul]; omega
  ·rw [Nat.add_mul,<- ht,List.take_add]
theorem cpy_row {w:World} {B:Nat} {e:TypeId} {sz:Nat} {A:Option Addr} {n c m k:Nat} {vs us:List Value} {x:Value} {K:Nat->World->Prop} (hr:Row w B e sz A n c vs) (hx:srcOf w sz x m us) (hul:us.length=m * sz) (hk:k<=n) (h1:∀ v ∈ us.take (min m (n - k) * sz),v.oneCell'=true)
  (hK:∀ w',Row w' B e sz A n c (splice vs (k * sz) (us.take (min m (n - k) * sz)))->Fr (fun j=>blkOf A=some j) w w'->K (min m (n - k)) w'):cpy w sz (slA A c k sz) (n - k) x K:=by
 refine ⟨m,us,hx,fun h0=>?_,fun h0=>?_⟩
 ·have:=hK w (by rw [h0,Nat.zero_mul,List.take_zero,splice_nil]; exact hr) (Fr.refl _ _)
  rw [h0] at this
  exact this
 ·have hle:=hr.le
  have hkn:k < n:=by omega
  have hm1:min m (n - k) * sz<=m * sz:=Nat.mul_le_mul_right _ (Nat.min_le_left _ _)
  have hm2:min m (n - k) * sz<=(n - k) * sz:=Nat.mul_le_mul_right _ (Nat.min_le_right _ _)
  have hm3:k * sz<=n * sz:=Nat.mul_le_mul_right _ hk
  rw [Nat.sub_mul] at hm2
  have hlt:(us.take (min m (n - k) * sz)).length=min m (n - k) * sz:=by rw [List.length_take,hul,Nat.min_eq_left hm1]
  have h:=row_putG (o':=k * sz) (us:=us.take (min m (n - k) * sz)) (K:=fun w'=>K (min m (n - k)) w') hr (by omega) (by rw [hlt]; omega) h1 hK
  rcases hr.at_ with ⟨_,h2,_⟩ | ⟨b,cs,rfl,_⟩
  ·omega
  ·rw [slS (by omega)]
   have h:st w b (0+k * sz) _ _:=h
   rw [Nat.zero_add] at h
   exact h
theorem app_in {w:World} {B:Nat} {e:TypeId} {sz bytes:Nat} {z:List Value} {A:Option Addr} {n c:Nat} {x:Value} {old us:List Value} {m:Nat} {K:Option Addr->Nat->Nat->World->Prop}
  (hr:Row w B e sz A n c old) (hx:srcOf w sz x m us) (hul:us.length=m * sz) (h1:∀ v ∈ us,v.oneCell'=true) (hb:(n+m) * bytes<=140737488355328) (hm:n+m<=9223372036854775807) (hle:n+m<=c)
  (hK:∀ w',Row w' B e sz A (n+m) c (old ++ us)->Fr (fun k=>blkOf A=some k) w w'->K A (n+m) c w'):app w sz bytes z e A n c x K:=by
 refine ⟨m,us,hx,h1,hb,hm,fun _=>⟨fun h0=>?_,fun h0=>?_⟩,fun hlt=>absurd hlt (by omega)⟩
 ·subst h0
  have:us=[]:=List.length_eq_zero_iff.1 (by simpa using hul)
  subst this
  exact hK w (by rw [List.append_nil]; exact hr) (Fr.refl _ _)
 ·rcases hr.at_ with ⟨rfl,rfl,rfl⟩ | ⟨b,cs,rfl,hBb,hh,hs,ht⟩
  ·omega
  ·have hfit:n * sz+us.length<=cs.size:=by rw [hs,hul,<- Nat.add_mul]; exact Nat.mul_le_mul_right _ hle
   show st w b (0+n * sz) us _
   rw [Nat.zero_add]
   refine ⟨⟨cs,e,0,0,hh,hfit,.inl (Nat.zero_le _)⟩,h1,?_⟩
   refine hK _ ⟨by rw [List.length_append,hr.len,hul,Nat.add_mul],hle,.inr ⟨b,_,rfl,hBb,stB_heap hh,?_,?_⟩⟩ (Fr.st (fun _=>rfl))
   ·simp only [List.size_toArray]; rw [splice_length (by simpa using hfit)]; simpa using hs
   ·have:=splice_take (vs:=us) ht hr.len
    rw [hul,<- Nat.add_mul] at this
    simpa using this
theorem appZ_new {w:World} {B:Nat} {e:TypeId} {sz bytes:Nat} {z:List Value} {A:Option Addr} {n c:Nat} {x:Int} {old:List Value} {m:Nat} {K:Option Addr->Nat->Nat->World->Prop}
  (hs:Sl w sz A n old) (hx:IntKind.wrap .i64 x=(m:Int)) (h48:(m:Int) * bytes<=281474976710656) (h1:∀ v ∈ z,v.oneCell'=true) (hz:z.length=sz) (hb:(n+m) * bytes<=140737488355328) (hm:n+m<=9223372036854775807) (hlt:c < n+m) (hB:B<=w.heap.size)
  (hK:∀ b c' w',w.heap.size<=b->Row w' B e sz (some ⟨b,0,none⟩) (n+m) c' (old ++ zeros m z)->Fr (fun _=>False) w w'->K (some ⟨b,0,none⟩) (n+m) c' w'):appZ w sz bytes z e A n c x K:=by
 have hul:(zeros m z).length=m * sz:=by rw [zeros_length,hz]
 have hol:=hs.1
 unfold appZ
 rw [hx,Int.toNat_natCast]
 refine ⟨Int.natCast_nonneg m,h48,h1,hb,hm,fun hle=>absurd hle (by omega),fun _=>⟨old,hs.src,fun cap hc1 hc2=>?_⟩⟩
 refine hK _ _ _ (by show w.heap.size<=w.drew.heap.size; exact Nat.le_refl _) ⟨by rw [List.length_append,hol,hul,Nat.add_mul],hc1,.inr ⟨_,_,rfl,hB,heap_alloc_at _ _,?_,?_⟩⟩ ((Fr.drew _ w).trans1 (Fr.alloc _ _ _))
 ·simp only [List.size_toArray,List.length_append,zeros_length,hol,hz,<- Nat.add_mul]
  congr 1; omega
 ·simp only [List.append_assoc]
  rw [<- List.append_assoc,List.take_append_of_le_length (by rw [List.length_append,hol,hul,<- Nat.add_mul]; exact Nat.le_refl _),List.take_of_length_le (by rw [List.length_append,hol,hul,<- Nat.add_mul]; exact Nat.le_refl _)]
theorem overlaps_ext {P:Program} {f:FuncId} {fn:Func} {w:World} {tS tR e e1 e2:TypeId} {size:Nat} {b1 o1 n1 c1 b2 o2 n2 c2:Nat} {cs1 cs2:Array Value} {K:Value->World->Prop}
  (hf:P.funcs[f]?=some fn) (hb:fn.body.isNone=true) (hn:Extern.findNext fn=none) (he:Extern.find fn=some (Extern.SlicesOverlaps.overlaps #[tS,tS] #[tR]))
  (ht:P.underlying tS=some (.slice e)) (hz0:size ≠ 0) (hz:szOf P e=size)
  (h1:w.heap[b1]?=some (.cells cs1 e1 (0,0))) (h2:w.heap[b2]?=some (.cells cs2 e2 (0,0))) (hne:b1 ≠ b2) (h0:cs2.size ≠ 0) (hK:K (.bool false) w) :
  extC P f #[.slice (some ⟨b1,o1,none⟩) n1 c1,.slice (some ⟨b2,o2,none⟩) n2 c2] w K:=by
 refine ⟨fn,_,_,w,hf,hb,hn,he,?_,hK⟩
 exact Lib.run_overlaps_apart w tS tR e ht size (fun w=>szOf_run hz0 hz) ⟨b1,o1,none⟩ ⟨b2,o2,none⟩ n1 c1 n2 c2 hne e1 e2 cs1.size cs2.size (by simp [World.shape?,h1]) (by simp [World.shape?,h2]) h0 (by simp [World.frozen?,h1]) (by simp [World.frozen?,h1])
end Go.GV
namespace Go.GV
structure EncO (β:Type) (enc:β->List Value) (sz:Nat):Prop where
 len:∀ x,(enc x).length=sz
 one:∀ x,∀ v ∈ enc x,v.oneCell'=true
section
variable {β:Type} {enc:β->List Value} {sz:Nat}
theorem EncO.fl (h:EncO β enc sz) (l:List β):(flt enc l).length=l.length * sz:=flt_len (fun x _=>h.len x)
theorem EncO.fo (h:EncO β enc sz) (l:List β):∀ v ∈ flt enc l,v.oneCell'=true:=flt_oneCell (fun x _=>h.one x)
theorem EncO.ft (h:EncO β enc sz) (l:List β) {k:Nat} (hk:k<=l.length):(flt enc l).take (k * sz)=flt enc (l.take k):=flt_take (fun x _=>h.len x) hk
theorem EncO.fd (h:EncO β enc sz) (l:List β) {k:Nat} (hk:k<=l.length):(flt enc l).drop (k * sz)=flt enc (l.drop k):=flt_drop (fun x _=>h.len x) hk
end
theorem splice_at {a z b:List Value} {o:Nat} (ha:a.length=o):splice (a ++ z) o b=a ++ b ++ z.drop b.length:=by
 subst ha
 unfold splice
 rw [List.take_left,<- List.drop_drop,List.drop_left]
theorem zeros_one {n:Nat} {z:List Value} (h:∀ v ∈ z,v.oneCell'=true):∀ v ∈ zeros n z,v.oneCell'=true:=by
 intro v hv
 simp only [zeros,List.mem_flatten,List.mem_replicate] at hv
 obtain ⟨l,⟨_,rfl⟩,hv⟩:=hv
 exact h v hv
end Go.GV
namespace Go.Proofs.YtkfanhdicnjdlaaGreatDoor
open Go.GV
set_option maxRecDepth 100000
open Go.Value renaming int -> VI, slice -> VS, tuple -> VT, pointer -> VP, string -> VG, bool -> VB
open Go.IntKind renaming wrap -> WR
abbrev ST := Option Addr × Nat × Nat
abbrev NT := Nat × Nat
abbrev WT := World -> Prop
abbrev QT := Value -> World -> Prop
theorem noCount:NoCount Tryz.prog:=noCount_of (by kernel_rfl)
theorem mixed:Tryz.prog.follows .mixedOrders=true:=by kernel_rfl
def PK27:List LK:=[.i .i64,.i .u64,.y,.y,.y,.y,.y,.y,.y,.y,.y,.y,.y,.y,.y,.y,.y,.y,.y,.y,.y,.y,.y,.y,.y,.y,.y,.y,.y,.y,.y,.y,.y,.y,.s,.i .i64,.i .i64,.i .i64,.i .i64]
def Z24:List Value:=[VI .u8 0,VI .u8 0,VI .u8 0,VI .u8 0,VI .u8 0,VI .u8 0,VI .u8 0,VI .u8 0,VI .u8 0,VI .u8 0,VI .u8 0,VI .u8 0,VI .u8 0,VI .u8 0,VI .u8 0,VI .u8 0,VI .u8 0,VI .u8 0,VI .u8 0,VI .u8 0,VI .u8 0,VI .u8 0,VI .u8 0,VI .u8 0,VI .u8 0,VI .u8 0,VI .u8 0,VI .u8 0,VI .u8 0,VI .u8 0,VI .u8 0,VI .u8 0]
def Z28:List Value:=[VI .i64 0,VI .u64 0,VI .u8 0,VI .u8 0,VI .u8 0,VI .u8 0,VI .u8 0,VI .u8 0,VI .u8 0,VI .u8 0,VI .u8 0,VI .u8 0,VI .u8 0,VI .u8 0,VI .u8 0,VI .u8 0,VI .u8 0,VI .u8 0,VI .u8 0,VI .u8 0,VI .u8 0,VI .u8 0,VI .u8 0,VI .u8 0,VI .u8 0,VI .u8 0,VI .u8 0,VI .u8 0,VI .u8 0,VI .u8 0,VI .u8 0,VI .u8 0,VI .u8 0,VI .u8 0,VG (⟨#[]⟩:ByteArray),VI .i64 0,VI .i64 0,VI .i64 0,VI .i64 0]
def Z34:List Value:=[VI .i64 0,VI .u64 0,VI .u8 0,VI .u8 0,VI .u8 0,VI .u8 0,VI .u8 0,VI .u8 0,VI .u8 0,VI .u8 0,VI .u8 0,VI .u8 0,VI .u8 0,VI .u8 0,VI .u8 0,VI .u8 0,VI .u8 0,VI .u8 0,VI .u8 0,VI .u8 0,VI .u8 0,VI .u8 0,VI .u8 0,VI .u8 0,VI .u8 0,VI .u8 0,VI .u8 0,VI .u8 0,VI .u8 0,VI .u8 0,VI .u8 0,VI .u8 0,VI .u8 0,VI .u8 0,VG (⟨#[]⟩:ByteArray),VS none 0 0,VI .i64 0,VI .i64 0]
def Z71:List Value:=[VI .i64 0,VI .u64 0,VS none 0 0,VI .i64 0]
def Z99:List Value:=[VI .i64 0,VI .u64 0,VS none 0 0,VI .i64 0,VI .i64 0]
def Z124:List Value:=[VG (⟨#[]⟩:ByteArray),VG (⟨#[]⟩:ByteArray),VG (⟨#[]⟩:ByteArray),VG (⟨#[]⟩:ByteArray)]
def Z171:List Value:=[VI .u32 0,VI .u32 0,VI .u32 0,VI .u32 0,VI .u32 0,VI .u32 0,VI .u32 0,VI .u32 0]
def Z185:List Value:=[VI .i64 0,VG (⟨#[]⟩:ByteArray),VG (⟨#[]⟩:ByteArray),VI .i64 0]
def Z207:List Value:=[VI .u32 0,VI .u32 0,VI .u32 0,VI .u32 0,VI .u32 0,VI .u32 0,VI .u32 0,VI .u32 0,VI .u32 0,VI .u32 0,VI .u32 0,VI .u32 0,VI .u32 0,VI .u32 0,VI .u32 0,VI .u32 0]
def Z209:List Value:=[VI .u32 0,VI .u32 0,VI .u32 0,VI .u32 0,VI .u32 0,VI .u32 0,VI .u32 0,VI .u32 0,VI .u32 0,VI .u32 0,VI .u32 0,VI .u32 0,VI .u32 0,VI .u32 0,VI .u32 0,VI .u32 0,VI .u32 0,VI .u32 0,VI .u32 0,VI .u32 0,VI .u32 0,VI .u32 0,VI .u32 0,VI .u32 0,VI .u32 0,VI .u32 0,VI .u32 0,VI .u32 0,VI .u32 0,VI .u32 0,VI .u32 0,VI .u32 0,VI .u32 0,VI .u32 0,VI .u32 0,VI .u32 0,VI .u32 0,VI .u32 0,VI .u32 0,VI .u32 0,VI .u32 0,VI .u32 0,VI .u32 0,VI .u32 0,VI .u32 0,VI .u32 0,VI .u32 0,VI .u32 0,VI .u32 0,VI .u32 0,VI .u32 0,VI .u32 0,VI .u32 0,VI .u32 0,VI .u32 0,VI .u32 0,VI .u32 0,VI .u32 0,VI .u32 0,VI .u32 0,VI .u32 0,VI .u32 0,VI .u32 0,VI .u32 0]
end Go.Proofs.YtkfanhdicnjdlaaGreatDoor
