import Derived.Lib.ItoaNum
import Derived.Lib.Atoi
import Derived.Lib.Repeat
import Derived.Lib.Strings
import Derived.Shelf.Small.Wraps
import Derived.Shelf.Strconv.Atoi
import Derived.Shelf.Strconv.ErrVar
import Derived.Shelf.Strconv.Itoa3
import Derived.Shelf.Strings.Repeat
import Derived.Test.YtodmachaofepkaaGreatDoorProg
import Derived.Test.YtodmachaofepkaaGreatDoorRows
import Derived.WalkKit
import Derived.ProofKit
import Derived.OpenShut
import Derived.JoinedCond
import Derived.Test.YtodmachaofepkaaGreatDoorCards
import Derived.Test.YtodmachaofepkaaGreatDoorTie
import Derived.Deep.DeepHandedRow
import Derived.Lib.LaidTab
import Derived.Stop.LaidErr
import Derived.Test.YtodmachaofepkaaGreatDoorP4
set_option linter.unusedVariables false
set_option linter.unusedSimpArgs false
namespace Go.Proofs.YtodmachaofepkaaGreatDoor
open Go.GV Go.RowKit Go.Lib
set_option maxHeartbeats 4000000 in
theorem rright24_calls (A:Option Addr) (m c:Nat) (l:List Wo) (n:Int) (w:World) (h:SW w A m l) (hs:SmW l) (hm:m<=1099511627776) :
  Calls Tryz.prog 14 #[.slice A m c,.int .i64 n] w fun e w'=>(∃ t,e=.returned (.bool t)/\(t=true ↔ ∀ x ∈ l,RgW x n))/\Fr (fun _=>False) w w':=by
 refine (F14.of A m c n w (Q:=fun v w'=>(∃ t,v=.bool t/\(t=true ↔ ∀ x ∈ l,RgW x n))/\Fr (fun _=>False) w w') ?_).mono (fun e w' ⟨v,he,⟨t,hv,h⟩,h'⟩=>⟨⟨t,by rw [he,hv],h⟩,h'⟩)
 refine jnC_mk (loop_rule (fun s u=>∃ i:Nat,s=((A,m,c),n,(i:Int),())/\i<=m/\Fr (fun _=>False) w u/\∀ j (y:Wo),j < i->l[j]?=some y->RgW y n) (fun s _=>(m - s.2.2.1).toNat) ?_ _ _ ⟨0,rfl,Nat.zero_le _,Fr.refl _ _,fun j _ hj=>absurd hj (Nat.not_lt_zero _)⟩)
 rintro s u C ⟨i,rfl,hi,hf,hr⟩ hC _
 have hl:=h.len
 refine vIf_mk (fun hlt=>?_) (fun hge=>⟨⟨true,rfl,fun _ x hx=>?_,fun _=>rfl⟩,hf⟩)
 rotate_left
 ·have hge:¬ (i:Int) < (m:Int):=of_decide_eq_false hge
  obtain ⟨j,hj,hjx⟩:=List.mem_iff_getElem.1 hx
  exact hr j x (by omega) (by rw [<- hjx]; exact List.getElem?_eq_getElem hj)
 have hlt':(i:Int) < (m:Int):=of_decide_eq_true hlt
 have hil:i < l.length:=by omega
 have hx:=List.getElem?_eq_getElem hil
 obtain ⟨b1,o1,hA1,hc1⟩:=(h.fr hf).get hx
 have hmem:=List.getElem_mem hil
 have hd:=h.d _ hmem
 have hsm:=hs _ hmem
 generalize hX:l[i]=x at hx hc1 hd hsm hmem
 subst hA1
 have g1:decide (0<=(i:Int))=true:=decide_eq_true (by omega)
 have g2:decide ((i:Int) < (m:Int))=true:=decide_eq_true hlt'
 refine dr_mk (gd_mk g1 (gd_mk g2 ⟨woC x,woC_len hd,?_,var_new (sz:=39) rfl (woC_len hd) (woC_one x) (fun b4 w4 f4 hb4 r4=>⟨_,r4.cell (o:=0) (wo_k x),(rhas_calls x.k w4).mono ?_⟩)⟩))
 ·exact hc1
 rintro e w5 ⟨⟨td,tm,tz,rfl,ht⟩,rfl⟩
 have hf4:=hf.trans1 f4
 have no:∀ u:World,Fr (fun _=>False) w4 u->¬ RgW x n->(∃ t,Value.bool false=.bool t/\(t=true ↔ ∀ x ∈ l,RgW x n))/\Fr (fun _=>False) w u:=fun u f hn=>⟨⟨false,rfl,(fun g=>by cases g),fun g=>absurd (g x hmem) hn⟩,hf4.trans1 f⟩
 refine ⟨_,_,_,rfl,_,r4.cell (o:=0) (wo_k x),vIf_mk (fun q=>no _ (Fr.refl _ _) (fun g=>?_)) (fun q1=>⟨_,r4.cell (o:=0) (wo_k x),vIf_mk (fun q=>no _ (Fr.refl _ _) (fun g=>?_)) (fun q2=>⟨_,r4.cell (o:=36) (wo_s hd),vIf_mk (fun q=>no _ (Fr.refl _ _) (fun g=>?_)) (fun q3=>⟨_,r4.cell (o:=37) (wo_o hd),vIf_mk (fun q=>no _ (Fr.refl _ _) (fun g=>?_)) (fun q4=>⟨_,r4.cell (o:=37) (wo_o hd),vIf_mk (fun q=>no _ (Fr.refl _ _) (fun g=>?_)) (fun q5=>⟨_,r4.cell (o:=38) (wo_q hd),vIf_mk (fun q=>no _ (Fr.refl _ _) (fun g=>?_)) (fun q6=>⟨_,r4.cell (o:=38) (wo_q hd),vIf_mk (fun q=>no _ (Fr.refl _ _) (fun g=>?_)) (fun q7=>⟨_,r4.cell (o:=35) (wo_z hd),vIf_mk (fun q=>no _ (Fr.refl _ _) (fun g=>?_)) (fun q8=>⟨_,r4.cell (o:=35) (wo_z hd),vIf_mk (fun q=>no _ (Fr.refl _ _) (fun g=>?_)) (fun q9=>?_)⟩)⟩)⟩)⟩)⟩)⟩)⟩)⟩)⟩
 ·have q:x.k < 1:=of_decide_eq_true q
  have:=g.k; omega
 ·have q:x.k > 5:=of_decide_eq_true q
  have:=g.k; omega
 ·have q:x.s ≠ n:=by simpa using q
  exact q g.s
 ·have q:x.o < 0:=of_decide_eq_true q
  have:=g.o; omega
 ·have q:x.o > 1048576:=of_decide_eq_true q
  have:=g.o; omega
 ·have q:x.q < 0:=of_decide_eq_true q
  have:=g.q; omega
 ·have q:x.q > 1048576:=of_decide_eq_true q
  have:=g.q; omega
 ·have q:x.z < 0:=of_decide_eq_true q
  have:=g.z; omega
 ·have q:x.z > 1048576:=of_decide_eq_true q
  have:=g.z; omega
 have q1:¬ x.k < 1:=of_decide_eq_false q1
 have q2:¬ x.k > 5:=of_decide_eq_false q2
 have q3:x.s=n:=by simpa using q3
 have q4:¬ x.o < 0:=of_decide_eq_false q4
 have q5:¬ x.o > 1048576:=of_decide_eq_false q5
 have q6:¬ x.q < 0:=of_decide_eq_false q6
 have q7:¬ x.q > 1048576:=of_decide_eq_false q7
 have q8:¬ x.z < 0:=of_decide_eq_false q8
 have q9:¬ x.z > 1048576:=of_decide_eq_false q9
 obtain ⟨rfl,rfl,rfl⟩:=ht (by omega) (by omega)
 have hR1:Rg1 x n:=⟨by omega,q3,by omega,by omega,by omega⟩
 refine jnC_mk (fun _=>var_new (sz:=32) rfl rfl (bvs_one z32) (fun b22 w6 f6 hb22 r22=>?_))
 have r4:=r4.fr f6 (fun h=>h)
 have nxt1:RgW x n->jnC C ((some ⟨b1,o1,none⟩,m,c),n,IntKind.wrap .i64 ((i:Int)+1),()) w6:=by
  intro hg
  refine jnC_mk (hC _ _ ⟨i+1,?_,by omega,hf4.trans1 f6,fun j y hj hy=>?_⟩ ?_)
  ·show (_,_,IntKind.wrap .i64 ((i:Int)+1),())=_
   rw [i64_id (by omega) (by omega)]; rfl
  ·by_cases hji:j=i
   ·subst hji
    rw [hx] at hy
    cases hy
    exact hg
   ·exact hr j y (by omega) hy
  ·show ((m:Int) - IntKind.wrap .i64 ((i:Int)+1)).toNat < ((m:Int) - (i:Int)).toNat
   rw [i64_id (by omega) (by omega)]; omega
 have Zc:(¬ ofD x.k->x.d=z32)->Rg3 x->vIf (!decide (ofZ x.k)) (ldI .i64 w6 b4 (0+35) fun i33=>vIf (decide (i33 > 0)) ((fun v w'=>(∃ t,v=Value.bool t/\(t=true ↔ ∀ x ∈ l,RgW x n))/\Fr (fun _=>False) w w') (Value.bool false) w6) (jnC C ((some ⟨b1,o1,none⟩,m,c),n,IntKind.wrap .i64 ((i:Int)+1),()) w6)) (jnC C ((some ⟨b1,o1,none⟩,m,c),n,IntKind.wrap .i64 ((i:Int)+1),()) w6):=by
  intro hD h3
  refine vIf_mk (fun q=>⟨_,r4.cell (o:=35) (wo_z hd),vIf_mk (fun q'=>no _ f6 (fun g=>?_)) (fun q'=>nxt1 ?_)⟩) (fun q=>nxt1 ?_)
  ·have q:¬ ofZ x.k:=fun g=>by rw [decide_eq_true g] at q; cases q
   have q':x.z > 0:=of_decide_eq_true q'
   have:=g.z0 q
   omega
  ·have q':¬ x.z > 0:=of_decide_eq_false q'
   exact (rgW_iff x n).2 ⟨hR1,⟨fun _=>by omega,hD⟩,h3⟩
  ·have q:ofZ x.k:=by
    by_cases g:ofZ x.k
    ·exact g
    ·rw [decide_eq_false g] at q; cases q
   exact (rgW_iff x n).2 ⟨hR1,⟨fun g=>absurd q g,hD⟩,h3⟩
 have Nc:(¬ ofD x.k->x.d=z32)->(¬ ofN x.k->x.nm=[])->vIf (decide (ofN x.k)) (ldS w6 b4 (0+34) fun s29=>Calls Tryz.prog 35 #[Value.string s29] w6 fun e31 w30=>∃ t32:Bool,e31=.returned (Value.bool t32)/\(vIf (!t32) ((fun v w'=>(∃ t,v=Value.bool t/\(t=true ↔ ∀ x ∈ l,RgW x n))/\Fr (fun _=>False) w w') (Value.bool false) w30) (vIf (!decide (ofZ x.k)) (ldI .i64 w30 b4 (0+35) fun i33=>vIf (decide (i33 > 0)) ((fun v w'=>(∃ t,v=Value.bool t/\(t=true ↔ ∀ x ∈ l,RgW x n))/\Fr (fun _=>False) w w') (Value.bool false) w30) (jnC C ((some ⟨b1,o1,none⟩,m,c),n,IntKind.wrap .i64 ((i:Int)+1),()) w30)) (jnC C ((some ⟨b1,o1,none⟩,m,c),n,IntKind.wrap .i64 ((i:Int)+1),()) w30)))) (vIf (!decide (ofZ x.k)) (ldI .i64 w6 b4 (0+35) fun i33=>vIf (decide (i33 > 0)) ((fun v w'=>(∃ t,v=Value.bool t/\(t=true ↔ ∀ x ∈ l,RgW x n))/\Fr (fun _=>False) w w') (Value.bool false) w6) (jnC C ((some ⟨b1,o1,none⟩,m,c),n,IntKind.wrap .i64 ((i:Int)+1),()) w6)) (jnC C ((some ⟨b1,o1,none⟩,m,c),n,IntKind.wrap .i64 ((i:Int)+1),()) w6)):=by
  intro hD hN0
  refine vIf_mk (fun q=>⟨_,r4.cell (o:=34) (wo_nm hd),(rtag_calls _ w6 (by show x.nm.toArray.size<=_; rw [List.size_toArray]; omega)).mono ?_⟩) (fun q=>Zc hD ⟨fun g=>?_,hN0⟩)
  ·have q:=of_decide_eq_true q
   rintro e u6 ⟨⟨t,rfl,ht⟩,hw⟩
   obtain rfl:w6=u6:=hw.symm
   refine ⟨t,rfl,vIf_mk (fun q'=>no _ f6 (fun g=>?_)) (fun q'=>Zc hD ⟨fun _=>ht.1 (by cases t <;> simp_all),hN0⟩)⟩
   rw [ht.2 (g.nm q)] at q'; cases q'
  ·rw [decide_eq_true g] at q; cases q
 have Ec:(¬ ofD x.k->x.d=z32)->vIf (!decide (ofN x.k)) (ldS w6 b4 (0+34) fun s28=>vIf (!(s28.toList == (⟨#[]⟩:ByteArray).toList)) ((fun v w'=>(∃ t,v=Value.bool t/\(t=true ↔ ∀ x ∈ l,RgW x n))/\Fr (fun _=>False) w w') (Value.bool false) w6) (vIf (decide (ofN x.k)) (ldS w6 b4 (0+34) fun s29=>Calls Tryz.prog 35 #[Value.string s29] w6 fun e31 w30=>∃ t32:Bool,e31=.returned (Value.bool t32)/\(vIf (!t32) ((fun v w'=>(∃ t,v=Value.bool t/\(t=true ↔ ∀ x ∈ l,RgW x n))/\Fr (fun _=>False) w w') (Value.bool false) w30) (vIf (!decide (ofZ x.k)) (ldI .i64 w30 b4 (0+35) fun i33=>vIf (decide (i33 > 0)) ((fun v w'=>(∃ t,v=Value.bool t/\(t=true ↔ ∀ x ∈ l,RgW x n))/\Fr (fun _=>False) w w') (Value.bool false) w30) (jnC C ((some ⟨b1,o1,none⟩,m,c),n,IntKind.wrap .i64 ((i:Int)+1),()) w30)) (jnC C ((some ⟨b1,o1,none⟩,m,c),n,IntKind.wrap .i64 ((i:Int)+1),()) w30)))) (vIf (!decide (ofZ x.k)) (ldI .i64 w6 b4 (0+35) fun i33=>vIf (decide (i33 > 0)) ((fun v w'=>(∃ t,v=Value.bool t/\(t=true ↔ ∀ x ∈ l,RgW x n))/\Fr (fun _=>False) w w') (Value.bool false) w6) (jnC C ((some ⟨b1,o1,none⟩,m,c),n,IntKind.wrap .i64 ((i:Int)+1),()) w6)) (jnC C ((some ⟨b1,o1,none⟩,m,c),n,IntKind.wrap .i64 ((i:Int)+1),()) w6)))) (vIf (decide (ofN x.k)) (ldS w6 b4 (0+34) fun s29=>Calls Tryz.prog 35 #[Value.string s29] w6 fun e31 w30=>∃ t32:Bool,e31=.returned (Value.bool t32)/\(vIf (!t32) ((fun v w'=>(∃ t,v=Value.bool t/\(t=true ↔ ∀ x ∈ l,RgW x n))/\Fr (fun _=>False) w w') (Value.bool false) w30) (vIf (!decide (ofZ x.k)) (ldI .i64 w30 b4 (0+35) fun i33=>vIf (decide (i33 > 0)) ((fun v w'=>(∃ t,v=Value.bool t/\(t=true ↔ ∀ x ∈ l,RgW x n))/\Fr (fun _=>False) w w') (Value.bool false) w30) (jnC C ((some ⟨b1,o1,none⟩,m,c),n,IntKind.wrap .i64 ((i:Int)+1),()) w30)) (jnC C ((some ⟨b1,o1,none⟩,m,c),n,IntKind.wrap .i64 ((i:Int)+1),()) w30)))) (vIf (!decide (ofZ x.k)) (ldI .i64 w6 b4 (0+35) fun i33=>vIf (decide (i33 > 0)) ((fun v w'=>(∃ t,v=Value.bool t/\(t=true ↔ ∀ x ∈ l,RgW x n))/\Fr (fun _=>False) w w') (Value.bool false) w6) (jnC C ((some ⟨b1,o1,none⟩,m,c),n,IntKind.wrap .i64 ((i:Int)+1),()) w6)) (jnC C ((some ⟨b1,o1,none⟩,m,c),n,IntKind.wrap .i64 ((i:Int)+1),()) w6))):=by
  intro hD
  refine vIf_mk (fun q=>⟨_,r4.cell (o:=34) (wo_nm hd),vIf_mk (fun q'=>no _ f6 (fun g=>?_)) (fun q'=>Nc hD (fun _=>?_))⟩) (fun q=>Nc hD (fun g=>?_))
  ·have q:¬ ofN x.k:=fun g=>by rw [decide_eq_true g] at q; cases q
   rw [nm_nil,decide_eq_true (g.n0 q)] at q'; cases q'
  ·rw [nm_nil] at q'
   exact of_decide_eq_true (by simpa using q')
  ·rw [decide_eq_false g] at q; cases q
 have cD:cellsAt w6 b4 2 (x.d.map bv):=r4.cells (o:=2) (fun j v hj=>wo_d hd j v hj)
 refine vIf_mk (fun q=>⟨x.d.map bv,by rw [List.length_map,hd],cD,z32.map bv,by rw [List.length_map,z32_len],rec_all r22,x.d,z32,hd,z32_len,rfl,rfl,vIf_mk (fun q'=>no _ f6 (fun g=>?_)) (fun q'=>Ec (fun _=>?_))⟩) (fun q=>Ec (fun g=>?_))
 ·have q:¬ ofD x.k:=fun g=>by rw [decide_eq_true g] at q; cases q
  rw [g.d0 q] at q'; simp at q'
 ·simpa using q'
 ·rw [decide_eq_false g] at q; cases q
def paC (k N:Int) (S:Nat) (T D:List UInt8):List Value:=[.int .i64 k,.int .i64 N,.int .u64 (S:Nat),.string ⟨T.toArray⟩] ++ D.map bv
theorem paC_len {k N:Int} {S:Nat} {T D:List UInt8} (h:D.length=32):(paC k N S T D).length=36:=by simp [paC,h]
theorem paC_one (k N:Int) (S:Nat) (T D:List UInt8):∀ v ∈ paC k N S T D,v.oneCell'=true:=by
 intro v hv
 unfold paC at hv
 rcases List.mem_append.1 hv with h | h
 ·simp only [List.mem_cons,List.not_mem_nil,or_false] at h
  rcases h with rfl | rfl | rfl | rfl <;> rfl
 ·exact bvs_one _ v h
theorem pa_N (k N:Int) (S:Nat) (T D:List UInt8):(paC k N S T D)[1]?=some (.int .i64 N):=rfl
theorem pa_S (k N:Int) (S:Nat) (T D:List UInt8):(paC k N S T D)[2]?=some (.int .u64 (S:Nat)):=rfl
theorem pa_T (k N:Int) (S:Nat) (T D:List UInt8):(paC k N S T D)[3]?=some (.string ⟨T.toArray⟩):=rfl
theorem pa_D {k N:Int} {S:Nat} {T D:List UInt8} (j:Nat) (v:Value) (hv:(D.map bv)[j]?=some v):(paC k N S T D)[4+j]?=some v:=by
 have hj:=(List.getElem?_eq_some_iff.1 hv).1
 unfold paC
 rw [List.getElem?_append_right (by show 4<=4+j; omega),<- hv]
 congr 1
 show 4+j - 4=j
 omega
end Go.Proofs.YtodmachaofepkaaGreatDoor
namespace Go.Proofs.YtodmachaofepkaaGreatDoor.Nm8
open Go.GV Go.RowKit Go.Lib
theorem nil_iff (s:ByteArray):(s.toList == (⟨#[]⟩:ByteArray).toList)=decide (s.size=0):=by
 rw [ByteArray.toList_eq,ByteArray.toList_eq]
 have h:s.size=s.data.toList.length:=by rw [Array.length_toList]; rfl
 rw [h]
 cases hl:s.data.toList with
 | nil=>rfl
 | cons a r=>simp
theorem ndec_t {p:Prop} [Decidable p] (h:(!decide p)=true):¬ p:=by simpa using h
theorem ndec_f {p:Prop} [Decidable p] (h:(!decide p)=false):p:=by simpa using h
def dg (n:Nat):UInt8:=UInt8.ofNat (48+n % 10)
theorem dg_nat (n:Nat):(dg n).toNat=48+n % 10:=by
 unfold dg
 rw [UInt8.toNat_ofNat']
 omega
def digs:Nat->Nat->List UInt8
 | 0,_=>[]
 | k+1,n=>digs k (n / 10) ++ [dg n]
theorem digs_len:∀ k n,(digs k n).length=k
 | 0,_=>rfl
 | k+1,n=>by simp [digs,digs_len k]
theorem digs_cons:∀ k n,digs (k+1) n=dg (n / 10 ^ k) :: digs k n
 | 0,n=>by simp [digs]
 | k+1,n=>by
  have h:digs (k+2) n=digs (k+1) (n / 10) ++ [dg n]:=rfl
  rw [h,digs_cons k (n / 10)]
  show dg (n / 10 / 10 ^ k) :: (digs k (n / 10) ++ [dg n])=_
  have e:n / 10 / 10 ^ k=n / 10 ^ (k+1):=by rw [Nat.div_div_eq_div_mul,Nat.pow_succ,Nat.mul_comm]
  rw [e]; rfl
theorem digitVal_dg (n:Nat):digitVal (dg n)=some (n % 10):=by
 unfold digitVal
 rw [dg_nat,if_pos (by omega)]
 congr 1; omega
theorem decFrom_app:∀ (a b:List UInt8) (acc:Nat),decFrom acc (a ++ b)=(decFrom acc a).bind fun m=>decFrom m b
 | [],b,acc=>rfl
 | x :: a,b,acc=>by
  show (match digitVal x with | some d=>decFrom (acc * 10+d) (a ++ b) | none=>none)=(match digitVal x with | some d=>decFrom (acc * 10+d) a | none=>none).bind fun m=>decFrom m b
  cases digitVal x with
  | none=>rfl
  | some d=>exact decFrom_app a b _
theorem mod_succ (n k:Nat):n % 10 ^ (k+1)=n / 10 % 10 ^ k * 10+n % 10:=by
 rw [Nat.pow_succ,Nat.mul_comm (10 ^ k) 10,Nat.mod_mul]
 omega
theorem decFrom_digs:∀ k n acc,decFrom acc (digs k n)=some (acc * 10 ^ k+n % 10 ^ k)
 | 0,n,acc=>by simp [digs,decFrom,Nat.mod_one]
 | k+1,n,acc=>by
  show decFrom acc (digs k (n / 10) ++ [dg n])=_
  rw [decFrom_app,decFrom_digs k,Option.bind_some]
  show (match digitVal (dg n) with | some d=>decFrom ((acc * 10 ^ k+n / 10 % 10 ^ k) * 10+d) [] | none=>none)=_
  rw [digitVal_dg]
  show some ((acc * 10 ^ k+n / 10 % 10 ^ k) * 10+n % 10)=_
  rw [mod_succ,Nat.pow_succ,Nat.add_mul,Nat.mul_assoc]
  congr 1
  omega
theorem digs_inj {k u v:Nat} (hu:u < 10 ^ k) (hv:v < 10 ^ k) (h:digs k u=digs k v):u=v:=by
 have h1:=decFrom_digs k u 0
 have h2:=decFrom_digs k v 0
 rw [h,h2] at h1
 rw [Nat.mod_eq_of_lt hu,Nat.mod_eq_of_lt hv] at h1
 simp at h1
 omega
theorem digs_zero:∀ k,digs k 0=repeatL [48] k
 | 0=>rfl
 | k+1=>by
  rw [digs_cons,Nat.zero_div,digs_zero k]; rfl
theorem dec_small {u:Nat} (h:u < 10):decDigits u=[dg u]:=by
 rw [decDigits,dif_pos h]
 unfold dg
 rw [Nat.mod_eq_of_lt h]
theorem dec_big {u:Nat} (h:¬ u < 10):decDigits u=decDigits (u / 10) ++ [dg u]:=by
 rw [decDigits,dif_neg h]; rfl
theorem pad_digs:∀ (k u:Nat),u < 10 ^ (k+1)->(decDigits u).length<=k+1/\repeatL [48] (k+1 - (decDigits u).length) ++ decDigits u=digs (k+1) u
 | 0,u,h=>by
  have h:u < 10:=by simpa using h
  rw [dec_small h]
  exact ⟨Nat.le_refl _,rfl⟩
 | k+1,u,h=>by
  by_cases h10:u < 10
  ·rw [dec_small h10]
   refine ⟨by simp,?_⟩
   show repeatL [48] (k+1) ++ [dg u]=digs (k+1) (u / 10) ++ [dg u]
   rw [Nat.div_eq_of_lt h10,digs_zero]
  ·have hd:u / 10 < 10 ^ (k+1):=by rw [Nat.pow_succ] at h; omega
   obtain ⟨h1,h2⟩:=pad_digs k (u / 10) hd
   rw [dec_big h10,List.length_append,List.length_singleton]
   refine ⟨by omega,?_⟩
   rw [show k+1+1 - ((decDigits (u / 10)).length+1)=k+1 - (decDigits (u / 10)).length by omega,<- List.append_assoc,h2]
   rfl
def wl (k:Int):List UInt8:=if k=1 then [115,101,103,45] else if k=2 then [104,105,110,116,45] else if k=3 then [112,111,105,110,116,45] else []
def good (k n:Int):Prop:=1<=k/\k<=3/\1<=n/\n<=99999999
instance (k n:Int):Decidable (good k n):=by unfold good; infer_instance
def fileL (k n:Int):List UInt8:=if good k n then wl k ++ digs 8 n.toNat else []
theorem fileL_good {k n:Int} (h:good k n):fileL k n=wl k ++ digs 8 n.toNat:=if_pos h
theorem fileL_nil {k n:Int} (h:¬ good k n):fileL k n=[]:=if_neg h
theorem kinds {k:Int} (h1:1<=k) (h3:k<=3):k=1\/k=2\/k=3:=by omega
theorem wl_ne {k k':Int} (h1:1<=k) (h3:k<=3) (h1':1<=k') (h3':k'<=3) {a b:List UInt8} (h:wl k ++ a=wl k' ++ b):k=k':=by
 rcases kinds h1 h3 with rfl | rfl | rfl <;> rcases kinds h1' h3' with rfl | rfl | rfl <;> first | rfl | (simp [wl] at h)
theorem fileL_inj {k n k' n':Int} (h:good k n) (h':good k' n') (he:fileL k n=fileL k' n'):k=k'/\n=n':=by
 rw [fileL_good h,fileL_good h'] at he
 obtain ⟨a,b,c,d⟩:=h
 obtain ⟨a',b',c',d'⟩:=h'
 have hk:=wl_ne a b a' b' he
 subst hk
 have:=digs_inj (k:=8) (u:=n.toNat) (v:=n'.toNat) (by omega) (by omega) (List.append_cancel_left he)
 exact ⟨rfl,by omega⟩
end Go.Proofs.YtodmachaofepkaaGreatDoor.Nm8
namespace Go.Proofs
open Go.Shelf
def Tryz.laysM171_ren:Go.Shelf.Ren:=⟨fun | 171=>49 | 243=>74 | 246=>100 | 283=>125 | 284=>126 | 285=>127 | 286=>128 | 129=>142 | 317=>141 | 318=>143 | 319=>144 | 320=>145 | 337=>150 | 338=>151 | n=>n,fun | 3=>3 | 9=>9 | 2=>2 | 4=>4 | 171=>209 | 0=>0 | 53=>24 | 37=>22 | 5=>5 | 173=>212 | 212=>231 | 51=>106 | 20=>20 | 213=>232 | 46=>140 | 232=>45 | 233=>239 | n=>n,fun | 17=>1 | 18=>2 | 19=>3 | n=>n⟩
theorem Tryz.laysM171:Go.Proofs.LaysM.n171 Tryz.prog Tryz.laysM171_ren:={
 mixed:=by kernel_rfl
 f129:=Tryz.func142.trans (congrArg some (by kernel_rfl))
 f171:=Tryz.func49.trans (congrArg some (by kernel_rfl))
 f243:=Tryz.func74.trans (congrArg some (by kernel_rfl))
 f246:=Tryz.func100.trans (congrArg some (by kernel_rfl))
 f283:=Tryz.func125.trans (congrArg some (by kernel_rfl))
 f284:=Tryz.func126.trans (congrArg some (by kernel_rfl))
 f285:=Tryz.func127.trans (congrArg some (by kernel_rfl))
 f286:=Tryz.func128.trans (congrArg some (by kernel_rfl))
 f317:=Tryz.func141.trans (congrArg some (by kernel_rfl))
 f318:=Tryz.func143.trans (congrArg some (by kernel_rfl))
 f319:=Tryz.func144.trans (congrArg some (by kernel_rfl))
 f320:=Tryz.func145.trans (congrArg some (by kernel_rfl))
 f337:=Tryz.func150.trans (congrArg some (by kernel_rfl))
 f338:=Tryz.func151.trans (congrArg some (by kernel_rfl))
 t0:=Tryz.underlying0
 a0:=Tryz.isAgg0
 z0:=Tryz.sizeOf0
 v0:=Tryz.zeroValue0
 t2:=Tryz.underlying2
 a2:=Tryz.isAgg2
 z2:=Tryz.sizeOf2
 v2:=Tryz.zeroValue2
 t3:=Tryz.underlying3
 a3:=Tryz.isAgg3
 z3:=Tryz.sizeOf3
 v3:=Tryz.zeroValue3
 t4:=Tryz.underlying4
 a4:=Tryz.isAgg4
 z4:=Tryz.sizeOf4
 v4:=Tryz.zeroValue4
 t5:=Tryz.underlying5
 a5:=Tryz.isAgg5
 z5:=Tryz.sizeOf5
 v5:=Tryz.zeroValue5
 t9:=Tryz.underlying9
 a9:=Tryz.isAgg9
 z9:=Tryz.sizeOf9
 v9:=Tryz.zeroValue9
 t20:=Tryz.underlying20
 a20:=Tryz.isAgg20
 z20:=Tryz.sizeOf20
 v20:=Tryz.zeroValue20
 t37:=Tryz.underlying22
 a37:=Tryz.isAgg22
 z37:=Tryz.sizeOf22
 v37:=Tryz.zeroValue22
 t46:=Tryz.underlying140
 a46:=Tryz.isAgg140
 z46:=Tryz.sizeOf140
 v46:=Tryz.zeroValue140
 t51:=Tryz.underlying106
 a51:=Tryz.isAgg106
 z51:=Tryz.sizeOf106
 v51:=Tryz.zeroValue106
 t53:=Tryz.underlying24
 a53:=Tryz.isAgg24
 z53:=Tryz.sizeOf24
 v53:=Tryz.zeroValue24
 t171:=Tryz.underlying209
 a171:=Tryz.isAgg209
 z171:=Tryz.sizeOf209
 v171:=Tryz.zeroValue209
 t173:=Tryz.underlying212
 a173:=Tryz.isAgg212
 z173:=Tryz.sizeOf212
 v173:=Tryz.zeroValue212
 t212:=Tryz.underlying231
 a212:=Tryz.isAgg231
 z212:=Tryz.sizeOf231
 v212:=Tryz.zeroValue231
 t213:=Tryz.underlying232
 a213:=Tryz.isAgg232
 z213:=Tryz.sizeOf232
 t232:=Tryz.underlying45
 a232:=Tryz.isAgg45
 z232:=Tryz.sizeOf45
 v232:=Tryz.zeroValue45
 t233:=Tryz.underlying239
 a233:=Tryz.isAgg239
 z233:=Tryz.sizeOf239
 v233:=Tryz.zeroValue239
 g17:=by kernel_rfl
 g18:=by kernel_rfl
 g19:=by kernel_rfl
 i0:=by kernel_rfl
 i2:=by kernel_rfl
 i3:=by kernel_rfl
 i4:=by kernel_rfl
 i5:=by kernel_rfl
 i9:=by kernel_rfl
 i20:=by kernel_rfl
 i37:=by kernel_rfl
 i46:=by kernel_rfl
 i51:=by kernel_rfl
 i53:=by kernel_rfl
 i171:=by kernel_rfl
 i173:=by kernel_rfl
 i212:=by kernel_rfl
 i232:=by kernel_rfl
 i233:=by kernel_rfl
 m17:=by kernel_rfl
 m18:=by kernel_rfl
 m19:=by kernel_rfl }
open Go.RowKit Go.Sort Go.Lib in
theorem Tryz.strconv_Itoa (n : Int) (h0 : -9223372036854775808 <= n) (h1 : n <= 9223372036854775807) (w : World) (htab : Lib.TabIs Tryz.prog w "internal/strconv.uint64pow10" .u64 Lib.pow10Tab) :
  Calls Tryz.prog 49 #[.int .i64 n] w fun e w'=>e=.returned (.string ⟨(Lib.itoa n).toArray⟩)/\∃ k os,w'=grow (w.drewN k) os:=Any.strconv_Itoa Tryz.laysM171 n h0 h1 w htab
def Tryz.lays105_ren:Go.Shelf.Ren:=⟨fun | 105=>50 | 212=>75 | 99=>76 | 165=>77 | 166=>78 | 170=>79 | 169=>80 | 263=>101 | 264=>102 | 206=>103 | 240=>104 | 241=>105 | 276=>129 | 277=>130 | n=>n,fun | 9=>9 | 3=>3 | 4=>4 | 20=>20 | 0=>0 | 46=>140 | 109=>148 | 5=>5 | 72=>153 | 76=>157 | 51=>106 | 146=>185 | 53=>24 | 148=>187 | 70=>151 | 37=>22 | 75=>156 | 127=>189 | 164=>214 | 80=>160 | n=>n,fun | n=>n⟩
theorem Tryz.lays105:Go.Proofs.Lays.n105 Tryz.prog Tryz.lays105_ren:={
 mixed:=by kernel_rfl
 f99:=Tryz.func76.trans (congrArg some (by kernel_rfl))
 f105:=Tryz.func50.trans (congrArg some (by kernel_rfl))
 f165:=Tryz.func77.trans (congrArg some (by kernel_rfl))
 f166:=Tryz.func78.trans (congrArg some (by kernel_rfl))
 f169:=Tryz.func80.trans (congrArg some (by kernel_rfl))
 f170:=Tryz.func79.trans (congrArg some (by kernel_rfl))
 f206:=Tryz.func103.trans (congrArg some (by kernel_rfl))
 f212:=Tryz.func75.trans (congrArg some (by kernel_rfl))
 f240:=Tryz.func104.trans (congrArg some (by kernel_rfl))
 f241:=Tryz.func105.trans (congrArg some (by kernel_rfl))
 f263:=Tryz.func101.trans (congrArg some (by kernel_rfl))
 f264:=Tryz.func102.trans (congrArg some (by kernel_rfl))
 f276:=Tryz.func129.trans (congrArg some (by kernel_rfl))
 f277:=Tryz.func130.trans (congrArg some (by kernel_rfl))
 t0:=Tryz.underlying0
 a0:=Tryz.isAgg0
 z0:=Tryz.sizeOf0
 v0:=Tryz.zeroValue0
 t3:=Tryz.underlying3
 a3:=Tryz.isAgg3
 z3:=Tryz.sizeOf3
 v3:=Tryz.zeroValue3
 t4:=Tryz.underlying4
 a4:=Tryz.isAgg4
 z4:=Tryz.sizeOf4
 v4:=Tryz.zeroValue4
 t5:=Tryz.underlying5
 a5:=Tryz.isAgg5
 z5:=Tryz.sizeOf5
 v5:=Tryz.zeroValue5
 t9:=Tryz.underlying9
 a9:=Tryz.isAgg9
 z9:=Tryz.sizeOf9
 v9:=Tryz.zeroValue9
 t20:=Tryz.underlying20
 a20:=Tryz.isAgg20
 z20:=Tryz.sizeOf20
 v20:=Tryz.zeroValue20
 t37:=Tryz.underlying22
 a37:=Tryz.isAgg22
 z37:=Tryz.sizeOf22
 v37:=Tryz.zeroValue22
 t46:=Tryz.underlying140
 a46:=Tryz.isAgg140
 z46:=Tryz.sizeOf140
 v46:=Tryz.zeroValue140
 t51:=Tryz.underlying106
 a51:=Tryz.isAgg106
 z51:=Tryz.sizeOf106
 v51:=Tryz.zeroValue106
 t53:=Tryz.underlying24
 a53:=Tryz.isAgg24
 z53:=Tryz.sizeOf24
 v53:=Tryz.zeroValue24
 t70:=Tryz.underlying151
 a70:=Tryz.isAgg151
 z70:=Tryz.sizeOf151
 v70:=Tryz.zeroValue151
 t72:=Tryz.underlying153
 a72:=Tryz.isAgg153
 z72:=Tryz.sizeOf153
 v72:=Tryz.zeroValue153
 t75:=Tryz.underlying156
 a75:=Tryz.isAgg156
 z75:=Tryz.sizeOf156
 v75:=Tryz.zeroValue156
 t76:=Tryz.underlying157
 a76:=Tryz.isAgg157
 z76:=Tryz.sizeOf157
 v76:=Tryz.zeroValue157
 t109:=Tryz.underlying148
 a109:=Tryz.isAgg148
 z109:=Tryz.sizeOf148
 v109:=Tryz.zeroValue148
 t127:=Tryz.underlying189
 a127:=Tryz.isAgg189
 z127:=Tryz.sizeOf189
 v127:=Tryz.zeroValue189
 t146:=Tryz.underlying185
 a146:=Tryz.isAgg185
 z146:=Tryz.sizeOf185
 v146:=Tryz.zeroValue185
 t148:=Tryz.underlying187
 a148:=Tryz.isAgg187
 z148:=Tryz.sizeOf187
 v148:=Tryz.zeroValue187
 t164:=Tryz.underlying214
 a164:=Tryz.isAgg214
 z164:=Tryz.sizeOf214
 v164:=Tryz.zeroValue214 }
theorem Tryz.Builder_Extra_105:Builder.Extra Tryz.prog Tryz.lays105_ren:={
 sizeBuilder:=by kernel_rfl
 liesBuilder:=by kernel_rfl
 t5:=Tryz.underlying5
 a5:=Tryz.isAgg5
 z5:=Tryz.sizeOf5
 v5:=Tryz.zeroValue5
 infoByte:=by kernel_rfl
 cellsByte:=by kernel_rfl
 sizeByte:=by kernel_rfl
 neB5:=by decide }
open Go.RowKit Go.Lib in
theorem Tryz.strings_Repeat (s:ByteArray) (c:Nat) (w:World) (hc:c<=9223372036854775807) (hlen:s.size * c<=140737488355328) :
  Calls Tryz.prog 50 #[.string s,.int .i64 c] w fun e w'=>e=.returned (.string ⟨(Lib.repeatL s.data.toList c).toArray⟩)/\Below w.heap.size w w':=Any.strings_Repeat Tryz.lays105 Tryz.Builder_Extra_105 s c w hc hlen
end Go.Proofs
namespace Go.Proofs.YtodmachaofepkaaGreatDoor.Nm8
open Go.GV Go.RowKit Go.Lib
def bs (l:List UInt8):ByteArray:=⟨l.toArray⟩
theorem bs_size (l:List UInt8):(bs l).size=l.length:=by simp [bs,ByteArray.size]
theorem bs_list (l:List UInt8):(bs l).data.toList=l:=by simp [bs]
theorem bs_app (a b:List UInt8):bs a ++ bs b=bs (a ++ b):=by
 apply ByteArray.ext
 simp [bs,ByteArray.data_append]
structure VK (w:World):Prop where
 tab : Lib.TabIs Tryz.prog w "internal/strconv.uint64pow10" .u64 Lib.pow10Tab
theorem var_fr {w w':World} {n:String} {cs:Array Value} (f:Fr (fun _=>False) w w') (h:w.var? Tryz.prog n=some cs):w'.var? Tryz.prog n=some cs:=by
 unfold World.var? at h ⊢
 cases hg:Tryz.prog.globalNamed n with
 | none=>rw [hg] at h; cases h
 | some g =>
  simp only [hg,Option.bind_some] at h ⊢
  have hlt:g < w.heap.size:=by
   rcases Nat.lt_or_ge g w.heap.size with h' | h'
   ·exact h'
   ·rw [Array.getElem?_eq_none h'] at h; cases h
  rw [f.block g hlt (fun h=>h)]
  exact h
theorem VK.fr {w w':World} (h:VK w) (f:Fr (fun _=>False) w w'):VK w':=⟨var_fr f h.tab⟩
theorem below_fr {w w':World} (h:Below w.heap.size w w'):Fr (fun _=>False) w w':=Fr.of_below h (fun k hk hB=>by omega)
theorem grow_fr (w:World) (k:Nat) (os:Array Obj):Fr (fun _=>False) w (Go.Sort.grow (w.drewN k) os):=by
 refine ⟨rfl,rfl,rfl,?_,fun j hj _=>?_⟩
 ·show w.heap.size<=(w.heap ++ os).size
  rw [Array.size_append]; omega
 ·show (w.heap ++ os)[j]?=w.heap[j]?
  rw [Array.getElem?_append_left hj]
theorem fourC (k:Int) (h1:1<=k) (h3:k<=3):([Value.string (⟨#[]⟩:ByteArray),.string ⟨#[115,101,103,45]⟩,.string ⟨#[104,105,110,116,45]⟩,.string ⟨#[112,111,105,110,116,45]⟩]:List Value)[k.toNat]?=some (.string (bs (wl k))):=by
 rcases kinds h1 h3 with rfl | rfl | rfl <;> rfl
theorem wl_nil {k:Int} (h:¬ (1<=k/\k<=3)):wl k=[]:=by
 unfold wl
 rw [if_neg (by omega),if_neg (by omega),if_neg (by omega)]
theorem word_calls (k:Int) (w:World):Calls Tryz.prog 48 #[.int .i64 k] w fun e w'=>e=.returned (.string (bs (wl k)))/\Fr (fun _=>False) w w':=by
 refine (F48.of k w (Q:=fun v w'=>v=.string (bs (wl k))/\Fr (fun _=>False) w w') ?_).mono (fun e w' ⟨v,he,hv,h⟩=>⟨by rw [he,hv],h⟩)
 refine nw_mk (gd_mk rfl ?_)
 have f1:Fr (fun _=>False) w (w.alloc (.cells Z147.toArray 147)):=Fr.alloc _ _ _
 refine (RecAt.new w Z147 147).st_mk (o:=0) (vs:=[Value.string (⟨#[]⟩:ByteArray),.string ⟨#[115,101,103,45]⟩,.string ⟨#[104,105,110,116,45]⟩,.string ⟨#[112,111,105,110,116,45]⟩]) (Nat.le_refl 4) (by
  intro x hx
  simp only [List.mem_cons,List.not_mem_nil,or_false] at hx
  rcases hx with rfl | rfl | rfl | rfl <;> rfl) (fun r f2=>?_)
 rw [splice_full (c:=Z147) (vs:=[Value.string (⟨#[]⟩:ByteArray),.string ⟨#[115,101,103,45]⟩,.string ⟨#[104,105,110,116,45]⟩,.string ⟨#[112,111,105,110,116,45]⟩]) rfl] at r
 have f:Fr (fun _=>False) w (stB (w.alloc (.cells Z147.toArray 147)) w.heap.size 0 [Value.string (⟨#[]⟩:ByteArray),.string ⟨#[115,101,103,45]⟩,.string ⟨#[104,105,110,116,45]⟩,.string ⟨#[112,111,105,110,116,45]⟩]):=f1.trans f2 (fun _ _ h=>h) (fun j hj h=>by omega)
 refine vIf_mk (fun h0=>?_) (fun h0=>vIf_mk (fun h4=>?_) (fun h4=>jnC_mk (fun _=>?_)))
 ·have h0:k<=0:=of_decide_eq_true h0
  rw [wl_nil (by omega)]
  exact ⟨rfl,f⟩
 ·have h4:k >= 4:=of_decide_eq_true h4
  rw [wl_nil (by omega)]
  exact ⟨rfl,f⟩
 ·have h0:¬ k<=0:=of_decide_eq_false h0
  have h4:¬ k >= 4:=of_decide_eq_false h4
  refine gd_mk (decide_eq_true (by show (0:Int)<=k; omega)) (gd_mk (decide_eq_true (by show k < 4; omega)) ⟨_,r.cell (by rw [show 0+k.toNat * 1=k.toNat by omega]; exact fourC k (by omega) (by omega)),rfl,f⟩)
set_option maxHeartbeats 1000000 in
theorem file_calls (k n:Int) (w:World) (hv:VK w):Calls Tryz.prog 27 #[.int .i64 k,.int .i64 n] w fun e w'=>e=.returned (.string (bs (fileL k n)))/\Fr (fun _=>False) w w':=by
 refine (F27.of k n w (Q:=fun v w'=>v=.string (bs (fileL k n))/\Fr (fun _=>False) w w') ?_).mono (fun e w' ⟨v,he,hv,h⟩=>⟨by rw [he,hv],h⟩)
 refine (word_calls k w).mono ?_
 rintro e u ⟨rfl,f⟩
 refine ⟨_,rfl,vIf_mk (fun h0=>?_) (fun h0=>vIf_mk (fun h1=>?_) (fun h1=>vIf_mk (fun h2=>?_) (fun h2=>jnC_mk (fun _=>?_))))⟩
 ·rw [nil_iff,bs_size] at h0
  have h0:=of_decide_eq_true h0
  rw [fileL_nil (fun h=>by
   obtain ⟨a,b,_,_⟩:=h
   rcases kinds a b with rfl | rfl | rfl <;> simp [wl] at h0)]
  exact ⟨rfl,f⟩
 ·have h1:n < 1:=of_decide_eq_true h1
  rw [fileL_nil (fun h=>by have:=h.2.2.1; omega)]
  exact ⟨rfl,f⟩
 ·have h2:n > 99999999:=of_decide_eq_true h2
  rw [fileL_nil (fun h=>by have:=h.2.2.2; omega)]
  exact ⟨rfl,f⟩
 ·rw [nil_iff,bs_size] at h0
  have h0:=of_decide_eq_false h0
  have h1:¬ n < 1:=of_decide_eq_false h1
  have h2:¬ n > 99999999:=of_decide_eq_false h2
  have hk:1<=k/\k<=3:=by
   by_cases h:1<=k/\k<=3
   ·exact h
   ·rw [wl_nil h] at h0; exact absurd rfl h0
  have hg:good k n:=⟨hk.1,hk.2,by omega,by omega⟩
  have hit:Lib.itoa n=decDigits n.toNat:=by unfold Lib.itoa; rw [if_neg (by omega)]
  obtain ⟨p1,p2⟩:=pad_digs 7 n.toNat (by omega)
  refine (Tryz.strconv_Itoa n (by omega) (by omega) u (hv.fr f).tab).mono ?_
  rintro e u2 ⟨rfl,q,os,rfl⟩
  have f2:=f.trans1 (grow_fr u q os)
  rw [hit]
  have hsz:(bs (decDigits n.toNat)).size=(decDigits n.toNat).length:=bs_size _
  refine ⟨bs (decDigits n.toNat),rfl,?_⟩
  have hw:IntKind.wrap .i64 (8 - ((bs (decDigits n.toNat)).size:Int))=((8 - (decDigits n.toNat).length:Nat):Int):=by rw [hsz,i64_id (by omega) (by omega)]; omega
  dsimp only
  rw [hw]
  refine (Tryz.strings_Repeat ⟨#[48]⟩ (8 - (decDigits n.toNat).length) _ (by omega) (by show 1 * _<=_; omega)).mono ?_
  rintro e u3 ⟨rfl,hb⟩
  have f3:=f2.trans1 (below_fr hb)
  refine ⟨bs (repeatL [48] (8 - (decDigits n.toNat).length)),rfl,?_⟩
  have hwl:(wl k).length<=6:=by rcases kinds hk.1 hk.2 with rfl | rfl | rfl <;> simp [wl]
  have hrl:(repeatL [48] (8 - (decDigits n.toNat).length)).length<=8:=by rw [repeatL_length]; simp
  refine gd_mk (decide_eq_true (by rw [bs_size,bs_size]; omega)) (gd_mk (decide_eq_true (by rw [bs_app,bs_size,bs_size,List.length_append]; omega)) ⟨?_,f3⟩)
  rw [bs_app,bs_app,fileL_good hg,List.append_assoc,p2]
theorem words_calls (w:World):Calls Tryz.prog 24 #[] w fun e w'=>e=.returned (.slice (some ⟨w.heap.size,0,none⟩) 4 4)/\Fr (fun _=>False) w w'/\∀ k:Int,1<=k->k<=3->cellAt w' w.heap.size (0+k.toNat * 1)=some (.string (bs (wl k))):=by
 refine (F24.of w (Q:=fun v w'=>v=.slice (some ⟨w.heap.size,0,none⟩) 4 4/\Fr (fun _=>False) w w'/\∀ k:Int,1<=k->k<=3->cellAt w' w.heap.size (0+k.toNat * 1)=some (.string (bs (wl k)))) ?_).mono (fun e w' ⟨v,he,hv,h⟩=>⟨by rw [he,hv],h⟩)
 refine nw_mk (cs:=[Value.string (⟨#[]⟩:ByteArray),.string ⟨#[115,101,103,45]⟩,.string ⟨#[104,105,110,116,45]⟩,.string ⟨#[112,111,105,110,116,45]⟩]) ⟨rfl,Fr.alloc _ _ _,fun k h1 h3=>?_⟩
 exact (RecAt.new w _ _).cell (by rw [show 0+k.toNat * 1=k.toNat by omega]; exact fourC k h1 h3)
theorem dg_bv (m:Nat):Value.int .u8 (IntKind.wrap .u8 (IntKind.wrap .i64 (48+Int.tmod (m:Int) 10)))=bv (dg m):=by
 have e:Int.tmod (m:Int) 10=((m % 10:Nat):Int):=tmod_nat m 10
 rw [e,i64_id (by omega) (by omega),u8_id (by omega) (by omega)]
 unfold bv
 rw [dg_nat]
 rfl
set_option maxHeartbeats 1000000 in
theorem rfile_calls (k n:Int) (w:World):Calls Tryz.prog 9 #[.int .i64 k,.int .i64 n] w fun e w'=>e=.returned (.string (bs (fileL k n)))/\Fr (fun _=>False) w w':=by
 refine (F9.of k n w (Q:=fun v w'=>v=.string (bs (fileL k n))/\Fr (fun _=>False) w w') ?_).mono (fun e w' ⟨v,he,hv,h⟩=>⟨by rw [he,hv],h⟩)
 have no:¬ good k n->Value.string (⟨#[]⟩:ByteArray)=.string (bs (fileL k n))/\Fr (fun _=>False) w w:=fun h=>⟨by rw [fileL_nil h]; rfl,Fr.refl _ _⟩
 refine vIf_mk (fun h0=>no ?_) (fun h0=>vIf_mk (fun h3=>no ?_) (fun h3=>vIf_mk (fun h1=>no ?_) (fun h1=>vIf_mk (fun h2=>no ?_) (fun h2=>jnC_mk (fun _=>jnC_mk ?_)))))
 ·have h0:k < 1:=of_decide_eq_true h0
  intro h; have:=h.1; omega
 ·have h3:k > 3:=of_decide_eq_true h3
  intro h; have:=h.2.1; omega
 ·have h1:n < 1:=of_decide_eq_true h1
  intro h; have:=h.2.2.1; omega
 ·have h2:n > 99999999:=of_decide_eq_true h2
  intro h; have:=h.2.2.2; omega
 ·have h0:¬ k < 1:=of_decide_eq_false h0
  have h3:¬ k > 3:=of_decide_eq_false h3
  have h1:¬ n < 1:=of_decide_eq_false h1
  have h2:¬ n > 99999999:=of_decide_eq_false h2
  have hg:good k n:=⟨by omega,by omega,by omega,by omega⟩
  obtain ⟨m,rfl⟩:∃ m:Nat,n=(m:Int):=⟨n.toNat,by omega⟩
  refine loop_rule (fun p v=>Fr (fun _=>False) w v/\∃ i:Nat,i<=8/\p=(k,((m / 10 ^ i:Nat):Int),bs (digs i m),(i:Int),())) (fun p _=>(8 - p.2.2.2.1).toNat) ?_ _ _ ⟨Fr.refl _ _,0,by omega,by simp [digs,bs]⟩
  rintro p v C ⟨hf,i,hi,rfl⟩ hC _
  refine vIf_mk (fun hlt=>?_) (fun hge=>?_)
  ·have hlt2:(i:Int) < 8:=of_decide_eq_true hlt
   refine nw_mk ?_
   dsimp only
   rw [dg_bv,List.append_nil]
   have f1:Fr (fun _=>False) v (v.alloc (.cells ([dg (m / 10 ^ i)].map bv).toArray 5)):=Fr.alloc _ _ _
   have r1:Row (v.alloc (.cells ([dg (m / 10 ^ i)].map bv).toArray 5)) 0 5 1 (some ⟨v.heap.size,0,none⟩) 1 1 ([dg (m / 10 ^ i)].map bv):=Row.new (Nat.zero_le _) rfl
   refine b2s_sl r1.sl (gd_mk (decide_eq_true ?_) (jnC_mk (hC _ _ ⟨hf.trans1 f1,i+1,by omega,?_⟩ ?_)))
   ·rw [bs_size,digs_len]
    show (bs [dg (m / 10 ^ i)]).size+i<=_
    rw [bs_size,List.length_singleton]; omega
   ·show (k,IntKind.wrap .i64 (Int.tdiv ((m / 10 ^ i:Nat):Int) 10),bs [dg (m / 10 ^ i)] ++ bs (digs i m),IntKind.wrap .i64 ((i:Int)+1),())=_
    have e:Int.tdiv ((m / 10 ^ i:Nat):Int) 10=((m / 10 ^ i / 10:Nat):Int):=tdiv_nat _ 10
    have e2:m / 10 ^ i / 10=m / 10 ^ (i+1):=by rw [Nat.div_div_eq_div_mul,Nat.pow_succ]
    have hle:m / 10 ^ (i+1)<=m:=Nat.div_le_self _ _
    rw [e,e2]
    have e3:IntKind.wrap .i64 ((m / 10 ^ (i+1):Nat):Int)=((m / 10 ^ (i+1):Nat):Int):=by
     generalize m / 10 ^ (i+1)=q at hle ⊢
     exact i64_id (by omega) (by omega)
    rw [e3,bs_app,ei i (by omega),digs_cons]
    rfl
   ·show ((8:Int) - IntKind.wrap .i64 ((i:Int)+1)).toNat < ((8:Int) - (i:Int)).toNat
    rw [ei i (by omega)]; omega
  ·have hge2:¬ (i:Int) < 8:=of_decide_eq_false hge
   have h8:i=8:=by omega
   subst h8
   refine (words_calls v).mono ?_
   rintro e u ⟨rfl,f2,hc⟩
   refine ⟨_,4,4,rfl,dr_mk (gd_mk (decide_eq_true (by show (0:Int)<=k; omega)) (gd_mk (decide_eq_true (by show k < 4; omega)) ⟨_,hc k (by omega) (by omega),gd_mk (decide_eq_true ?_) ⟨?_,hf.trans1 f2⟩⟩))⟩
   ·have hwl:(wl k).length<=6:=by rcases kinds hg.1 hg.2.1 with rfl | rfl | rfl <;> simp [wl]
    show (bs (wl k)).size+(bs (digs 8 m)).size<=_
    rw [bs_size,bs_size,digs_len]; omega
   ·show Value.string (bs (wl k) ++ bs (digs 8 m))=_
    rw [bs_app,fileL_good hg]
    rfl
end Go.Proofs.YtodmachaofepkaaGreatDoor.Nm8
namespace Go.Proofs.YtodmachaofepkaaGreatDoor
open Go.GV Go.RowKit Go.Lib
set_option maxHeartbeats 1000000 in
theorem Read2_calls (db r:Nat) (d:Dk) (s:ByteArray) (off n:Int) (w:World) (h:DkAt w db r d) (hb:FoB d.F) (hi:∀ id,InoB (d.f id)) (hp:∀ id,(d.f id).p.length<=1099511627775) :
  Calls Tryz.prog 47 #[.pointer (some ⟨db,0,none⟩),.string s,.int .i64 off,.int .i64 n] w fun e w'=>Fr (fun _=>False) w w'/\∃ B k,e=.returned (.tuple #[.slice B (readD d s off n).1.length k,.int .i64 (readD d s off n).2])/\Sl w' 1 B (readD d s off n).1.length (bys (readD d s off n).1)/\(readD d s off n).1.length<=k:=by
 refine (F47.of (some ⟨db,0,none⟩) s off n w (Q:=fun v w'=>Fr (fun _=>False) w w'/\∃ B k,v=.tuple #[.slice B (readD d s off n).1.length k,.int .i64 (readD d s off n).2]/\Sl w' 1 B (readD d s off n).1.length (bys (readD d s off n).1)/\(readD d s off n).1.length<=k) ?_).mono (fun e w' ⟨v,he,hf,B,k,hv,h⟩=>⟨hf,B,k,by rw [he,hv],h⟩)
 have hll:=look_len hi s
 refine (look_calls db r d s w h hb hi hp).mono ?_
 rintro e w1 ⟨f1,B,k,rfl,hB,hk⟩
 refine ⟨B,_,k,_,rfl,?_⟩
 unfold readD
 generalize hL:lookD d s=L at hll hB hk ⊢
 obtain ⟨b,er⟩:=L
 have bad:∀ x:Int,Fr (fun _=>False) w w1/\∃ B' k',Value.tuple #[Value.slice none 0 0,Value.int .i64 x]=.tuple #[.slice B' ((([],x):Bs×Int)).1.length k',.int .i64 (([],x):Bs×Int).2]/\Sl w1 1 B' ((([],x):Bs×Int)).1.length (bys (([],x):Bs×Int).1)/\((([],x):Bs×Int)).1.length<=k':=fun x=>⟨f1,none,0,rfl,Sl.nil _ _ _,Nat.le_refl _⟩
 dsimp only at hll hB hk ⊢
 refine vIf_mk (fun he=>?_) (fun he=>?_)
 ·have he:¬ er=0:=by simpa using he
  rw [if_pos he]
  exact bad er
 ·have he:er=0:=by simpa using he
  rw [if_neg (by rw [he]; simp)]
  have ew:0<=off->off<=(b.length:Int)->IntKind.wrap .i64 (((b.length:Nat):Int) - off)=(b.length:Int) - off:=fun h1 h2=>i64_id (by omega) (by omega)
  refine vIf_mk (fun h1=>?_) (fun h1=>vIf_mk (fun h2=>?_) (fun h2=>vIf_mk (fun h3=>?_) (fun h3=>vIf_mk (fun h4=>?_) (fun h4=>jnC_mk (fun _=>?_)))))
  ·rw [if_pos (.inl (of_decide_eq_true h1))]; exact bad 20
  ·rw [if_pos (.inr (.inl (of_decide_eq_true h2)))]; exact bad 20
  ·rw [if_pos (.inr (.inr (.inl (of_decide_eq_true h3))))]; exact bad 20
  ·have h1:=of_decide_eq_false h1
   have h3:=of_decide_eq_false h3
   have h4:=of_decide_eq_true h4
   rw [ew (by omega) (by omega)] at h4
   rw [if_pos (.inr (.inr (.inr h4)))]; exact bad 20
  ·have h1:=of_decide_eq_false h1
   have h2:=of_decide_eq_false h2
   have h3:=of_decide_eq_false h3
   have h4:=of_decide_eq_false h4
   rw [ew (by omega) (by omega)] at h4
   rw [if_neg (fun h=>h.elim h1 (fun h=>h.elim h2 (fun h=>h.elim h3 h4)))]
   obtain ⟨o,rfl⟩:∃ o:Nat,off=(o:Int):=⟨off.toNat,by omega⟩
   obtain ⟨m,rfl⟩:∃ m:Nat,n=(m:Int):=⟨n.toNat,by omega⟩
   have e1:IntKind.wrap .i64 ((o:Int)+(m:Int))=((o+m:Nat):Int):=by rw [i64_id (by omega) (by omega)]; omega
   unfold F47.k6c
   dsimp only
   rw [e1]
   refine gd_mk (decide_eq_true (by omega)) (gd_mk (decide_eq_true (by omega)) (gd_mk (decide_eq_true (by omega)) (gd_mk (decide_eq_true (by omega)) (gd_mk (decide_eq_true (by omega)) (gd_mk (decide_eq_true (by omega)) ⟨f1,slA B (o+m) o 1,m,?_,?_,by simp only [Int.toNat_natCast]; rw [List.length_take]; omega⟩)))))
   ·simp only [Int.toNat_natCast]
    have:((b.drop o).take m).length=m:=by rw [List.length_take,List.length_drop]; omega
    rw [this,Nat.add_sub_cancel_left]
   ·simp only [Int.toNat_natCast]
    have hl:((b.drop o).take m).length=m:=by rw [List.length_take,List.length_drop]; omega
    rw [hl]
    have e2:bys ((b.drop o).take m)=((bys b).drop o).take m:=by simp [bys,List.map_take,List.map_drop]
    rw [e2]
    refine ⟨by rw [<- e2,List.length_map,hl,Nat.mul_one],fun h0=>?_⟩
    obtain ⟨bb,oo,rfl,hc⟩:=hB.2 (by omega)
    refine ⟨bb,oo+o,?_,fun j v hj=>?_⟩
    ·unfold slA
     rw [if_neg (by omega),Option.map_some,add_none,Nat.mul_one]
    ·rw [List.getElem?_take] at hj
     split at hj
     ·rw [List.getElem?_drop] at hj
      rw [Nat.add_assoc]
      exact hc _ v hj
     ·cases hj
theorem lookD_err {d:Dk} {s:ByteArray} (h:(lookD d s).2 ≠ 0):(lookD d s).1=[]:=by
 unfold lookD at h ⊢
 split
 ·rfl
 ·rename_i h1
  rw [if_neg h1] at h
  cases hf:findN s (nowF d.F) with
  | none=>rfl
  | some id=>rw [hf] at h; exact absurd rfl h
theorem readD_all {d:Dk} {s:ByteArray} (h:(lookD d s).2=0):readD d s 0 ((lookD d s).1.length:Int)=lookD d s:=by
 unfold readD
 rw [if_neg (fun g=>g h),if_neg (by omega)]
 simp only [Int.toNat_natCast]
 show (((lookD d s).1.drop 0).take (lookD d s).1.length,0)=_
 rw [List.drop_zero,List.take_length,<- h]
structure DkS (d:Dk):Prop where
 fo:FoB d.F
 i:∀ id,InoB (d.f id)
 p:∀ id,(d.f id).p.length<=349525
 I:DkI d
theorem bwhole_calls (db r:Nat) (d:Dk) (s:ByteArray) (w:World) (h:DkAt w db r d) (hS:DkS d) :
  Calls Tryz.prog 26 #[.pointer (some ⟨db,0,none⟩),.string s] w fun e w'=>Fr (fun _=>False) w w'/\∃ B k,e=.returned (.tuple #[.slice B (lookD d s).1.length k,.int .i64 (lookD d s).2])/\Sl w' 1 B (lookD d s).1.length ((lookD d s).1.map bv)/\(lookD d s).1.length<=k:=by
 refine (F26.of (some ⟨db,0,none⟩) s w (Q:=fun v w'=>Fr (fun _=>False) w w'/\∃ B k,v=.tuple #[.slice B (lookD d s).1.length k,.int .i64 (lookD d s).2]/\Sl w' 1 B (lookD d s).1.length ((lookD d s).1.map bv)/\(lookD d s).1.length<=k) ?_).mono (fun e w' ⟨v,he,hf,B,k,hv,h⟩=>⟨hf,B,k,by rw [he,hv],h⟩)
 have hp:∀ id,(d.f id).p.length<=1099511627775:=fun id=>by have:=hS.p id; omega
 refine (Size_calls db r d s w h hS.fo hS.i hp).mono ?_
 rintro e w1 ⟨rfl,f1⟩
 refine ⟨_,_,rfl,vIf_mk (fun g=>?_) (fun g=>(Read2_calls db r d s 0 _ w1 (h.fr0 f1) hS.fo hS.i hp).mono ?_)⟩
 ·have g:(lookD d s).2 ≠ 0:=by simpa using g
  have e:=lookD_err g
  rw [e]
  exact ⟨f1,none,0,rfl,Sl.nil _ _ _,Nat.le_refl _⟩
 ·have g:(lookD d s).2=0:=by simpa using g
  rw [readD_all g]
  rintro e w2 ⟨f2,B,k,rfl,hB,hk⟩
  exact ⟨B,_,k,_,rfl,f1.trans1 f2,B,k,rfl,hB,hk⟩
theorem read1_calls (b1 b3:Nat) (e1 e3:TypeId) (k seg:Int) (db r:Nat) (d:Dk) (w:World) (r1:RecAt w b1 e1 [.pointer (some ⟨db,0,none⟩)]) (r3:RecAt w b3 e3 [.int .i64 seg]) (h:DkAt w db r d) (hS:DkS d) (hv:Nm8.VK w) :
  Calls Tryz.prog 25 #[.int .i64 k,.pointer (some ⟨b1,0,none⟩),.pointer (some ⟨b3,0,none⟩)] w fun e w'=>Fr (fun _=>False) w w'/\∃ B k',e=.returned (.tuple #[.slice B (lookD d (Nm8.bs (Nm8.fileL k seg))).1.length k',.int .i64 (lookD d (Nm8.bs (Nm8.fileL k seg))).2])/\Sl w' 1 B (lookD d (Nm8.bs (Nm8.fileL k seg))).1.length ((lookD d (Nm8.bs (Nm8.fileL k seg))).1.map bv)/\(lookD d (Nm8.bs (Nm8.fileL k seg))).1.length<=k':=by
 refine (F25.of k (b1,0) (b3,0) w (Q:=fun v w'=>Fr (fun _=>False) w w'/\∃ B k',v=.tuple #[.slice B (lookD d (Nm8.bs (Nm8.fileL k seg))).1.length k',.int .i64 (lookD d (Nm8.bs (Nm8.fileL k seg))).2]/\Sl w' 1 B (lookD d (Nm8.bs (Nm8.fileL k seg))).1.length ((lookD d (Nm8.bs (Nm8.fileL k seg))).1.map bv)/\(lookD d (Nm8.bs (Nm8.fileL k seg))).1.length<=k') ?_).mono (fun e w' ⟨v,he,hf,B,k,hv,h⟩=>⟨hf,B,k,by rw [he,hv],h⟩)
 have fd:Fr (fun _=>False) w w.drew:=Fr.drew _ _
 have r1d:=r1.fr fd (fun h=>h)
 refine ⟨_,r1d.cell (o:=0) rfl,seg,(r3.fr fd (fun h=>h)).cell (o:=0) rfl,(Nm8.file_calls k seg w.drew (hv.fr fd)).mono ?_⟩
 rintro e w3 ⟨rfl,f3⟩
 refine ⟨_,rfl,kp_mk f3 r1d.lt (fun h=>h) ((bwhole_calls db r d _ w3 (h.fr0 (fd.trans1 f3)) hS).mono ?_)⟩
 rintro e w6 ⟨f6,B,k',rfl,hB,hk⟩
 exact ⟨B,_,k',_,rfl,(fd.trans1 f3).trans1 f6,B,k',rfl,hB,hk⟩
abbrev segF (seg:Int):ByteArray:=Nm8.bs (Nm8.fileL 1 seg)
abbrev hinF (seg:Int):ByteArray:=Nm8.bs (Nm8.fileL 2 seg)
noncomputable def rpP (d:Dk) (seg:Int):Sn×Bool×Int :=
 if (lookD d (segF seg)).2 ≠ 0 then (⟨[],0,0,false,0,0⟩,false,(lookD d (segF seg)).2)
 else if (lookD d (hinF seg)).2=0/\(hrP (lookD d (hinF seg)).1 seg ((lookD d (segF seg)).1.length:Int)).2.2=0 then
  (⟨(hrP (lookD d (hinF seg)).1 seg ((lookD d (segF seg)).1.length:Int)).1,(hrP (lookD d (hinF seg)).1 seg ((lookD d (segF seg)).1.length:Int)).2.1,((lookD d (segF seg)).1.length:Int),true,((lookD d (segF seg)).1.length:Int),0⟩,true,0)
 else (scP (lookD d (segF seg)).1 seg,false,0)
abbrev RpS (w w':World) (v:Value) (p:Sn×Bool×Int):Prop:=∃ (A:Option Addr) (c:Nat),v=.tuple #[ofL (snC p.1 A c),.bool p.2.1,.int .i64 p.2.2]/\RW w w' A p.1.ws.length c p.1.ws
set_option maxHeartbeats 1000000 in
theorem rpscan_calls (db r:Nat) (d:Dk) (seg:Int) (w:World) (h:DkAt w db r d) (hS:DkS d) (hv:Nm8.VK w) :
  Calls Tryz.prog 10 #[.pointer (some ⟨db,0,none⟩),.int .i64 seg] w fun e w'=>∃ v,e=.returned v/\RpS w w' v (rpP d seg):=by
 refine F10.of (some ⟨db,0,none⟩) seg w (Q:=fun v w'=>RpS w w' v (rpP d seg)) ?_
 refine rec_new (fun b1 w2 f1 hb1 r1=>rec_new (fun b3 w4 f3 hb3 r3=>rec_new (fun b5 w6 f5 hb5 r5=>?_)))
 have s1:=f1.size
 have s3:=f3.size
 have r1:=(r1.fr f3 (fun h=>h)).fr f5 (fun h=>h)
 have r3:=r3.fr f5 (fun h=>h)
 have f6:=(f1.trans1 f3).trans1 f5
 have hb5':w.heap.size<=b5:=by omega
 have Z6:Z27.length=6:=rfl
 have hlen1:=look_len hS.i (segF seg)
 have hlen2:=look_len hS.i (hinF seg)
 have lay:∀ (u:World) (x:Sn) (A:Option Addr) (c:Nat) (t:Bool) (e:Int),RecAt u b5 27 Z27->RW w u A x.ws.length c x.ws->blkOf A ≠ some b5->rpP d seg=(x,t,e) ->
   gd ((snC x A c).length == 6) (st u b5 0 (snC x A c) fun w1=>ldA 6 w1 b5 0 fun a=>RpS w w1 (.tuple #[ofL a,.bool t,.int .i64 e]) (rpP d seg)):=by
  intro u x A c t e q hr hn hx
  rw [hx]
  exact ansN_mk (N:=6) (cs:=snC x A c) (K:=fun a w1=>RpS w w1 (.tuple #[ofL a,.bool t,.int .i64 e]) (x,t,e)) q Z6 rfl (snC_one _ _ _) (fun w' g=>⟨A,c,rfl,hr.var g hb5' hn⟩)
 refine (read1_calls b1 b3 _ _ 1 seg db r d w6 r1 r3 (h.fr0 f6) hS (hv.fr f6)).mono ?_
 rintro e w7 ⟨f7,B,k,rfl,hB,hk⟩
 have r5:=r5.fr f7 (fun h=>h)
 refine ⟨B,_,k,_,rfl,vIf_mk (fun h0=>?_) (fun h0=>(read1_calls b1 b3 _ _ 2 seg db r d w7 (r1.fr f7 (fun h=>h)) (r3.fr f7 (fun h=>h)) (h.fr0 (f6.trans1 f7)) hS (hv.fr (f6.trans1 f7))).mono ?_)⟩
 ·have h0:(lookD d (segF seg)).2 ≠ 0:=by simpa using h0
  refine lay w7 ⟨[],0,0,false,0,0⟩ none 0 false _ r5 (RW.nile (f6.trans1 f7)) (fun h=>by cases h) ?_
  unfold rpP
  rw [if_pos h0]
 have h0:(lookD d (segF seg)).2=0:=by simpa using h0
 rintro e w15 ⟨f15,B2,k2,rfl,hB2,hk2⟩
 have r5:=r5.fr f15 (fun h=>h)
 have f615:=(f6.trans1 f7).trans1 f15
 have r3:=(r3.fr f7 (fun h=>h)).fr f15 (fun h=>h)
 have l5:=r5.lt
 have k10:∀ u:World,Fr (fun _=>False) w15 u->¬ ((lookD d (hinF seg)).2=0/\(hrP (lookD d (hinF seg)).1 seg ((lookD d (segF seg)).1.length:Int)).2.2=0)->jnC (F10.k10 fun v w'=>RpS w w' v (rpP d seg)) ((b3,0),(b5,0),(B,(lookD d (segF seg)).1.length,k),()) u:=by
  intro u g hno
  refine jnC_mk (fun _=>⟨seg,(r3.fr g (fun h=>h)).cell (o:=0) rfl,(scan_calls B (lookD d (segF seg)).1.length k (lookD d (segF seg)).1 seg u ((f15.trans1 g).sl hB (fun _ _ _ h=>h)) hk (by omega)).mono ?_⟩)
  rintro e u2 ⟨_,rfl,A,c,rfl,hr⟩
  have su:=hr.f.size
  have sg:=g.size
  have hrp:rpP d seg=(scP (lookD d (segF seg)).1 seg,false,0):=by
   unfold rpP
   rw [if_neg (fun g=>g h0),if_neg hno]
  refine ⟨_,rfl,lay u2 _ A c false 0 ((r5.fr g (fun h=>h)).fr hr.f (fun h=>h)) (hr.le (f615.trans1 g)) (fun e=>?_) hrp⟩
  have:=(hr.row.blt e).1
  omega
 refine ⟨B2,_,k2,_,rfl,vIf_mk (fun h2=>⟨seg,r3.cell (o:=0) rfl,(hread_calls B2 (lookD d (hinF seg)).1.length k2 (lookD d (hinF seg)).1 seg _ w15 hB2 hk2 (by omega)).mono ?_⟩) (fun h2=>k10 w15 (Fr.refl _ _) (fun g=>?_))⟩
 ·have h2:(lookD d (hinF seg)).2=0:=by simpa using h2
  rintro e w22 ⟨_,rfl,A,c,rfl,hr⟩
  refine ⟨_,_,_,_,_,rfl,vIf_mk (fun h3=>?_) (fun h3=>k10 w22 hr.f (fun g=>?_))⟩
  ·have h3:(hrP (lookD d (hinF seg)).1 seg ((lookD d (segF seg)).1.length:Int)).2.2=0:=by simpa using h3
   have hrp:rpP d seg=(⟨(hrP (lookD d (hinF seg)).1 seg ((lookD d (segF seg)).1.length:Int)).1,(hrP (lookD d (hinF seg)).1 seg ((lookD d (segF seg)).1.length:Int)).2.1,((lookD d (segF seg)).1.length:Int),true,((lookD d (segF seg)).1.length:Int),0⟩,true,0):=by
    unfold rpP
    rw [if_neg (fun g=>g h0),if_pos ⟨h2,h3⟩]
   refine lay w22 _ A c true 0 (r5.fr hr.f (fun h=>h)) (hr.le f615) (fun e=>?_) hrp
   have:=(hr.row.blt e).1
   omega
  ·have h3:(hrP (lookD d (hinF seg)).1 seg ((lookD d (segF seg)).1.length:Int)).2.2 ≠ 0:=by simpa using h3
   exact h3 g.2
 ·have h2:(lookD d (hinF seg)).2 ≠ 0:=by simpa using h2
  exact h2 g.1
theorem same16_calls (x:Sn) (A1 A2:Option Addr) (c1 c2:Nat) (w:World) (h1:SW w A1 x.ws.length x.ws) (h2:SW w A2 x.ws.length x.ws) (hn:x.ws.length<=1099511627776) :
  Calls Tryz.prog 11 #[ofL (snC x A1 c1),ofL (snC x A2 c2)] w fun e w'=>e=.returned (.bool true)/\Fr (fun _=>False) w w':=by
 refine (F11.of _ _ w (Q:=fun v w'=>v=.bool true/\Fr (fun _=>False) w w') ?_).mono (fun e w' ⟨v,he,hv,h⟩=>⟨by rw [he,hv],h⟩)
 refine rec_new (fun b1 w2 f1 hb1 r1=>rec_new (fun b3 w4 f3 hb3 r3=>?_))
 have r1:=r1.fr f3 (fun h=>h)
 have f:=f1.trans1 f3
 refine ⟨A1,x.ws.length,c1,r1.cell (o:=0) rfl,A2,x.ws.length,c2,r3.cell (o:=0) rfl,(words_same A1 A2 x.ws.length c1 c2 x.ws w4 (h1.fr f) (h2.fr f) hn).mono ?_⟩
 rintro e w11 ⟨rfl,f11⟩
 have r1:=r1.fr f11 (fun h=>h)
 have r3:=r3.fr f11 (fun h=>h)
 refine ⟨_,rfl,vIf_t rfl ⟨_,r1.cell (o:=1) (v:=.int .u64 (x.sq:Nat)) rfl,_,r3.cell (o:=1) (v:=.int .u64 (x.sq:Nat)) rfl,vIf_t (by simp) ⟨_,r1.cell (o:=2) (v:=.int .i64 x.e) rfl,_,r3.cell (o:=2) (v:=.int .i64 x.e) rfl,vIf_t (by simp) ⟨_,r1.cell (o:=3) (v:=.bool x.s) rfl,_,r3.cell (o:=3) (v:=.bool x.s) rfl,vIf_t (by simp) ⟨_,r1.cell (o:=4) (v:=.int .i64 x.a) rfl,_,r3.cell (o:=4) (v:=.int .i64 x.a) rfl,vIf_t (by simp) ⟨_,r1.cell (o:=5) (v:=.int .i64 x.r) rfl,_,r3.cell (o:=5) (v:=.int .i64 x.r) rfl,?_,f.trans1 f11⟩⟩⟩⟩⟩⟩
 rw [show (x.r == x.r)=true from beq_self_eq_true _]
end Go.Proofs.YtodmachaofepkaaGreatDoor
namespace Go.Proofs.YtodmachaofepkaaGreatDoor
open Go.GV
theorem u8n_of {n:Nat} (h:n < 256):(UInt8.ofNat n).toNat=n:=by
 rw [UInt8.toNat_ofNat']; omega
theorem vaE_one {i n:Nat} (rest:List UInt8) (h:n < 128) (h9:i=9->n<=1) (h0:0 < i->0 < n):vaGo i (UInt8.ofNat n :: rest)=(n,1,0):=by
 have e:(UInt8.ofNat n).toNat=n:=u8n_of (by omega)
 rw [vaGo,e,if_neg (fun g=>by have:=h9 g.1; omega),if_neg (by omega),if_neg (fun g=>by have:=h0 g.2; omega)]
theorem vaGo_E:∀ (f i n:Nat) (rest:List UInt8),i+f=9->n < 2 ^ (64 - 7 * i)->(0 < i->0 < n)->vaGo i (vaF f n ++ rest)=(n,(vaF f n).length,0)
 | 0,i,n,rest,hi,hn,h0=>by
  obtain rfl:i=9:=by omega
  have hn:n < 2:=hn
  have e:n % 256=n:=by omega
  unfold vaF
  rw [e]
  exact vaE_one rest (by omega) (fun _=>by omega) h0
 | f+1,i,n,rest,hi,hn,h0=>by
  unfold vaF
  by_cases h:n < 128
  ·rw [if_pos h]
   exact vaE_one rest (by omega) (fun g=>by omega) h0
  ·rw [if_neg h]
   have e:(UInt8.ofNat (n % 128+128)).toNat=n % 128+128:=u8n_of (by omega)
   have hp:2 ^ (64 - 7 * i)=128 * 2 ^ (64 - 7 * (i+1)):=by
    rw [show 64 - 7 * i=(64 - 7 * (i+1))+7 by omega,Nat.pow_add]; omega
   have ih:=vaGo_E f (i+1) (n / 128) rest (by omega) (by rw [hp] at hn; omega) (fun _=>by omega)
   show vaGo i (UInt8.ofNat (n % 128+128) :: (vaF f (n / 128) ++ rest))=_
   rw [vaGo,e,if_neg (fun g=>by omega),if_pos (by omega),ih,if_pos rfl]
   show ((n % 128+128) % 128+128 * (n / 128),(vaF f (n / 128)).length+1,(0:Int))=_
   rw [show (n % 128+128) % 128+128 * (n / 128)=n by omega]
   rfl
theorem vaT_B {n:Nat} (rest:List UInt8) (h:n < 18446744073709551616):vaT (vaB n ++ rest) 0=(n,((vaB n).length:Int),0):=by
 have e:vaT (vaB n ++ rest) 0=if (vaGo 0 (vaB n ++ rest)).2.2=0 then ((vaGo 0 (vaB n ++ rest)).1,0+((vaGo 0 (vaB n ++ rest)).2.1:Int),0) else (0,0,(vaGo 0 (vaB n ++ rest)).2.2):=by
  have:=vaT_in (b:=vaB n ++ rest) (a:=0) (Nat.zero_le _)
  rw [List.drop_zero] at this
  exact this
 have g:=vaGo_E 9 0 n rest rfl h (fun h=>absurd h (Nat.lt_irrefl _))
 rw [e]
 unfold vaB at g ⊢
 rw [g,if_pos rfl]
 show (n,0+((vaF 9 n).length:Int),(0:Int))=_
 rw [Int.zero_add]
theorem nmP_B {n:Nat} (rest:List UInt8) {most:Int} (h:(n:Int)<=most) (hm:most<=1099511627776):nmP (vaB n ++ rest,0) most=((n:Int),(rest,0)):=by
 have g:=vaT_B (n:=n) rest (by omega)
 unfold nmP
 rw [if_neg (fun q=>q rfl)]
 show (if (vaT (vaB n ++ rest) 0).2.2 ≠ 0 then _ else _)=_
 rw [g,if_neg (fun q=>q rfl),if_neg (by omega)]
 show ((n:Int),((vaB n ++ rest).drop ((vaB n).length:Int).toNat,(0:Int)))=_
 rw [Int.toNat_natCast,List.drop_left]
theorem sqP_B {n:Nat} (rest:List UInt8) (h:n < 18446744073709551616):sqP (vaB n ++ rest,0)=(n,(rest,0)):=by
 have g:=vaT_B (n:=n) rest h
 unfold sqP
 rw [if_neg (fun q=>q rfl)]
 show (if (vaT (vaB n ++ rest) 0).2.2 ≠ 0 then _ else _)=_
 rw [g,if_neg (fun q=>q rfl)]
 show (n,((vaB n ++ rest).drop ((vaB n).length:Int).toNat,(0:Int)))=_
 rw [Int.toNat_natCast,List.drop_left]
def txB (s:List UInt8):List UInt8:=UInt8.ofNat s.length :: s
theorem txtP_B {s:List UInt8} (rest:List UInt8) (h:s.length<=255):txtP (txB s ++ rest,0)=(s,(rest,0)):=by
 have e:(UInt8.ofNat s.length).toNat=s.length:=u8n_of (by omega)
 have ht:txP (txB s ++ rest) 0=some (s,((s.length+1:Nat):Int)):=by
  have hl:(txB s ++ rest).length=s.length+1+rest.length:=by show (s ++ rest).length+1=_; rw [List.length_append]; omega
  have h1:tkN (txB s ++ rest) 0 1=s.length:=by
   have:=tkOne (b:=txB s ++ rest) (a:=0) (by omega)
   exact this.trans e
  unfold txP
  rw [h1,if_pos ⟨⟨by omega,by omega,by omega,by omega⟩,by omega⟩]
  show some (((txB s ++ rest).drop 1).take s.length,(0:Int)+1+(s.length:Int))=_
  have h2:((txB s ++ rest).drop 1).take s.length=s:=by
   show (s ++ rest).take s.length=s
   rw [List.take_left]
  rw [h2]
  congr 2
  omega
 unfold txtP
 rw [if_neg (fun q=>q rfl)]
 show (match txP (txB s ++ rest) 0 with | none=>_ | some (s,e)=>_)=_
 rw [ht]
 show (s,((txB s ++ rest).drop ((s.length+1:Nat):Int).toNat,(0:Int)))=_
 rw [Int.toNat_natCast]
 show (s,((s ++ rest).drop s.length,(0:Int)))=_
 rw [List.drop_left]
theorem dgP_B {d:List UInt8} (rest:List UInt8) (h:d.length=32):dgP (d ++ rest,0)=(d,(rest,0)):=by
 unfold dgP
 rw [if_neg (fun q=>q rfl),if_neg (by show ¬ (d ++ rest).length < 32; rw [List.length_append]; omega)]
 show ((d ++ rest).take 32,((d ++ rest).drop 32,(0:Int)))=_
 rw [<- h,List.take_left,List.drop_left]
def wdB (x:Wo):List UInt8:=vaB x.k.toNat ++ (vaB x.sq ++ ((if ofD x.k then x.d else []) ++ ((if ofN x.k then txB x.nm else []) ++ ((if ofZ x.k then vaB x.z.toNat else []) ++ (vaB x.o.toNat ++ vaB x.q.toNat)))))
theorem wdH_B {x:Wo} {n:Int} (rest:List UInt8) (h:RgW x n) (hs:x.sq < 18446744073709551616) (hd:x.d.length=32):wdH (wdB x ++ rest,0) n=(x,(rest,0)):=by
 have hk:=h.k
 have ho:=h.o
 have hq:=h.q
 have hz:=h.z
 have ek:x.k=((x.k.toNat:Nat):Int):=by omega
 have eo:x.o=((x.o.toNat:Nat):Int):=by omega
 have eq_:x.q=((x.q.toNat:Nat):Int):=by omega
 have ez:x.z=((x.z.toNat:Nat):Int):=by omega
 generalize h6:vaB x.q.toNat ++ rest=r6
 generalize h5:vaB x.o.toNat ++ r6=r5
 generalize h4:(if ofZ x.k then vaB x.z.toNat else []) ++ r5=r4
 generalize h3:(if ofN x.k then txB x.nm else []) ++ r4=r3
 generalize h2:(if ofD x.k then x.d else []) ++ r3=r2
 have hw:wdB x ++ rest=vaB x.k.toNat ++ (vaB x.sq ++ r2):=by
  rw [<- h2,<- h3,<- h4,<- h5,<- h6]
  unfold wdB
  simp only [List.append_assoc]
 have a1:nmP (wdB x ++ rest,0) 8=(x.k,(vaB x.sq ++ r2,0)):=by
  rw [hw,nmP_B _ (by omega) (by omega),<- ek]
 have a2:sqP (vaB x.sq ++ r2,0)=(x.sq,(r2,0)):=sqP_B _ hs
 have a3:hwD x.k (r2,0)=(x.d,(r3,0)):=by
  unfold hwD
  by_cases g:ofD x.k
  ·rw [if_pos g] at h2 ⊢
   rw [<- h2]; exact dgP_B _ hd
  ·rw [if_neg g] at h2 ⊢
   rw [<- h2,h.d0 g]; rfl
 have a4:hwN x.k (r3,0)=(x.nm,(r4,0)):=by
  unfold hwN
  by_cases g:ofN x.k
  ·rw [if_pos g] at h3 ⊢
   have ht:=(h.nm g).2.2
   have hl:(⟨x.nm.toArray⟩:ByteArray).size=x.nm.length:=List.size_toArray
   rw [<- h3]; exact txtP_B _ (by omega)
  ·rw [if_neg g] at h3 ⊢
   rw [<- h3,h.n0 g]; rfl
 have a5:hwZ x.k (r4,0)=(x.z,(r5,0)):=by
  unfold hwZ
  by_cases g:ofZ x.k
  ·rw [if_pos g] at h4 ⊢
   rw [<- h4,nmP_B _ (by omega) (by omega),<- ez]
  ·rw [if_neg g] at h4 ⊢
   rw [<- h4,h.z0 g]; rfl
 have a6:nmP (r5,0) 1048576=(x.o,(r6,0)):=by rw [<- h5,nmP_B _ (by omega) (by omega),<- eo]
 have a7:nmP (r6,0) 1048576=(x.q,(rest,0)):=by rw [<- h6,nmP_B _ (by omega) (by omega),<- eq_]
 have b2:hw2 (wdB x ++ rest,0)=(r2,0):=by unfold hw2; rw [a1]; show (sqP (vaB x.sq ++ r2,0)).2=_; rw [a2]
 have b3:hw3 (wdB x ++ rest,0)=(r3,0):=by unfold hw3; rw [a1,b2]; show (hwD x.k (r2,0)).2=_; rw [a3]
 have b4:hw4 (wdB x ++ rest,0)=(r4,0):=by unfold hw4; rw [a1,b3]; show (hwN x.k (r3,0)).2=_; rw [a4]
 have b5:hw5 (wdB x ++ rest,0)=(r5,0):=by unfold hw5; rw [a1,b4]; show (hwZ x.k (r4,0)).2=_; rw [a5]
 have b6:hw6 (wdB x ++ rest,0)=(r6,0):=by unfold hw6; rw [b5,a6]
 unfold wdH
 rw [a1,b2,b3,b4,b5,b6,a6,a7]
 show ((⟨x.k,(sqP (vaB x.sq ++ r2,0)).1,(hwD x.k (r2,0)).1,(hwN x.k (r3,0)).1,(hwZ x.k (r4,0)).1,n,x.o,x.q⟩:Wo),_)=_
 rw [a2,a3,a4,a5,<- h.s]
def wdsB (l:List Wo):List UInt8:=(l.map wdB).flatten
theorem hwL_B (n:Int):∀ (l:List Wo) (rest:List UInt8) (out:List Wo),(∀ x ∈ l,RgW x n/\x.sq < 18446744073709551616/\x.d.length=32)->hwL n l.length (wdsB l ++ rest,0) out=(out ++ l,(rest,0))
 | [],rest,out,_=>by rw [List.append_nil]; rfl
 | x :: l,rest,out,h=>by
  obtain ⟨h1,h2,h3⟩:=h x List.mem_cons_self
  have e:wdsB (x :: l) ++ rest=wdB x ++ (wdsB l ++ rest):=by
   show (wdB x ++ wdsB l) ++ rest=_
   rw [List.append_assoc]
  rw [e]
  show hwL n (l.length+1) _ out=_
  unfold hwL
  rw [if_neg (fun q=>q rfl),wdH_B _ h1 h2 h3]
  show hwL n l.length (wdsB l ++ rest,0) (out ++ [x])=_
  rw [hwL_B n l rest (out ++ [x]) (fun y hy=>h y (List.mem_cons_of_mem _ hy)),List.append_assoc]; rfl
def hbB (l:List Wo) (n size:Nat) (seq:Nat):List UInt8:=mgH ++ (vaB n ++ (vaB size ++ (vaB seq ++ (vaB l.length ++ wdsB l))))
def hiB (l:List Wo) (n size:Nat) (seq:Nat):List UInt8:=hbB l n size seq ++ leB (crcS (hbB l n size seq)).toNat 4
theorem rdP_B (m r:List UInt8):rdP m ((m ++ r) ++ leB (crcS (m ++ r)).toNat 4)=(r,0):=by
 have hl:((m ++ r) ++ leB (crcS (m ++ r)).toNat 4).length=(m ++ r).length+4:=by rw [List.length_append,leB_len]
 have e1:((m ++ r) ++ leB (crcS (m ++ r)).toNat 4).length - 4=(m ++ r).length:=by omega
 unfold rdP
 rw [if_neg (by rw [hl,List.length_append]; omega),e1,List.drop_left,List.take_left,if_neg,if_neg]
 ·show ((m ++ r).drop m.length,(0:Int))=_
  rw [List.drop_left]
 ·intro q
  apply q
  rw [List.append_assoc,List.take_left]
 ·intro q
  apply q
  rw [leT_leB,Nat.mod_eq_of_lt (crc_lt _)]
theorem hrP_B {l:List Wo} {n size seq:Nat} (hn:n<=99999999) (hz:size<=1048576) (hs:seq < 18446744073709551616) (hl:l.length<=1048576) (h:∀ x ∈ l,RgW x n/\x.sq < 18446744073709551616/\x.d.length=32):hrP (hiB l n size seq) n size=(l,seq,0):=by
 have a0:rdP mgH (hiB l n size seq)=(vaB n ++ (vaB size ++ (vaB seq ++ (vaB l.length ++ wdsB l))),0):=rdP_B _ _
 have a1:h1P (hiB l n size seq)=((n:Int),(vaB size ++ (vaB seq ++ (vaB l.length ++ wdsB l)),0)):=by unfold h1P; rw [a0]; exact nmP_B _ (by omega) (by omega)
 have a2:h2P (hiB l n size seq)=((size:Int),(vaB seq ++ (vaB l.length ++ wdsB l),0)):=by unfold h2P; rw [a1]; exact nmP_B _ (by omega) (by omega)
 have a3:h3P (hiB l n size seq)=(seq,(vaB l.length ++ wdsB l,0)):=by unfold h3P; rw [a2]; exact sqP_B _ hs
 have a4:h4P (hiB l n size seq)=((l.length:Int),(wdsB l,0)):=by unfold h4P; rw [a3]; exact nmP_B _ (by omega) (by omega)
 have a5:hwL n (h4P (hiB l n size seq)).1.toNat (h4P (hiB l n size seq)).2 []=(l,([],0)):=by
  rw [a4]
  show hwL n ((l.length:Nat):Int).toNat (wdsB l,0) []=_
  rw [Int.toNat_natCast]
  have:=hwL_B n l [] [] h
  rw [List.append_nil] at this
  exact this
 unfold hrP
 rw [a5,a1,a2,a3]
 rw [if_neg (fun q=>q rfl),if_neg]
 rintro (q | q | q)
 ·exact q rfl
 ·exact q rfl
 ·exact q (fun x hx=>(h x hx).1)
abbrev GdW (l:List Wo):Prop:=∀ x ∈ l,x.sq < 18446744073709551616/\x.d.length=32
theorem GdW.app {a b:List Wo} (h:GdW a) (g:GdW b):GdW (a ++ b):=fun x hx=>(List.mem_append.1 hx).elim (h x) (g x)
theorem baG_gd (seg:Int) (b:List UInt8) (from_:Int):∀ (f:Nat) (at_:Int) (out:List Wo) (last:Nat),GdW out->GdW (baG seg b from_ f at_ out last).1
 | 0,_,_,_,_=>fun x hx=>by cases hx
 | f+1,at_,out,last,h=>by
  have hE:∀ e:Int,GdW (baE e).1:=fun e x hx=>by cases hx
  unfold baG
  by_cases h0:(recP b at_).2.2=0
  ·rw [if_neg (fun g=>g h0)]
   have hr:=recP_in h0
   split
   ·exact hE 3
   ·split
    ·refine baG_gd seg b from_ f _ _ _ (h.app (fun x hx=>?_))
     simp at hx
     subst hx
     exact ⟨by rw [wdR_sq]; exact hr.sq,wdR_len hr.d _ _ _⟩
    ·split
     ·exact h
     ·exact hE 3
  ·rw [if_pos h0]
   exact hE _
structure ScS (b:List UInt8) (s:Sn):Prop where
 r:s.r=0
 e:s.e=(b.length:Int)
 a:s.a=(b.length:Int)
 sq:s.sq < 18446744073709551616
 ws:GdW s.ws
theorem scG_in (b:List UInt8) (n:Int):∀ (f:Nat) (s:Sn),s.r=0->s.s=false->s.sq < 18446744073709551616->GdW s.ws->(scG b n f s).s=true->ScS b (scG b n f s)
 | 0,s,_,h2,_,_,h=>by
  have h:s.s=true:=h
  rw [h2] at h; cases h
 | f+1,s,h1,h2,h3,h4,h=>by
  unfold scG at h ⊢
  split at h
  ·rename_i g0
   rw [if_pos g0]
   split at h
   ·rename_i g1
    rw [if_pos g1]
    unfold ftP at h g1 ⊢
    split at h
    ·rename_i g2
     rw [if_pos g2] at g1; cases g1
    ·rename_i g2
     rw [if_neg g2]
     have hr:RokP b s.e (recP b s.e).1 (recP b s.e).2.1:=recP_in (Decidable.byContradiction (fun q=>g2 (.inl q)))
     split at h
     ·have h:s.s=true:=h
      rw [h2] at h; cases h
     ·rename_i g3
      rw [if_neg g3]
      have ge:(recP b s.e).2.1=(b.length:Int):=Decidable.byContradiction (fun q=>g3 (.inr (.inr (.inr q))))
      exact ⟨h1,ge,ge,hr.sq,h4⟩
   ·rename_i g1
    rw [if_neg g1]
    split at h
    ·rename_i g2
     exfalso
     unfold btP at h g2
     split at h
     ·have h:s.s=true:=h
      rw [h2] at h; cases h
     ·rename_i g3
      rw [if_neg g3] at g2
      split at h
      ·have h:s.s=true:=h
       rw [h2] at h; cases h
      ·rename_i g4
       rw [if_neg g4] at g2; cases g2
    ·rename_i g2
     rw [if_neg g2]
     have hlt:=btP_lt (by simpa using g2)
     have hbk:=baP_in hlt.2.2
     have he:(btP b n s).1={ s with ws:=s.ws ++ (baP n b s.e).1,sq:=(baP n b s.e).2.2.1,e:=(baP n b s.e).2.1,a:=(baP n b s.e).2.1 }:=by
      unfold btP at g2 ⊢
      rw [if_neg (fun h=>h hlt.2.2)] at g2 ⊢
      by_cases g3:hdS (baP n b s.e).1<=s.sq
      ·rw [if_pos g3] at g2; exact absurd rfl g2
      ·rw [if_neg g3]
     rw [he] at h ⊢
     exact scG_in b n f _ h1 h2 hbk.sq (h4.app (baG_gd n b s.e _ _ _ _ (fun x hx=>by cases hx))) h
  ·have h:s.s=true:=h
   rw [h2] at h; cases h
theorem scP_in {b:List UInt8} {n:Int} (h:(scP b n).s=true):ScS b (scP b n)/\1<=n/\n<=99999999:=by
 unfold scP at h ⊢
 have hs:(bgP b n).s=false:=by
  unfold bgP
  split
  ·rfl
  ·split <;> rfl
 by_cases h0:(bgP b n).r=0
 ·rw [if_neg (fun g=>g h0)] at h ⊢
  obtain ⟨g1,g2,g3,g4,g5⟩:=bgP_in h0
  refine ⟨scG_in b n _ _ h0 g5 g4 (by rw [g1]; exact fun x hx=>by cases hx) h,?_⟩
  unfold bgP at h0
  split at h0
  ·rename_i q; exact absurd h0 q
  ·rename_i q
   have hr:=recP_in (Decidable.byContradiction q)
   split at h0
   ·cases h0
   ·rename_i q2
    have k7:(recP b 0).1.k=7:=Decidable.byContradiction (fun g=>q2 (.inl g))
    have hn:(recP b 0).1.n=n:=Decidable.byContradiction (fun g=>q2 (.inr g))
    have hg:=hr.rg
    unfold rgR at hg
    rw [if_neg (by omega),if_neg (by omega),if_neg (by omega),if_neg (by omega)] at hg
    split at hg
    ·cases hg
    ·rename_i q3
     rw [hn] at q3
     omega
 ·rw [if_pos h0] at h
  rw [hs] at h; cases h
theorem hints_rp {b:List UInt8} {n:Nat} {d:Dk} (hs:(scP b n).s=true) (hb:b.length<=1048576) (hr:∀ x ∈ (scP b n).ws,RgW x n) (hl:(scP b n).ws.length<=1048576)
  (h1:lookD d (segF n)=(b,0)) (h2:lookD d (hinF n)=(hiB (scP b n).ws n b.length (scP b n).sq,0)):rpP d n=(scP b n,true,0):=by
 obtain ⟨hi,n1,n9⟩:=scP_in hs
 have hp:hrP (hiB (scP b n).ws n b.length (scP b n).sq) n b.length=((scP b n).ws,(scP b n).sq,0):=hrP_B (by omega) hb hi.sq hl (fun x hx=>⟨hr x hx,hi.ws x hx⟩)
 have e1:=hi.r
 have e2:=hi.e
 have e3:=hi.a
 unfold rpP
 rw [h1,h2]
 dsimp only
 rw [hp,if_neg (fun g=>g rfl),if_pos ⟨rfl,rfl⟩]
 generalize scP b n=X at *
 obtain ⟨ws,sq,e,s,a,r⟩:=X
 dsimp only at *
 rw [hs,e1,e2,e3]
end Go.Proofs.YtodmachaofepkaaGreatDoor
namespace Go.Proofs.YtodmachaofepkaaGreatDoor
open Go.GV Go.RowKit Go.Lib
def daP (x:Rc):List UInt8:=if x.k=5 then x.d else if x.k=7 then stil ++ leB x.n.toNat 8 else leB x.n.toNat 4 ++ leB x.z.toNat 4
theorem daP_len {x:Rc} (h:x.d.length=32):(daP x).length<=32:=by
 unfold daP
 split
 ·omega
 ·split
  ·rw [List.length_append,leB_len]; show 8+8<=32; omega
  ·rw [List.length_append,leB_len,leB_len]; omega
set_option maxHeartbeats 1000000 in
theorem rdata_calls (x:Rc) (A:Option Addr) (n c:Nat) (w:World) (hd:x.d.length=32) (hk:5<=x.k/\x.k<=8) (hn:0<=x.n/\x.n < 4294967296) (hz:0<=x.z/\x.z < 4294967296) :
  Calls Tryz.prog 68 #[ofL (rcC x A n c)] w fun e w'=>∃ A' c',e=.returned (.slice A' (daP x).length c')/\RB w w' A' (daP x).length c' (daP x):=by
 refine (F68.of _ w (Q:=fun v w'=>∃ A' c',v=.slice A' (daP x).length c'/\RB w w' A' (daP x).length c' (daP x)) ?_).mono (fun e w' ⟨v,he,A',c',hv,h⟩=>⟨A',c',by rw [he,hv],h⟩)
 refine rec_new (fun b1 w2 f1 hb1 r1=>?_)
 have k12:∀ (u:World) (A1:Option Addr) (n1 c1:Nat) (l:List UInt8),Fr (fun _=>False) w2 u->RB w u A1 n1 c1 l->(x.k ≠ 7->l=daP x)->jnC (F68.k12 (fun v w'=>∃ A' c',v=.slice A' (daP x).length c'/\RB w w' A' (daP x).length c' (daP x))) ((b1,0),x.k,(A1,n1,c1),()) u:=by
  intro u A1 n1 c1 l fu hl hda
  refine jnC_mk (fun _=>vIf_mk (fun h7=>?_) (fun h7=>?_))
  ·have h7:x.k=7:=by simpa using h7
   refine rec_new (fun b39 u1 f39 hb39 r39=>mkS_mk r39 (fun u2 f2 hc=>⟨x.n,?_,?_⟩))
   ·exact f2.cell (f39.cell (fu.cell (r1.cell (o:=36) (rc_n hd A n c)) (fun h=>h)) (fun h=>h)) (fun h=>by have h:b1=b39:=h; have:=(r1.fr fu (fun h=>h)).lt; omega)
   ·have hu2:Fr (fun _=>False) u u2:=f39.trans f2 (fun _ _ h=>h) (fun k hk h=>by omega)
    have hsl:Sl u2 1 (some ⟨b39,0,none⟩) 8 (stil.map bv):=by
     refine ⟨rfl,fun _=>⟨b39,0,rfl,fun j v hj=>?_⟩⟩
     rw [hc]
     exact (rec_all r39) j v hj
    dsimp only
    rw [u64_id (by omega) (by omega)]
    have e8:x.n=((x.n.toNat:Nat):Int):=by omega
    rw [e8]
    refine (rputB_calls (some ⟨b39,0,none⟩) 8 8 stil x.n.toNat 8 u2 hsl (by omega) (by omega) (by omega)).mono ?_
    rintro e u3 ⟨A',c',rfl,hr⟩
    have hdp:daP x=stil ++ leB x.n.toNat 8:=by unfold daP; rw [if_neg (by omega),if_pos h7]
    have hl16:(daP x).length=8+8:=by rw [hdp,List.length_append,leB_len]; rfl
    refine ⟨A',_,c',rfl,A',c',?_,?_⟩
    ·rw [hl16]
    ·rw [hl16,hdp]
     exact (hr.le hu2).le hl.1
  ·have h7:¬ x.k=7:=by simpa using h7
   have:=hda h7
   subst this
   refine ⟨A1,c1,?_,?_⟩
   ·rw [hl.len]
   ·rw [hl.len]; exact hl
 have k11:∀ (t:Bool) (u:World) (A1:Option Addr) (n1 c1:Nat) (l:List UInt8),Fr (fun _=>False) w2 u->RB w u A1 n1 c1 l->(x.k=5->l=daP x)->(x.k ≠ 5->l=[]/\n1=0)->(t=true ↔ (x.k=6\/x.k=8))->jnC (F68.k11 (fun v w'=>∃ A' c',v=.slice A' (daP x).length c'/\RB w w' A' (daP x).length c' (daP x))) ((b1,0),x.k,(A1,n1,c1),t,()) u:=by
  intro t u A1 n1 c1 l fu hl h5 hn5 ht
  refine jnC_mk (fun _=>vIf_mk (fun g=>?_) (fun g=>k12 u A1 n1 c1 l fu hl (fun h7=>?_)))
  ·have hk68:=ht.1 g
   have fd:Fr (fun _=>False) u u.drew:=Fr.drew _ _
   have rd:=(r1.fr fu (fun h=>h)).fr fd (fun h=>h)
   obtain ⟨rfl,rfl⟩:=hn5 (by omega)
   refine ⟨x.n,rd.cell (o:=36) (rc_n hd A n c),x.z,rd.cell (o:=37) (rc_z hd A n c),?_⟩
   dsimp only
   rw [u64_id (by omega) (by omega),u64_id (by omega) (by omega)]
   have e8:x.n=((x.n.toNat:Nat):Int):=by omega
   have e9:x.z=((x.z.toNat:Nat):Int):=by omega
   rw [e8,e9]
   refine (rputB_calls A1 0 c1 [] x.n.toNat 4 u.drew (fd.sl hl.sl (fun _ _ _ h=>h)) (by omega) (by omega) (by omega)).mono ?_
   rintro e u3 ⟨A',c',rfl,hr⟩
   rw [List.nil_append] at hr
   refine ⟨A',_,c',rfl,kp_mk hr.1 rd.lt (fun h=>h) ?_⟩
   refine (rputB_calls A' (0+4) c' _ x.z.toNat 4 u3 hr.sl (by omega) (by omega) (by omega)).mono ?_
   rintro e u4 ⟨A2,c2,rfl,hr2⟩
   have hdp:daP x=leB x.n.toNat 4 ++ leB x.z.toNat 4:=by unfold daP; rw [if_neg (by omega),if_neg (by omega)]
   exact ⟨A2,_,c2,rfl,k12 u4 A2 _ c2 (leB x.n.toNat 4 ++ leB x.z.toNat 4) (((fu.trans1 fd).trans1 hr.1).trans1 hr2.1) (((hr2.le hr.1).le fd).le hl.1) (fun _=>hdp.symm)⟩
  ·have:¬ (x.k=6\/x.k=8):=fun q=>by rw [ht.2 q] at g; cases g
   exact h5 (by omega)
 have k10:∀ (u:World) (A1:Option Addr) (n1 c1:Nat) (l:List UInt8),Fr (fun _=>False) w2 u->RB w u A1 n1 c1 l->(x.k=5->l=daP x)->(x.k ≠ 5->l=[]/\n1=0)->jnC (F68.k10 (fun v w'=>∃ A' c',v=.slice A' (daP x).length c'/\RB w w' A' (daP x).length c' (daP x))) ((b1,0),x.k,(A1,n1,c1),()) u:=by
  intro u A1 n1 c1 l fu hl h5 hn5
  refine jnC_mk (fun _=>vIf_mk (fun g=>k11 true u A1 n1 c1 l fu hl h5 hn5 ?_) (fun g=>k11 _ u A1 n1 c1 l fu hl h5 hn5 ?_))
  ·have g:x.k=6:=by simpa using g
   exact ⟨fun _=>.inl g,fun _=>rfl⟩
  ·have g:¬ x.k=6:=by simpa using g
   rw [beq_iff_eq]
   exact ⟨fun q=>.inr q,fun q=>q.resolve_left g⟩
 have k8:∀ (u:World) (A1:Option Addr) (n1 c1:Nat) (l:List UInt8),Fr (fun _=>False) w2 u->RB w u A1 n1 c1 l->(x.k=5->l=daP x)->(x.k ≠ 5->l=[]/\n1=0)->jnC (F68.k8 (fun v w'=>∃ A' c',v=.slice A' (daP x).length c'/\RB w w' A' (daP x).length c' (daP x))) ((b1,0),x.k,(A1,n1,c1),()) u:=by
  intro u A1 n1 c1 l fu hl h5 hn5
  refine jnC_mk (fun _=>vIf_mk (fun g=>?_) (fun g=>vIf_mk (fun g=>?_) (fun g=>k10 u A1 n1 c1 l fu hl h5 hn5)))
  ·have g:x.k=1:=by simpa using g
   omega
  ·have g:x.k=2:=by simpa using g
   omega
 have k6:jnC (F68.k6 (fun v w'=>∃ A' c',v=.slice A' (daP x).length c'/\RB w w' A' (daP x).length c' (daP x))) ((b1,0),x.k,(none,0,0),()) w2:=by
  have hnil:RB w w2 none 0 0 []:=(RB.nil w).fr f1
  refine jnC_mk (fun _=>vIf_mk (fun g=>?_) (fun g=>vIf_mk (fun g=>?_) (fun g=>vIf_mk (fun g=>?_) (fun g=>vIf_mk (fun g=>?_) (fun g=>?_)))))
  ·have g:x.k=1:=by simpa using g
   omega
  ·have g:x.k=2:=by simpa using g
   omega
  ·have g:x.k=3:=by simpa using g
   omega
  ·have g:x.k=5:=by simpa using g
   have hs:Sl w2 1 (some ⟨b1,0+2,none⟩) 32 (x.d.map bv):=⟨by rw [List.length_map,hd],fun _=>⟨b1,0+2,rfl,r1.cells (o:=2) (fun j v hj=>rcC_d hd A n c j v hj)⟩⟩
   refine appB_mk (RB.nil w2) hs (by show 0+32<=1099511627776; omega) (fun A' c' w' hr=>k8 w' A' _ c' _ hr.1 (hr.le f1) (fun _=>?_) (fun h=>absurd g h))
   ·unfold daP
    rw [if_pos g]; rfl
  ·have g:¬ x.k=5:=by simpa using g
   exact k8 w2 none 0 0 [] (Fr.refl _ _) hnil (fun h=>absurd h g) (fun _=>⟨rfl,rfl⟩)
 refine ⟨x.k,r1.cell (o:=0) (rc_k _ _ _),vIf_mk (fun g=>?_) (fun g=>jnC_mk (fun _=>vIf_mk (fun g'=>?_) (fun _=>k6)))⟩
 ·have g:x.k=3:=by simpa using g
  omega
 ·have g':x.k=4:=by simpa using g'
  omega
abbrev mkR (x:Rc):List UInt8:=mkF x.k.toNat x.sq (daP x)
theorem rmk14_calls (x:Rc) (A:Option Addr) (n c:Nat) (w:World) (hd:x.d.length=32) (hk:5<=x.k/\x.k<=8) (hn:0<=x.n/\x.n < 4294967296) (hz:0<=x.z/\x.z < 4294967296) (hs:x.sq < 18446744073709551616) (hr:rgR x=0) (hnl:n=x.dat.length) (hm:x.nm.length<=255) :
  Calls Tryz.prog 40 #[ofL (rcC x A n c)] w fun e w'=>∃ A' c',e=.returned (.tuple #[.slice A' (mkR x).length c',.int .i64 0])/\RB w w' A' (mkR x).length c' (mkR x):=by
 refine (F40.of _ w (Q:=fun v w'=>∃ A' c',v=.tuple #[.slice A' (mkR x).length c',.int .i64 0]/\RB w w' A' (mkR x).length c' (mkR x)) ?_).mono (fun e w' ⟨v,he,A',c',hv,h⟩=>⟨A',c',by rw [he,hv],h⟩)
 refine rec_new (fun b1 w2 f1 hb1 r1=>⟨_,rcC_len hd _ _ _,rec_all r1,(rrgt_calls x A n c w2 hd hnl hm).mono ?_⟩)
 rintro e w4 ⟨rfl,f4⟩
 refine ⟨_,rfl,vIf_mk (fun g=>?_) (fun g=>?_)⟩
 ·rw [hr] at g; cases g
 have fd:Fr (fun _=>False) w4 w4.drew:=Fr.drew _ _
 have r4:=(r1.fr f4 (fun h=>h)).fr fd (fun h=>h)
 refine ⟨_,r4.cell (o:=0) (rc_k _ _ _),_,r4.cell (o:=1) (rc_sq _ _ _),_,rcC_len hd _ _ _,rec_all r4,(rdata_calls x A n c w4.drew hd hk hn hz).mono ?_⟩
 rintro e w14 ⟨A1,c1,rfl,h1⟩
 have hl:=daP_len hd
 have e8:x.k=((x.k.toNat:Nat):Int):=by omega
 refine ⟨A1,_,c1,rfl,kp_mk h1.1 r4.lt (fun h=>h) (kp_mk h1.1 r4.lt (fun h=>h) ?_)⟩
 rw [e8]
 refine (rmake_calls x.k.toNat x.sq A1 (daP x).length c1 (daP x) w14 h1.sl (by omega) (by omega) hs).mono ?_
 rintro e w19 ⟨A2,c2,rfl,h2⟩
 have hlm:(mkR x).length=21+(daP x).length:=mkF_len _ _ _
 exact ⟨A2,_,c2,rfl,A2,c2,by rw [hlm],by rw [hlm]; exact ((h2.le h1.1).le ((f1.trans1 f4).trans1 fd))⟩
def rc5q (q:Nat):Rc:=⟨5,q,z32,[],[],0,0⟩
def rc5:Rc:=rc5q 0
theorem rgR5:rgR rc5=0:=by decide +kernel
set_option maxHeartbeats 1000000 in
theorem wrong15_calls (b1:Nat) (w:World) (r:RecAt w b1 48 (rcC rc5 none 0 0)) :
  Calls Tryz.prog 69 #[.slice (some ⟨b1,0,none⟩) 1 1] w fun e w'=>e=.returned (.int .i64 0)/\Fr (fun _=>False) w w':=by
 refine (F69.of (some ⟨b1,0,none⟩) 1 1 w (Q:=fun v w'=>v=.int .i64 0/\Fr (fun _=>False) w w') ?_).mono (fun e w' ⟨v,he,hv,h⟩=>⟨by rw [he,hv],h⟩)
 have hk:=r.cell (o:=0) (rc_k (x:=rc5) none 0 0)
 refine vIf_f rfl (jnC_mk (loop_rule (fun s u=>Fr (fun _=>False) w u/\∃ i:Nat,i<=1/\s=((some ⟨b1,0,none⟩,1,1),(i:Int),())) (fun s _=>(1 - s.2.1).toNat) ?_ _ _ ⟨Fr.refl _ _,0,by omega,rfl⟩))
 rintro s u C ⟨hf,i,hi,rfl⟩ hC _
 refine vIf_mk (fun hlt=>?_) (fun hge=>jnC_mk (loop_rule (fun s u=>Fr (fun _=>False) w u/\∃ i:Nat,i<=1/\s=((some ⟨b1,0,none⟩,1,1),(i:Int),())) (fun s _=>(1 - s.2.1).toNat) ?_ _ _ ⟨hf,0,by omega,rfl⟩))
 ·have hlt:(i:Int) < 1:=of_decide_eq_true hlt
  obtain rfl:i=0:=by omega
  have c0:=hf.cell hk (fun h=>h)
  refine dr_mk (gd_mk rfl (gd_mk rfl ⟨5,c0,vIf_f rfl (dr_mk (gd_mk rfl (gd_mk rfl ⟨5,c0,vIf_f rfl (jnC_mk (hC _ _ ⟨hf,1,by omega,rfl⟩ ?_))⟩)))⟩))
  show (1 - (1:Int)).toNat < (1 - (0:Int)).toNat
  decide
 ·rintro s u C ⟨hf,i,hi,rfl⟩ hC _
  refine vIf_mk (fun hlt=>?_) (fun _=>⟨rfl,hf⟩)
  have hlt:(i:Int) < 1:=of_decide_eq_true hlt
  obtain rfl:i=0:=by omega
  refine dr_mk (gd_mk rfl (gd_mk rfl ⟨_,rcC_len z32_len _ _ _,rec_all (r.fr hf (fun h=>h)),(rrgt_calls rc5 none 0 0 u z32_len rfl (Nat.zero_le _)).mono ?_⟩))
  rintro e u2 ⟨rfl,f2⟩
  refine ⟨_,rfl,?_⟩
  rw [rgR5]
  refine vIf_f rfl (jnC_mk (hC _ _ ⟨hf.trans1 f2,1,by omega,rfl⟩ ?_))
  show (1 - (1:Int)).toNat < (1 - (0:Int)).toNat
  decide
def ba5 (q:Nat):List UInt8:=mkR (rc5q q) ++ mkR ⟨6,q+1,z32,[],[],1,53⟩
theorem rgR6:∀ q:Nat,rgR ⟨6,q,z32,[],[],1,53⟩=0:=fun q=>rfl
theorem rgR5q:∀ q:Nat,rgR (rc5q q)=0:=fun q=>rfl
set_option maxHeartbeats 2000000 in
theorem rmk15_calls (b1:Nat) (q:Nat) (w:World) (r:RecAt w b1 48 (rcC rc5 none 0 0)) (hq:q < 1000) :
  Calls Tryz.prog 41 #[.slice (some ⟨b1,0,none⟩) 1 1,.int .u64 (q:Nat)] w fun e w'=>∃ A' c',e=.returned (.tuple #[.slice A' (ba5 q).length c',.int .u64 ((q+2:Nat):Int),.int .i64 0])/\RB w w' A' (ba5 q).length c' (ba5 q):=by
 refine (F41.of (some ⟨b1,0,none⟩) 1 1 q w (Q:=fun v w'=>∃ A' c',v=.tuple #[.slice A' (ba5 q).length c',.int .u64 ((q+2:Nat):Int),.int .i64 0]/\RB w w' A' (ba5 q).length c' (ba5 q)) ?_).mono (fun e w' ⟨v,he,A',c',hv,h⟩=>⟨A',c',by rw [he,hv],h⟩)
 have hl5:(mkR (rc5q q)).length=53:=by
  rw [mkF_len]
  have hz:daP (rc5q q)=z32:=if_pos rfl
  rw [hz,z32_len]
 refine (wrong15_calls b1 w r).mono ?_
 rintro e w1 ⟨rfl,f1⟩
 have e1:IntKind.wrap .u64 ((q:Int)+IntKind.wrap .u64 ((1:Nat):Int))=((q+1:Nat):Int):=by rw [u64_id (n:=((1:Nat):Int)) (by omega) (by omega),u64_id (by omega) (by omega)]; omega
 have e2:IntKind.wrap .u64 (((q+1:Nat):Int)+1)=((q+2:Nat):Int):=by rw [u64_id (by omega) (by omega)]; omega
 refine ⟨0,rfl,vIf_f rfl ?_⟩
 dsimp only
 rw [e1,e2]
 refine vIf_f (decide_eq_false (by omega)) (jnC_mk (loop_rule (fun s u=>∃ (i:Nat) (A1:Option Addr) (c1:Nat) (l:List UInt8),s=((some ⟨b1,0,none⟩,1,1),(q:Int),(A1,l.length,c1),(i:Int),())/\RB w u A1 l.length c1 l/\(i=0/\l=[]\/i=1/\l=mkR (rc5q q))) (fun s _=>(1 - s.2.2.2.1).toNat) ?_ _ _ ⟨0,none,0,[],rfl,(RB.nil w).fr f1,.inl ⟨rfl,rfl⟩⟩))
 rintro s u C ⟨i,A1,c1,l,rfl,hl,hil⟩ hC _
 refine vIf_mk (fun hlt=>?_) (fun hge=>?_)
 ·have hlt:(i:Int) < 1:=of_decide_eq_true hlt
  obtain ⟨rfl,rfl⟩:i=0/\l=[]:=by
   rcases hil with h | h
   ·exact h
   ·omega
  refine dr_mk (gd_mk rfl (gd_mk rfl ⟨_,rcC_len z32_len _ _ _,rec_all (r.fr hl.1 (fun h=>h)),var_new (sz:=38) rfl (rcC_len z32_len _ _ _) (rcC_one _ _ _ _) (fun b10 u1 fu1 hb10 r10=>?_)⟩))
  have e0:IntKind.wrap .u64 ((q:Int)+IntKind.wrap .u64 ((0:Nat):Int))=(q:Int):=by rw [u64_id (n:=((0:Nat):Int)) (by omega) (by omega),u64_id (by omega) (by omega)]; omega
  show st u1 b10 (0+1) [Value.int .u64 (IntKind.wrap .u64 ((q:Int)+IntKind.wrap .u64 ((0:Nat):Int)))] _
  rw [e0]
  refine r10.st_mk (o:=1) (by rw [rcC_len z32_len]; show 1+1<=38; omega) (fun v hv=>by simp at hv; subst hv; rfl) (fun q10 g10=>?_)
  rw [rcC_sts] at q10
  have q10:RecAt _ b10 48 (rcC (rc5q q) none 0 0):=q10
  have su:=hl.1.size
  have hu2:=fr_var (hl.1.trans1 fu1) (by omega) g10
  refine ⟨_,rcC_len (x:=rc5q q) z32_len _ _ _,rec_all q10,(rmk14_calls (rc5q q) none 0 0 _ z32_len ⟨(show (5:Int)<=5 by decide),(show (5:Int)<=8 by decide)⟩ ⟨(show (0:Int)<=0 by decide),(show (0:Int) < 4294967296 by decide)⟩ ⟨(show (0:Int)<=0 by decide),(show (0:Int) < 4294967296 by decide)⟩ (by show q < _; omega) (rgR5q q) rfl (Nat.zero_le _)).mono ?_⟩
  rintro e u3 ⟨A3,c3,rfl,h3⟩
  have hl3:RB w u3 A1 0 c1 []:=by
   have hA:A1=none\/True:=.inr trivial
   refine ⟨hu2.trans1 h3.1,?_⟩
   exact h3.1.row (g10.row ((hl.fr fu1).2) (fun b hb e=>by have:=(hl.2.blt hb).2; omega)) (fun _ _ h=>h)
  refine ⟨A3,_,c3,0,rfl,appB_mk (n:=0) hl3 h3.sl (by rw [hl5]; show 0+53<=1099511627776; omega) (fun A' c' w' hr=>jnC_mk (hC _ _ ⟨1,A',c',mkR (rc5q q),?_,?_,.inr ⟨rfl,rfl⟩⟩ ?_))⟩
  ·show (_,_,(A',0+(mkR (rc5q q)).length,c'),_,())=_
   rw [Nat.zero_add]; rfl
  ·rw [List.nil_append,Nat.zero_add] at hr
   exact hr
  ·show (1 - (1:Int)).toNat < (1 - (0:Int)).toNat
   decide
 ·have hge:¬ (i:Int) < 1:=of_decide_eq_false hge
  obtain ⟨rfl,rfl⟩:i=1/\l=mkR (rc5q q):=by
   rcases hil with h | h
   ·omega
   ·exact h
  dsimp only
  rw [e1,hl5]
  rw [hl5] at hl
  refine (rmk14_calls ⟨6,q+1,z32,[],[],1,53⟩ none 0 0 u z32_len ⟨(show (5:Int)<=6 by decide),(show (6:Int)<=8 by decide)⟩ ⟨(show (0:Int)<=1 by decide),(show (1:Int) < 4294967296 by decide)⟩ ⟨(show (0:Int)<=53 by decide),(show (53:Int) < 4294967296 by decide)⟩ (by show q+1 < _; omega) (rgR6 (q+1)) rfl (Nat.zero_le _)).mono ?_
  rintro e u3 ⟨A3,c3,rfl,h3⟩
  have hlm:(mkR ⟨6,q+1,z32,[],[],1,53⟩).length<=100:=by rw [mkF_len]; have:=daP_len (x:=⟨6,q+1,z32,[],[],1,53⟩) z32_len; omega
  refine ⟨A3,_,c3,0,rfl,appB_mk (hl.fr h3.1) h3.sl (by omega) (fun A' c' w' hr=>⟨A',c',?_,?_⟩)⟩
  ·rw [e2]
   unfold ba5
   rw [List.length_append,hl5]
  ·unfold ba5
   rw [List.length_append,hl5]
   exact hr
def hd7:List UInt8:=mkR ⟨7,5,z32,[],[],2,0⟩
def ft8:List UInt8:=mkR ⟨8,8,z32,[],[],1,119⟩
def lvB:List UInt8:=hd7 ++ ba5 6 ++ ft8
theorem hd7_len:hd7.length=37:=by
 unfold hd7
 rw [mkF_len]
 decide +kernel
theorem ba5_len:(ba5 6).length=82:=by
 unfold ba5
 rw [List.length_append,mkF_len,mkF_len]
 decide +kernel
theorem ft8_len:ft8.length=29:=by
 unfold ft8
 rw [mkF_len]
 decide +kernel
theorem lvB_len:lvB.length=148:=by
 unfold lvB
 rw [List.length_append,List.length_append,hd7_len,ba5_len,ft8_len]
set_option maxHeartbeats 2000000 in
theorem build_calls (b1 b3:Nat) (w:World) (r:RecAt w b1 48 (rcC rc5 none 0 0)) (r3:RecAt w b3 66 [.slice (some ⟨b1,0,none⟩) 1 1]) :
  Calls Tryz.prog 18 #[.int .i64 2,.int .u64 5,.slice (some ⟨b3,0,none⟩) 1 1,.bool true] w fun e w'=>∃ A' c',e=.returned (.tuple #[.slice A' lvB.length c',.int .i64 0])/\RB w w' A' lvB.length c' lvB:=by
 refine (F18.of 2 5 (some ⟨b3,0,none⟩) 1 1 true w (Q:=fun v w'=>∃ A' c',v=.tuple #[.slice A' lvB.length c',.int .i64 0]/\RB w w' A' lvB.length c' lvB) ?_).mono (fun e w' ⟨v,he,A',c',hv,h⟩=>⟨A',c',by rw [he,hv],h⟩)
 refine (rmk14_calls ⟨7,5,z32,[],[],2,0⟩ none 0 0 w z32_len ⟨(show (5:Int)<=7 by decide),(show (7:Int)<=8 by decide)⟩ ⟨(show (0:Int)<=2 by decide),(show (2:Int) < 4294967296 by decide)⟩ ⟨(show (0:Int)<=0 by decide),(show (0:Int) < 4294967296 by decide)⟩ (show 5 < 18446744073709551616 by decide) rfl rfl (Nat.zero_le _)).mono ?_
 rintro e w1 ⟨A1,c1,rfl,h1⟩
 have h1:RB w w1 A1 hd7.length c1 hd7:=h1
 refine ⟨A1,_,c1,0,rfl,vIf_f rfl ?_⟩
 refine jnC_mk (loop_rule (fun s u=>∃ (A2:Option Addr) (c2:Nat) (l:List UInt8) (q i:Nat),s=((some ⟨b3,0,none⟩,1,1),true,(A2,l.length,c2),(q:Int),(i:Int),(i:Int),())/\RB w u A2 l.length c2 l/\(i=0/\q=6/\l=hd7\/i=1/\q=8/\l=hd7 ++ ba5 6)) (fun s _=>(1 - s.2.2.2.2.2.1).toNat) ?_ _ _ ⟨A1,c1,hd7,6,0,rfl,h1,.inl ⟨rfl,rfl,rfl⟩⟩)
 rintro s u C ⟨A2,c2,l,q,i,rfl,hl,hil⟩ hC _
 refine vIf_mk (fun hlt=>?_) (fun hge=>?_)
 ·have hlt:(i:Int) < 1:=of_decide_eq_true hlt
  obtain ⟨rfl,rfl,rfl⟩:i=0/\q=6/\l=hd7:=by
   rcases hil with h | h
   ·exact h
   ·omega
  refine dr_mk (gd_mk rfl (gd_mk rfl ⟨some ⟨b1,0,none⟩,1,1,(r3.fr hl.1 (fun h=>h)).cell (o:=0) rfl,(rmk15_calls b1 6 u (r.fr hl.1 (fun h=>h)) (by decide)).mono ?_⟩))
  rintro e u2 ⟨A3,c3,rfl,h3⟩
  refine ⟨A3,_,c3,_,_,rfl,vIf_f rfl (appB_mk (hl.fr h3.1) h3.sl (by show hd7.length+(ba5 6).length<=1099511627776; rw [hd7_len,ba5_len]; omega) (fun A4 c4 w4 hr=>dr_mk (gd_mk rfl (gd_mk rfl ⟨some ⟨b1,0,none⟩,1,1,(r3.fr hr.1 (fun h=>h)).cell (o:=0) rfl,jnC_mk (hC _ _ ⟨A4,c4,hd7 ++ ba5 6,8,1,?_,?_,.inr ⟨rfl,rfl,rfl⟩⟩ ?_)⟩))))⟩
  ·rw [List.length_append]; rfl
  ·rw [List.length_append]; exact hr
  ·show (1 - (1:Int)).toNat < (1 - (0:Int)).toNat
   decide
 ·have hge:¬ (i:Int) < 1:=of_decide_eq_false hge
  obtain ⟨rfl,rfl,rfl⟩:i=1/\q=8/\l=hd7 ++ ba5 6:=by
   rcases hil with h | h
   ·omega
   ·exact h
  have hll:(hd7 ++ ba5 6).length=119:=by rw [List.length_append,hd7_len,ba5_len]
  rw [hll] at hl
  refine vIf_t rfl ?_
  dsimp only
  rw [hll]
  refine (rmk14_calls ⟨8,8,z32,[],[],1,119⟩ none 0 0 u z32_len ⟨(show (5:Int)<=8 by decide),(show (8:Int)<=8 by decide)⟩ ⟨(show (0:Int)<=1 by decide),(show (1:Int) < 4294967296 by decide)⟩ ⟨(show (0:Int)<=119 by decide),(show (119:Int) < 4294967296 by decide)⟩ (show 8 < 18446744073709551616 by decide) rfl rfl (Nat.zero_le _)).mono ?_
  rintro e u2 ⟨A3,c3,rfl,h3⟩
  have h3:RB u u2 A3 ft8.length c3 ft8:=h3
  refine ⟨A3,_,c3,0,rfl,vIf_f rfl (appB_mk (hl.fr h3.1) h3.sl (by show 119+ft8.length<=_; rw [ft8_len]; omega) (fun A4 c4 w4 hr=>jnC_mk (fun _=>⟨A4,c4,?_,?_⟩)))⟩
  ·show Value.tuple #[Value.slice A4 (119+ft8.length) c4,_]=_
   rw [ft8_len,lvB_len]
  ·have e:119+(mkR ⟨8,8,z32,[],[],1,119⟩).length=lvB.length:=by
    show 119+ft8.length=_
    rw [ft8_len,lvB_len]
   rw [<- e]
   exact hr
theorem limits_calls (w:World):Calls Tryz.prog 8 #[] w fun e w'=>e=.returned (ofL [.int .i64 16777216,.int .i64 1000])/\Fr (fun _=>False) w w':=by
 refine (F8.of w (Q:=fun v w'=>v=ofL [.int .i64 16777216,.int .i64 1000]/\Fr (fun _=>False) w w') ?_).mono (fun e w' ⟨v,he,hv,h⟩=>⟨by rw [he,hv],h⟩)
 refine rec_new (fun b1 w2 f1 hb1 r1=>?_)
 exact ansN_mk (N:=2) (cs:=[.int .i64 16777216,.int .i64 1000]) (K:=fun a w1=>ofL a=ofL [.int .i64 16777216,.int .i64 1000]/\Fr (fun _=>False) w w1) r1 rfl rfl (fun v hv=>by
  simp only [List.mem_cons,List.not_mem_nil,or_false] at hv
  rcases hv with rfl | rfl <;> rfl) (fun w' g=>⟨rfl,fr_var f1 hb1 g⟩)
theorem dkS_of {d:Dk} {N:Nat} (hI:DkI d) (hB:DkB d N) (hN:N<=349525):DkS d :=
 ⟨by have:=hB.fo; unfold FoB; omega,hI.ino,fun id=>by have:=hB.p id; omega,hI⟩
def lvN:ByteArray:=⟨#[115,101,103,45,48,48,48,48,48,48,48,50]⟩
theorem lv_seg:segF 2=lvN:=by decide +kernel
theorem lv_hin:hinF 2 ≠ lvN:=by decide +kernel
theorem lv_disk:DiskP lvN:=by
 have h:∀ i:Fin 12,33<=byteAt lvN i.val/\byteAt lvN i.val<=126/\byteAt lvN i.val ≠ 47:=by decide +kernel
 have hs:lvN.size=12:=rfl
 exact ⟨fun i hi=>h ⟨i,by omega⟩,by omega,by omega⟩
theorem lv_lod:lodF 16777216 1000 [(lvN,lvB)]={ newD 16777216 1000 with last:=1,F:=⟨[(lvN,1)],[]⟩,f:=updF (fun _=>zI) 1 ⟨lvB,[]⟩ }:=by
 show lodS (newD 16777216 1000) (lvN,lvB)=_
 have hn:nowF (newD 16777216 1000).F=[]:=by rw [nowF_nil rfl]; rfl
 unfold lodS
 rw [if_neg]
 ·rfl
 ·rintro (h | h | h)
  ·have h:(findN lvN (nowF (newD 16777216 1000).F)).isSome=true:=h
   rw [hn] at h; cases h
  ·exact h lv_disk
  ·have h:lvB.length > 1048576:=h
   rw [lvB_len] at h; omega
theorem lv_look (s:ByteArray):lookD (loadD 16777216 1000 [(lvN,lvB)]) s=if s=lvN then (lvB,0) else ([],6):=by
 have hF:(loadD 16777216 1000 [(lvN,lvB)]).F=⟨nowF ⟨[(lvN,1)],[]⟩,[]⟩:=by unfold loadD; rw [lv_lod]
 have hdn:(loadD 16777216 1000 [(lvN,lvB)]).down=false:=by unfold loadD; rw [lv_lod]; rfl
 have hf:(loadD 16777216 1000 [(lvN,lvB)]).f=updF (fun _=>zI) 1 ⟨lvB,[]⟩:=by unfold loadD; rw [lv_lod]
 have e1:nowF (⟨[(lvN,1)],[]⟩:Fo)=lastN [(lvN,1)]:=nowF_nil rfl
 have e2:nowF (⟨lastN [(lvN,1)],[]⟩:Fo)=lastN (lastN [(lvN,1)]):=nowF_nil rfl
 have e3:findN s (nowF (loadD 16777216 1000 [(lvN,lvB)]).F)=findN s [(lvN,1)]:=by rw [hF,e1,e2,lastN_find,lastN_find]
 unfold lookD
 rw [hdn,if_neg (by decide),e3]
 by_cases h:s=lvN
 ·subst h
  rw [if_pos rfl]
  have e4:findN lvN [(lvN,1)]=some 1:=if_pos rfl
  rw [e4]
  show (nowI ((loadD 16777216 1000 [(lvN,lvB)]).f 1),(0:Int))=_
  rw [hf]
  rfl
 ·rw [if_neg h]
  have e4:findN s [(lvN,1)]=none:=by
   show (if lvN=s then _ else _)=_
   rw [if_neg (fun g=>h g.symm)]; rfl
  rw [e4]
theorem lv_scan:(scP lvB 2).s=true/\(scP lvB 2).ws.length=1/\(scP lvB 2).sq=8:=by decide +kernel
theorem lv_rp:rpP (loadD 16777216 1000 [(lvN,lvB)]) 2=(scP lvB 2,false,0):=by
 have h1:=lv_look (segF 2)
 have h2:=lv_look (hinF 2)
 rw [if_pos lv_seg] at h1
 rw [if_neg lv_hin] at h2
 unfold rpP
 rw [h1,h2]
 rw [if_neg (fun g=>g rfl),if_neg (fun g=>by have:=g.1; cases this)]
set_option maxHeartbeats 2000000 in
theorem lives31_calls (w:World) (hv:Nm8.VK w):Calls Tryz.prog 6 #[] w fun e w'=>e=.returned (.bool true)/\Fr (fun _=>False) w w':=by
 refine (F6.of w (Q:=fun v w'=>v=.bool true/\Fr (fun _=>False) w w') ?_).mono (fun e w' ⟨v,he,hv,h⟩=>⟨by rw [he,hv],h⟩)
 have lay:∀ (K:Nat->World->Prop),(∀ b w',Fr (fun _=>False) w w'->w.heap.size<=b->RecAt w' b 48 (rcC rc5 none 0 0)->K b w')->nw w (rcC rc5 none 0 0 ++ []) 48 K:=by
  intro K hK
  rw [List.append_nil]
  exact rec_new hK
 refine gd_mk rfl (lay _ (fun b1 w2 f1 hb1 r1=>rec_new (fun b3 w4 f3 hb3 r3=>?_)))
 refine (build_calls b1 b3 w4 (r1.fr f3 (fun h=>h)) r3).mono ?_
 rintro e w5 ⟨A7,c9,rfl,hB⟩
 refine ⟨A7,_,c9,_,rfl,(limits_calls w5).mono ?_⟩
 rintro e w11 ⟨rfl,f11⟩
 have f0:=((f1.trans1 f3).trans1 hB.1).trans1 f11
 refine ⟨_,rfl,gd_mk rfl (rec_new (fun b14 w15 f15 hb15 r15=>?_))⟩
 have hI:ISl w15 (some ⟨b14,0,none⟩) 1 [(lvN,lvB)]:=by
  refine ⟨[.string lvN,.slice A7 lvB.length c9],⟨rfl,fun _=>⟨b14,0,rfl,rec_all r15⟩⟩,rfl,fun i x hx=>?_⟩
  cases i with
  | zero =>
   cases hx
   exact ⟨A7,lvB.length,c9,rfl,(f11.trans1 f15).sl hB.sl (fun _ _ _ h=>h),hB.2.le⟩
  | succ i=>cases hx
 have hsm:∀ x ∈ [(lvN,lvB)],x.1.size<=1099511627775:=fun x hx=>by
  simp at hx; subst hx
  show (12:Nat)<=_
  omega
 have hdm:∀ x ∈ [(lvN,lvB)],x.2.length<=1099511627775:=fun x hx=>by
  simp at hx; subst hx
  show lvB.length<=_
  rw [lvB_len]; omega
 refine (Load_calls 16777216 1000 _ 1 1 [(lvN,lvB)] w15 hI (by omega) hsm hdm).mono ?_
 rintro e w16 ⟨f16,db,r,rfl,hD,_,_⟩
 have f016:=(f0.trans1 f15).trans1 f16
 refine ⟨_,rfl,(rpscan_calls db r _ 2 w16 hD (dkS_of load_I (load_B (by omega) (by omega)) (by show 1<=349525; omega)) (hv.fr f016)).mono ?_⟩
 rintro e w19 ⟨_,rfl,A,c,rfl,hr⟩
 rw [lv_rp] at hr ⊢
 obtain ⟨q1,q2,q3⟩:=lv_scan
 generalize scP lvB 2=X at q1 q2 q3 hr ⊢
 refine ⟨_,_,_,rfl,var_new (sz:=6) rfl rfl (snC_one _ _ _) (fun b24 w26 f26 hb26 r26=>vIf_t rfl (vIf_t rfl (vIf_t rfl (ld_b (r26.cell (o:=3) (v:=.bool X.s) rfl) (vIf_t q1 ⟨A,_,c,r26.cell (o:=0) rfl,vIf_mk (fun _=>⟨_,r26.cell (o:=1) (v:=.int .u64 (X.sq:Nat)) rfl,?_,(f016.trans1 hr.f).trans1 f26⟩) (fun h=>?_)⟩)))))⟩
 ·rw [q3]; rfl
 ·exfalso
  have h:(((X.ws.length:Nat):Int) == 1)=false:=h
  rw [q2] at h; cases h
theorem scG_len (b:List UInt8) (n:Int):∀ (f:Nat) (s:Sn),0<=s.e->(s.ws.length:Int)<=s.e->s.e<=(b.length:Int)->(scG b n f s).ws.length<=b.length
 | 0,s,h0,h1,h2=>by show s.ws.length<=_; omega
 | f+1,s,h0,h1,h2=>by
  unfold scG
  split
  ·split
   ·have hws:(ftP b s).1.ws=s.ws:=by
     unfold ftP
     split
     ·rfl
     ·split <;> rfl
    rw [hws]; omega
   ·split
    ·rename_i hb
     have hws:(btP b n s).1.ws=s.ws:=by
      unfold btP at hb ⊢
      by_cases g0:(baP n b s.e).2.2.2=0
      ·rw [if_neg (fun h=>h g0)] at hb ⊢
       by_cases g1:hdS (baP n b s.e).1<=s.sq
       ·rw [if_pos g1]
       ·rw [if_neg g1] at hb; cases hb
      ·rw [if_pos g0]
     rw [hws]; omega
    ·rename_i hb
     have hlt:=btP_lt (by simpa using hb)
     have hbk:=baP_in hlt.2.2
     have k3:=hbk.len
     have he:(btP b n s).1={ s with ws:=s.ws ++ (baP n b s.e).1,sq:=(baP n b s.e).2.2.1,e:=(baP n b s.e).2.1,a:=(baP n b s.e).2.1 }:=by
      unfold btP at hb ⊢
      rw [if_neg (fun h=>h hlt.2.2)] at hb ⊢
      by_cases g1:hdS (baP n b s.e).1<=s.sq
      ·rw [if_pos g1] at hb; exact absurd rfl hb
      ·rw [if_neg g1]
     refine scG_len b n f _ (by omega) ?_ hlt.2.1
     rw [he]
     show ((s.ws ++ (baP n b s.e).1).length:Int)<=(baP n b s.e).2.1
     rw [List.length_append]
     omega
  ·omega
theorem scP_len (b:List UInt8) (n:Int):(scP b n).ws.length<=b.length:=by
 unfold scP
 have hws:(bgP b n).ws=[]:=by
  unfold bgP
  split
  ·rfl
  ·split <;> rfl
 split
 ·rw [hws]; exact Nat.zero_le _
 ·rename_i h
  have h:(bgP b n).r=0:=Decidable.byContradiction h
  obtain ⟨g1,g2,g3,g4,g5⟩:=bgP_in h
  exact scG_len b n _ _ g2 (by rw [g1]; exact g2) g3
end Go.Proofs.YtodmachaofepkaaGreatDoor
namespace Go.Proofs.YtodmachaofepkaaGreatDoor
open Go.GV Go.ChangeShapes Go.WideShapes Go.ChangeAt Go.RowKit
theorem own:ownKnob Tryz.prog.godebug=none:=by kernel_rfl
theorem laid:laidOutB Tryz.prog=true:=by kernel_rfl
theorem small {H:Type} {l:List (DataW H)} (hk:Rows.uptoSmall H l=true):Rows.uptoBulkAll l<=1048576:=of_decide_eq_true hk
theorem one_le {H:Type} (d:DataW H):1<=Rows.uptoBulk d:=by
 cases d with
 | lit l=>cases l <;> simp [Rows.uptoBulk]
 | nil=>simp [Rows.uptoBulk]
 | ptr d=>simp [Rows.uptoBulk]
 | slice elems spare=>simp [Rows.uptoBulk]
 | agg parts=>simp [Rows.uptoBulk]
 | iface t d=>simp [Rows.uptoBulk]
 | map entries=>simp [Rows.uptoBulk]
 | held h=>simp [Rows.uptoBulk]
theorem length_le {H:Type} (l:List (DataW H)):l.length<=Rows.uptoBulkAll l:=by
 induction l with
 | nil=>simp [Rows.uptoBulkAll]
 | cons x r ih=>have:=one_le x; simp only [Rows.uptoBulkAll,List.length_cons]; omega
theorem bytesN {H:Type} {d:DataW H} {A:Option Addr} {n:Nat} (h:(d=.nil/\A=none/\n=0)\/∃ es sp,d=.slice es sp/\es.length=n):n<=Rows.uptoBulk d:=by
 rcases h with ⟨_,_,rfl⟩ | ⟨es,sp,rfl,h⟩
 ·omega
 ·have:=length_le es; simp only [Rows.uptoBulk]; omega
structure FlB (x:Fl):Prop where
 nm:x.1.size<=1099511627775
 data:x.2.length<=1099511627775
end Go.Proofs.YtodmachaofepkaaGreatDoor
namespace Go.Proofs.YtodmachaofepkaaGreatDoor
open Go.GV Go.RowKit Go.Lib
theorem vaF_lo {k m:Nat} (h:m < 128) (h0:k=0->m < 2):vaF k m=[UInt8.ofNat m]:=by
 cases k with
 | zero =>
  have:=h0 rfl
  unfold vaF
  rw [show m % 256=m by omega]
 | succ k =>
  unfold vaF
  rw [if_pos h]
theorem vaF_hi {k m:Nat} (h:¬ m < 128):vaF (k+1) m=UInt8.ofNat (m % 128+128) :: vaF k (m / 128):=by
 rw [vaF,if_neg h]
theorem bv_of {m:Nat} (h:m < 256):Value.int .u8 ((m:Nat):Int)=bv (UInt8.ofNat m):=by
 unfold bv
 rw [u8n_of h]
set_option maxHeartbeats 1000000 in
theorem rvaput_calls (A:Option Addr) (n c:Nat) (b:List UInt8) (x:Nat) (w:World) (h:Sl w 1 A n (b.map bv)) (hn:n<=137438953000) (hx:x < 18446744073709551616) :
  Calls Tryz.prog 36 #[.slice A n c,.int .u64 (x:Nat)] w fun e w'=>∃ A' c',e=.returned (.slice A' (b ++ vaB x).length c')/\RB w w' A' (b ++ vaB x).length c' (b ++ vaB x):=by
 have hl:=sl_len h
 refine (F36.of A n c x w (Q:=fun v w'=>∃ A' c',v=.slice A' (b ++ vaB x).length c'/\RB w w' A' (b ++ vaB x).length c' (b ++ vaB x)) ?_).mono (fun e w' ⟨v,he,A',c',hv,h⟩=>⟨A',c',by rw [he,hv],h⟩)
 refine appB_mk (RB.nil w) h (by show 0+n<=1099511627776; omega) (fun A1 c1 w1 h1=>?_)
 rw [Nat.zero_add,List.nil_append] at h1
 rw [Nat.zero_add]
 refine jnC_mk (loop_rule (fun s u=>∃ (k m:Nat) (A2:Option Addr) (c2:Nat) (l:List UInt8),s=((m:Int),(A2,l.length,c2),())/\RB w u A2 l.length c2 l/\k<=9/\m < 2 ^ (7 * k+1)/\l ++ vaF k m=b ++ vaB x/\l.length+k<=n+9) (fun s _=>s.1.toNat) ?_ _ _ ⟨9,x,A1,c1,b,by rw [hl],by rw [hl]; exact h1,by omega,hx,rfl,by omega⟩)
 rintro s u C ⟨k,m,A2,c2,l,rfl,hr,hk,hm,hlm,hln⟩ hC _
 have hmx:m < 18446744073709551616:=Nat.lt_of_lt_of_le hm (Nat.pow_le_pow_right (n:=2) (by omega) (show 7 * k+1<=64 by omega))
 have e1:IntKind.wrap .u64 (Int.tdiv (m:Int) 128)=((m / 128:Nat):Int):=by
  rw [show Int.tdiv (m:Int) 128=((m / 128:Nat):Int) from tdiv_nat m 128,u64_id (by omega) (by omega)]
 refine vIf_mk (fun g=>?_) (fun g=>?_)
 ·have g:(IntKind.wrap .u64 (Int.tdiv (m:Int) 128)) > 0:=of_decide_eq_true g
  rw [e1] at g
  have hge:¬ m < 128:=by omega
  obtain ⟨j,rfl⟩:∃ j,k=j+1:=by
   cases k with
   | zero=>exfalso; have:m < 2:=hm; omega
   | succ j=>exact ⟨j,rfl⟩
  have e2:Value.int .u8 (IntKind.wrap .u8 (IntKind.wrap .u64 (128+Int.tmod (m:Int) 128)))=bv (UInt8.ofNat (m % 128+128)):=by
   rw [show Int.tmod (m:Int) 128=((m % 128:Nat):Int) from tmod_nat m 128,u64_id (by omega) (by omega),u8_id (by omega) (by omega),show (128:Int)+((m % 128:Nat):Int)=((m % 128+128:Nat):Int) by omega]
   exact bv_of (by omega)
  dsimp only
  rw [e1,e2]
  refine push_mk hr (by omega) (fun A3 c3 w3 h3=>jnC_mk (hC _ _ ⟨j,m / 128,A3,c3,l ++ [UInt8.ofNat (m % 128+128)],?_,?_,by omega,?_,?_,?_⟩ ?_))
  ·rw [List.length_append]; rfl
  ·rw [List.length_append]; exact h3
  ·have hp:2 ^ (7 * (j+1)+1)=128 * 2 ^ (7 * j+1):=by
    rw [show 7 * (j+1)+1=(7 * j+1)+7 by omega,Nat.pow_add]; omega
   rw [hp] at hm
   omega
  ·rw [<- hlm,vaF_hi hge,List.append_assoc]; rfl
  ·rw [List.length_append]; show l.length+1+j<=_; omega
  ·show ((m / 128:Nat):Int).toNat < ((m:Nat):Int).toNat
   omega
 ·have g:¬ (IntKind.wrap .u64 (Int.tdiv (m:Int) 128)) > 0:=of_decide_eq_false g
  rw [e1] at g
  have hlt:m < 128:=by omega
  have e2:Value.int .u8 (IntKind.wrap .u8 (m:Int))=bv (UInt8.ofNat m):=by
   rw [u8_id (by omega) (by omega)]
   exact bv_of (by omega)
  dsimp only
  rw [e2]
  have hv:vaF k m=[UInt8.ofNat m]:=vaF_lo hlt (fun hk=>by subst hk; exact hm)
  rw [hv] at hlm
  refine push_mk hr (by omega) (fun A3 c3 w3 h3=>⟨A3,c3,?_,?_⟩)
  ·rw [<- hlm,List.length_append]; rfl
  ·rw [<- hlm,List.length_append]; exact h3
set_option maxHeartbeats 1000000 in
theorem rtxput_calls (A:Option Addr) (n c:Nat) (b s:List UInt8) (w:World) (h:Sl w 1 A n (b.map bv)) (hn:n<=137438953000) (hs:s.length<=255) :
  Calls Tryz.prog 37 #[.slice A n c,.string ⟨s.toArray⟩] w fun e w'=>∃ A' c',e=.returned (.tuple #[.slice A' (b ++ txB s).length c',.bool true])/\RB w w' A' (b ++ txB s).length c' (b ++ txB s):=by
 have hl:=sl_len h
 have hsz:(⟨s.toArray⟩:ByteArray).size=s.length:=List.size_toArray
 refine (F37.of A n c ⟨s.toArray⟩ w (Q:=fun v w'=>∃ A' c',v=.tuple #[.slice A' (b ++ txB s).length c',.bool true]/\RB w w' A' (b ++ txB s).length c' (b ++ txB s)) ?_).mono (fun e w' ⟨v,he,A',c',hv,h⟩=>⟨A',c',by rw [he,hv],h⟩)
 refine appB_mk (RB.nil w) h (by show 0+n<=1099511627776; omega) (fun A1 c1 w1 h1=>?_)
 rw [Nat.zero_add,List.nil_append] at h1
 rw [Nat.zero_add,hsz]
 refine vIf_f (decide_eq_false (by omega)) ?_
 have e1:Value.int .u8 (IntKind.wrap .u8 ((s.length:Nat):Int))=bv (UInt8.ofNat s.length):=by
  rw [u8_id (by omega) (by omega)]
  exact bv_of (by omega)
 rw [e1]
 refine push_mk h1 (by omega) (fun A2 c2 w2 h2=>?_)
 refine jnC_mk (loop_rule (fun p u=>∃ (i:Nat) (A3:Option Addr) (c3:Nat) (l:List UInt8),p=(⟨s.toArray⟩,(A3,l.length,c3),(i:Int),())/\RB w u A3 l.length c3 l/\i<=s.length/\l=b ++ (UInt8.ofNat s.length :: s.take i)) (fun p _=>(s.length - p.2.2.1).toNat) ?_ _ _ ⟨0,A2,c2,b ++ [UInt8.ofNat s.length],by rw [List.length_append,hl]; rfl,by rw [List.length_append,hl]; exact h2,Nat.zero_le _,rfl⟩)
 rintro p u C ⟨i,A3,c3,l,rfl,hr,hi,hle⟩ hC _
 have hll:l.length=n+1+i:=by rw [hle,List.length_append,List.length_cons,List.length_take]; omega
 refine vIf_mk (fun g=>?_) (fun g=>⟨A3,c3,?_,?_⟩)
 ·have g:(i:Int) < ((⟨s.toArray⟩:ByteArray).size:Int):=of_decide_eq_true g
  rw [hsz] at g
  have hil:i < s.length:=by omega
  have e2:Value.int .u8 (byteAt ⟨s.toArray⟩ ((i:Int)).toNat)=bv s[i]:=by
   rw [Int.toNat_natCast]
   rw [byteAt_eq (show i < (⟨s.toArray⟩:ByteArray).size by rw [hsz]; exact hil)]
   rfl
  refine gd_mk (decide_eq_true (by show (0:Int)<=(i:Int); omega)) (gd_mk (decide_eq_true (by show (i:Int) < ((⟨s.toArray⟩:ByteArray).size:Int); rw [hsz]; exact g)) ?_)
  dsimp only
  rw [e2]
  refine push_mk hr (by omega) (fun A4 c4 w4 h4=>jnC_mk (hC _ _ ⟨i+1,A4,c4,l ++ [s[i]],?_,?_,by omega,?_⟩ ?_))
  ·rw [List.length_append,i64_id (by omega) (by omega)]; rfl
  ·rw [List.length_append]; exact h4
  ·rw [hle,List.append_assoc]
   congr 1
   show UInt8.ofNat s.length :: (s.take i ++ [s[i]])=_
   rw [List.take_add_one,List.getElem?_eq_getElem hil]; rfl
  ·show ((s.length:Int) - IntKind.wrap .i64 ((i:Int)+1)).toNat < ((s.length:Int) - (i:Int)).toNat
   rw [i64_id (by omega) (by omega)]; omega
 ·have g:¬ (i:Int) < ((⟨s.toArray⟩:ByteArray).size:Int):=of_decide_eq_false g
  rw [hsz] at g
  obtain rfl:i=s.length:=by omega
  have:l=b ++ txB s:=by rw [hle,List.take_length]; rfl
  rw [<- this]
 ·have g:¬ (i:Int) < ((⟨s.toArray⟩:ByteArray).size:Int):=of_decide_eq_false g
  rw [hsz] at g
  obtain rfl:i=s.length:=by omega
  have:l=b ++ txB s:=by rw [hle,List.take_length]; rfl
  rw [<- this]
  exact hr
theorem rnum_calls (x:Int) (w:World):Calls Tryz.prog 15 #[.int .i64 x] w fun e w'=>e=.returned (ofL (paC 0 x 0 [] z32))/\Fr (fun _=>False) w w':=by
 refine (F15.of x w (Q:=fun v w'=>v=ofL (paC 0 x 0 [] z32)/\Fr (fun _=>False) w w') ?_).mono (fun e w' ⟨v,he,hv,h⟩=>⟨by rw [he,hv],h⟩)
 refine rec_new (fun b1 w2 f1 hb1 r1=>?_)
 exact ansN_mk (N:=36) (cs:=paC 0 x 0 [] z32) (K:=fun a w1=>ofL a=ofL (paC 0 x 0 [] z32)/\Fr (fun _=>False) w w1) r1 rfl (paC_len z32_len) (paC_one _ _ _ _ _) (fun w' g=>⟨rfl,fr_var f1 hb1 g⟩)
structure Pt where
 k:Int
 N:Int
 S:Nat
 T:List UInt8
 D:List UInt8
abbrev ptV (p:Pt):List Value:=paC p.k p.N p.S p.T p.D
structure PtG (p:Pt):Prop where
 k:p.k=0\/p.k=1\/p.k=2\/p.k=3
 N:0<=p.N/\p.N<=1099511627776
 S:p.S < 18446744073709551616
 T:p.T.length<=255
 D:p.D.length=32
def ptB (p:Pt):List UInt8:=if p.k=0 then vaB p.N.toNat else if p.k=1 then vaB p.S else if p.k=2 then txB p.T else p.D
def psB (l:List Pt):List UInt8:=(l.map ptB).flatten
def psC (l:List Pt):List Value:=(l.map ptV).flatten
theorem psC_app (a b:List Pt):psC (a ++ b)=psC a ++ psC b:=by unfold psC; rw [List.map_append,List.flatten_append]
theorem psB_app (a b:List Pt):psB (a ++ b)=psB a ++ psB b:=by unfold psB; rw [List.map_append,List.flatten_append]
theorem psC_ones (l:List Pt):∀ v ∈ psC l,v.oneCell'=true:=by
 intro v hv
 unfold psC at hv
 obtain ⟨c,hc,hv⟩:=List.mem_flatten.1 hv
 obtain ⟨x,_,rfl⟩:=List.mem_map.1 hc
 exact paC_one _ _ _ _ _ v hv
theorem psC_len:∀ {l:List Pt},(∀ p ∈ l,p.D.length=32)->(psC l).length=l.length * 36
 | [],_=>rfl
 | x :: l,h=>by
  have:=psC_len (l:=l) (fun y hy=>h y (List.mem_cons_of_mem _ hy))
  have hx:(ptV x).length=36:=paC_len (h x List.mem_cons_self)
  unfold psC at this ⊢
  rw [List.map_cons,List.flatten_cons,List.length_append,this,hx,List.length_cons]; omega
theorem psC_get:∀ {l:List Pt},(∀ p ∈ l,p.D.length=32)->∀ {i:Nat} {x:Pt},l[i]?=some x->∀ {j:Nat} {v:Value},(ptV x)[j]?=some v->(psC l)[i * 36+j]?=some v
 | [],_,i,x,hx,_,_,_=>by cases i <;> cases hx
 | y :: l,h,0,x,hx,j,v,hv=>by
  cases hx
  have hj:=(List.getElem?_eq_some_iff.1 hv).1
  show (ptV y ++ psC l)[0 * 36+j]?=_
  rw [Nat.zero_mul,Nat.zero_add,List.getElem?_append_left hj]; exact hv
 | y :: l,h,i+1,x,hx,j,v,hv=>by
  have hy:(ptV y).length=36:=paC_len (h y List.mem_cons_self)
  show (ptV y ++ psC l)[(i+1) * 36+j]?=_
  rw [List.getElem?_append_right (by omega),hy,show (i+1) * 36+j - 36=i * 36+j by omega]
  exact psC_get (fun y hy=>h y (List.mem_cons_of_mem _ hy)) (show l[i]?=some x from hx) hv
theorem vaB_len (n:Nat):(vaB n).length<=10:=by
 have h:∀ k n,(vaF k n).length<=k+1:=by
  intro k
  induction k with
  | zero=>intro n; exact Nat.le_refl _
  | succ k ih =>
   intro n
   unfold vaF
   split
   ·show 1<=_; omega
   ·have:=ih (n / 128)
    show (vaF k (n / 128)).length+1<=_
    omega
 exact h 9 n
theorem ptB_len {p:Pt} (h:PtG p):(ptB p).length<=256:=by
 have hT:=h.T
 have hD:=h.D
 unfold ptB
 split
 ·have:=vaB_len p.N.toNat; omega
 ·split
  ·have:=vaB_len p.S; omega
  ·split
   ·show p.T.length+1<=_; omega
   ·omega
theorem psB_len:∀ {l:List Pt},(∀ p ∈ l,PtG p)->(psB l).length<=256 * l.length
 | [],_=>Nat.le_refl _
 | x :: l,h=>by
  have:=psB_len (l:=l) (fun y hy=>h y (List.mem_cons_of_mem _ hy))
  have hx:=ptB_len (h x List.mem_cons_self)
  show (ptB x ++ psB l).length<=_
  rw [List.length_append,List.length_cons]; omega
def wrB (m:List UInt8) (l:List Pt):List UInt8:=(m ++ psB l) ++ leB (crcS (m ++ psB l)).toNat 4
set_option maxHeartbeats 2000000 in
theorem rwrite_calls (m:List UInt8) (A:Option Addr) (n c:Nat) (l:List Pt) (w:World) (h:Sl w 36 A n (psC l)) (hln:l.length=n) (hg:∀ p ∈ l,PtG p) (h0:∀ p,l[0]?=some p->p.k=0) (hn:n<=16777216) (hm:m.length<=100) :
  Calls Tryz.prog 17 #[.string ⟨m.toArray⟩,.slice A n c] w fun e w'=>∃ A' c',e=.returned (.tuple #[.slice A' (wrB m l).length c',.int .i64 0])/\RB w w' A' (wrB m l).length c' (wrB m l):=by
 have hsz:(⟨m.toArray⟩:ByteArray).size=m.length:=List.size_toArray
 refine (F17.of ⟨m.toArray⟩ A n c w (Q:=fun v w'=>∃ A' c',v=.tuple #[.slice A' (wrB m l).length c',.int .i64 0]/\RB w w' A' (wrB m l).length c' (wrB m l)) ?_).mono (fun e w' ⟨v,he,A',c',hv,h⟩=>⟨A',c',by rw [he,hv],h⟩)
 refine gd_mk (decide_eq_true (by rw [hsz]; omega)) (fun cap hc1 hc2=>?_)
 rw [hsz]
 have fs:Fr (fun _=>False) w (w.drew.alloc (.cells ((⟨m.toArray⟩:ByteArray).data.toList.map bv ++ List.replicate (cap - m.length) (Value.int .u8 0)).toArray 5 (cap,cap+1))):=(Fr.drew _ w).trans1 (Fr.alloc _ _ _)
 have ss:Sl (w.drew.alloc (.cells ((⟨m.toArray⟩:ByteArray).data.toList.map bv ++ List.replicate (cap - m.length) (Value.int .u8 0)).toArray 5 (cap,cap+1))) 1 (some ⟨w.heap.size,0,none⟩) m.length (m.map bv):=by
  refine ⟨by rw [List.length_map,Nat.mul_one],fun _=>⟨w.heap.size,0,rfl,fun j v hj=>?_⟩⟩
  have hb:∀ o:Obj,(w.drew.alloc o).heap[w.heap.size]?=some o:=fun o=>heap_alloc_at w.drew o
  rw [cellAt_blk (hb _),Nat.zero_add]
  have hjl:=(List.getElem?_eq_some_iff.1 hj).1
  simp only [List.getElem?_toArray]
  rw [List.getElem?_append_left (by simpa using hjl)]
  simpa using hj
 generalize hw1:w.drew.alloc (.cells ((⟨m.toArray⟩:ByteArray).data.toList.map bv ++ List.replicate (cap - m.length) (Value.int .u8 0)).toArray 5 (cap,cap+1))=w1 at fs ss ⊢
 have hD:∀ p ∈ l,p.D.length=32:=fun p hp=>(hg p hp).D
 refine jnC_mk (loop_rule (fun s u=>∃ (i:Nat) (A1:Option Addr) (c1:Nat) (b:List UInt8),s=((A,n,c),(A1,b.length,c1),(i:Int),())/\Fr (fun _=>False) w u/\Sl u 1 A1 b.length (b.map bv)/\(i ≠ 0->RB w u A1 b.length c1 b)/\i<=n/\b=m ++ psB (l.take i)) (fun s _=>(n - s.2.2.1).toNat) ?_ _ _ ⟨0,_,cap,m,rfl,fs,ss,(fun h=>absurd rfl h),Nat.zero_le _,by show m=m ++ psB []; show m=m ++ []; rw [List.append_nil]⟩)
 rintro s u C ⟨i,A1,c1,b,rfl,hf,hs,hrb,hi,hb⟩ hC _
 have hbl:b.length<=100+256 * n:=by
  have:=psB_len (l:=l.take i) (fun p hp=>hg p (List.mem_of_mem_take hp))
  rw [hb,List.length_append]
  rw [List.length_take] at this
  omega
 refine vIf_mk (fun g=>?_) (fun g=>?_)
 ·have g':(i:Int) < (n:Int):=of_decide_eq_true g
  have hil:i < l.length:=by omega
  have hx:=List.getElem?_eq_getElem hil
  have hmem:=List.getElem_mem hil
  generalize hX:l[i]=p at hx hmem
  have hp:=hg p hmem
  have hpk:=hp.k
  have hpN:=hp.N
  have hps:=hp.S
  have hpT:=hp.T
  have hpD:=hp.D
  obtain ⟨b0,o0,hA,hc0⟩:=(hf.sl h (fun _ _ _ h=>h)).2 (by omega)
  subst hA
  have z1:decide (0<=(i:Int))=true:=decide_eq_true (by omega)
  have z2:decide ((i:Int) < (n:Int))=true:=decide_eq_true g'
  have hcp:cellsAt u b0 (o0+((i:Int)).toNat * 36) (ptV p):=fun j v hj=>by
   rw [Int.toNat_natCast,Nat.add_assoc]
   exact hc0 _ v (psC_get hD hx hj)
  refine dr_mk (gd_mk z1 (gd_mk z2 ⟨ptV p,paC_len hpD,hcp,var_new (sz:=36) rfl (paC_len hpD) (paC_one _ _ _ _ _) (fun b7 w9 f9 hb7 r7=>?_)⟩))
  have F9:=hf.trans1 f9
  have s9:=f9.sl hs (fun _ _ _ h=>h)
  have nxt:∀ (A':Option Addr) (c':Nat) (u':World) (b':List UInt8),b'=b ++ ptB p->RB w u' A' b'.length c' b'->jnC C ((some ⟨b0,o0,none⟩,n,c),(A',b'.length,c'),IntKind.wrap .i64 ((i:Int)+1),()) u':=by
   intro A' c' u' b' hb' hr
   refine jnC_mk (hC _ _ ⟨i+1,A',c',b',?_,hr.1,hr.sl,fun _=>hr,by omega,?_⟩ ?_)
   ·show (_,_,IntKind.wrap .i64 ((i:Int)+1),())=_
    rw [i64_id (by omega) (by omega)]; rfl
   ·rw [hb',hb,List.append_assoc]
    congr 1
    rw [List.take_add_one,hx,psB_app]
    congr 1
    show ptB p=ptB p ++ []
    rw [List.append_nil]
   ·show ((n:Int) - IntKind.wrap .i64 ((i:Int)+1)).toNat < ((n:Int) - (i:Int)).toNat
    rw [i64_id (by omega) (by omega)]; omega
  refine ⟨p.k,r7.cell (o:=0) rfl,vIf_mk (fun k0=>?_) (fun k0=>vIf_mk (fun k1=>?_) (fun k1=>vIf_mk (fun k2=>?_) (fun k2=>?_)))⟩
  ·have k0:p.k=0:=by simpa using k0
   refine ⟨p.N,r7.cell (o:=1) (pa_N _ _ _ _ _),vIf_f (decide_eq_false (by omega)) ⟨p.N,r7.cell (o:=1) (pa_N _ _ _ _ _),?_⟩⟩
   dsimp only
   rw [u64_id (by omega) (by omega)]
   have eN:p.N=((p.N.toNat:Nat):Int):=by omega
   rw [eN]
   refine (rvaput_calls A1 b.length c1 b p.N.toNat w9 s9 (by omega) (by omega)).mono ?_
   rintro e u2 ⟨A',c',rfl,hr⟩
   exact ⟨A',_,c',rfl,nxt A' c' u2 _ (by unfold ptB; rw [if_pos k0]) (hr.le F9)⟩
  ·have k1:p.k=1:=by simpa using k1
   refine ⟨_,r7.cell (o:=2) (pa_S _ _ _ _ _),(rvaput_calls A1 b.length c1 b p.S w9 s9 (by omega) hps).mono ?_⟩
   rintro e u2 ⟨A',c',rfl,hr⟩
   exact ⟨A',_,c',rfl,nxt A' c' u2 _ (by unfold ptB; rw [if_neg (by omega),if_pos k1]) (hr.le F9)⟩
  ·have k2:p.k=2:=by simpa using k2
   have hTs:(⟨p.T.toArray⟩:ByteArray).size=p.T.length:=List.size_toArray
   refine ⟨_,r7.cell (o:=3) (pa_T _ _ _ _ _),vIf_f (decide_eq_false (by rw [hTs]; omega)) ⟨_,r7.cell (o:=3) (pa_T _ _ _ _ _),(rtxput_calls A1 b.length c1 b p.T w9 s9 (by omega) hpT).mono ?_⟩⟩
   rintro e u2 ⟨A',c',rfl,hr⟩
   exact ⟨A',_,c',_,rfl,nxt A' c' u2 _ (by unfold ptB; rw [if_neg (by omega),if_neg (by omega),if_pos k2]) (hr.le F9)⟩
  ·have k0:¬ p.k=0:=by simpa using k0
   have k1:¬ p.k=1:=by simpa using k1
   have k2:¬ p.k=2:=by simpa using k2
   have hi0:i ≠ 0:=fun e=>by subst e; exact k0 (h0 p hx)
   have hr:=(hrb hi0).fr f9
   have hsD:Sl w9 1 (some ⟨b7,0+4,none⟩) 32 (p.D.map bv):=⟨by rw [List.length_map,hpD],fun _=>⟨b7,0+4,rfl,r7.cells (o:=4) (fun j v hj=>pa_D j v hj)⟩⟩
   have hbd:b.length+32=(b ++ p.D).length:=by rw [List.length_append,hpD]
   refine appB_mk (n:=b.length) hr hsD (by omega) (fun A' c' w' hr'=>?_)
   have:=nxt A' c' w' (b ++ p.D) (by unfold ptB; rw [if_neg k0,if_neg k1,if_neg k2]) (by rw [<- hbd]; exact hr')
   rw [<- hbd] at this
   exact this
 ·have g:¬ (i:Int) < (n:Int):=of_decide_eq_false g
  obtain rfl:i=n:=by omega
  rw [List.take_of_length_le (by omega)] at hb
  refine (rcrc_calls A1 b.length c1 b u hs (by omega)).mono ?_
  rintro e u2 ⟨rfl,f2⟩
  have hcr:=crc_lt b
  refine ⟨_,rfl,?_⟩
  rw [u64_id (by omega) (by omega)]
  refine (rputB_calls A1 b.length c1 b (crcS b).toNat 4 u2 (f2.sl hs (fun _ _ _ h=>h)) (by omega) (by omega) (by omega)).mono ?_
  rintro e u3 ⟨A',c',rfl,hr⟩
  have hw:wrB m l=b ++ leB (crcS b).toNat 4:=by unfold wrB; rw [<- hb]
  have hwl:(wrB m l).length=b.length+4:=by rw [hw,List.length_append,leB_len]
  refine ⟨A',_,c',rfl,A',c',by rw [hwl],?_⟩
  rw [hwl,hw]
  exact hr.le (hf.trans1 f2)
structure RP (w0 w:World) (A:Option Addr) (n c:Nat) (l:List Pt):Prop where
 f:Fr (fun _=>False) w0 w
 row:Row w w0.heap.size 59 36 A n c (psC l)
 len:l.length=n
 d:∀ p ∈ l,p.D.length=32
theorem RP.fr {w0 w w':World} {A:Option Addr} {n c:Nat} {l:List Pt} (h:RP w0 w A n c l) (f:Fr (fun _=>False) w w'):RP w0 w' A n c l:=⟨h.f.trans1 f,f.row h.row (fun _ _ h=>h),h.len,h.d⟩
theorem pushP_mk {w0 w:World} {A:Option Addr} {n c m:Nat} {l l2:List Pt} {K:Option Addr->Nat->Nat->World->Prop} (h:RP w0 w A n c l) (hd:∀ p ∈ l2,p.D.length=32) (hm:l2.length=m) (hn:n+m<=1099511627776)
  (hK:∀ A' c' w',RP w0 w' A' (n+m) c' (l ++ l2)->Fr (fun k=>w0.heap.size<=k/\blkOf A=some k) w w'->(∀ k,blkOf A'=some k->blkOf A=some k\/w.heap.size<=k)->K A' (n+m) c' w'):nw w (psC l2) 59 fun b w1=>app w1 36 72 Z59 59 A n c (.slice (some ⟨b,0,none⟩) m m) K:=by
 have fa:Fr (fun _=>False) w (w.alloc (.cells (psC l2).toArray 59)):=Fr.alloc _ _ _
 have sa:=fa.size
 have hl2:(psC l2).length=m * 36:=by rw [psC_len hd,hm]
 have hx:Sl (w.alloc (.cells (psC l2).toArray 59)) 36 (some ⟨w.heap.size,0,none⟩) m (psC l2):=(Row.new (sz:=36) (n:=m) (B:=0) (Nat.zero_le _) hl2).sl
 have h1:=h.fr fa
 refine nw_mk (app_row2 h1.row hx.src (psC_ones l2) rfl (by show (n+m) * 72<=_; omega) (by omega) h1.f.size (fun A' c' w' hr f hb=>hK A' c' w' ⟨h1.f.trans f (fun _ _ h=>h) (fun k hk hb=>by have:=(h1.row.blt hb).1; omega),?_,by rw [List.length_append,h.len,hm],?_⟩ (fa.trans f (fun _ _ h=>h.elim) (fun k hk e=>⟨(h1.row.blt e).1,e⟩)) (fun k hk=>(hb k hk).elim .inl (fun g=>.inr (by omega)))))
 ·rw [psC_app]; exact hr
 ·intro x hx'
  rcases List.mem_append.1 hx' with g | g
  ·exact h.d x g
  ·exact hd x g
def nuPt (x:Int):Pt:=⟨0,x,0,[],z32⟩
def sePt (s:Nat):Pt:=⟨1,0,s,[],z32⟩
def txPt (s:List UInt8):Pt:=⟨2,0,0,s,z32⟩
def dgPt (d:List UInt8):Pt:=⟨3,0,0,[],d⟩
def wdPt (x:Wo):List Pt:=[nuPt x.k,sePt x.sq] ++ ((if ofD x.k then [dgPt x.d] else []) ++ ((if ofN x.k then [txPt x.nm] else []) ++ ((if ofZ x.k then [nuPt x.z] else []) ++ [nuPt x.o,nuPt x.q])))
theorem wdPt_len (x:Wo):(wdPt x).length<=7:=by
 unfold wdPt
 simp only [List.length_append]
 have h1:(if ofD x.k then [dgPt x.d] else []).length<=1:=by split <;> simp
 have h2:(if ofN x.k then [txPt x.nm] else []).length<=1:=by split <;> simp
 have h3:(if ofZ x.k then [nuPt x.z] else []).length<=1:=by split <;> simp
 simp only [List.length_cons,List.length_nil]
 omega
theorem psB_wd (x:Wo):psB (wdPt x)=wdB x:=by
 unfold wdPt wdB
 rw [psB_app,psB_app,psB_app,psB_app]
 have e0:psB [nuPt x.k,sePt x.sq]=vaB x.k.toNat ++ vaB x.sq:=by
  show vaB x.k.toNat ++ (vaB x.sq ++ [])=_
  rw [List.append_nil]
 have e1:psB (if ofD x.k then [dgPt x.d] else [])=if ofD x.k then x.d else []:=by
  split
  ·show x.d ++ []=_
   rw [List.append_nil]
  ·rfl
 have e2:psB (if ofN x.k then [txPt x.nm] else [])=if ofN x.k then txB x.nm else []:=by
  split
  ·show txB x.nm ++ []=_
   rw [List.append_nil]
  ·rfl
 have e3:psB (if ofZ x.k then [nuPt x.z] else [])=if ofZ x.k then vaB x.z.toNat else []:=by
  split
  ·show vaB x.z.toNat ++ []=_
   rw [List.append_nil]
  ·rfl
 have e4:psB [nuPt x.o,nuPt x.q]=vaB x.o.toNat ++ vaB x.q.toNat:=by
  show vaB x.o.toNat ++ (vaB x.q.toNat ++ [])=_
  rw [List.append_nil]
 rw [e0,e1,e2,e3,e4,List.append_assoc]
def hiPt (l:List Wo) (n size:Int) (seq:Nat):List Pt:=[nuPt n,nuPt size,sePt seq,nuPt (l.length:Int)] ++ (l.map wdPt).flatten
theorem psB_wds:∀ l:List Wo,psB (l.map wdPt).flatten=wdsB l
 | []=>rfl
 | x :: l=>by
  show psB (wdPt x ++ (l.map wdPt).flatten)=wdB x ++ wdsB l
  rw [psB_app,psB_wd,psB_wds l]
theorem wrB_hi (l:List Wo) (n size seq:Nat):wrB mgH (hiPt l n size seq)=hiB l n size seq:=by
 have e:psB (hiPt l n size seq)=vaB n ++ (vaB size ++ (vaB seq ++ (vaB l.length ++ wdsB l))):=by
  unfold hiPt
  rw [psB_app,psB_wds]
  show (vaB (n:Int).toNat ++ (vaB (size:Int).toNat ++ (vaB seq ++ (vaB (l.length:Int).toNat ++ [])))) ++ wdsB l=_
  rw [List.append_nil,Int.toNat_natCast,Int.toNat_natCast,Int.toNat_natCast]
  simp only [List.append_assoc]
 unfold wrB hiB hbB
 rw [e]
theorem wdPt_g {x:Wo} {n:Int} (h:RgW x n) (hs:x.sq < 18446744073709551616) (hd:x.d.length=32):∀ p ∈ wdPt x,PtG p:=by
 have hk:=h.k
 have ho:=h.o
 have hq:=h.q
 have hz:=h.z
 have gN:∀ y:Int,0<=y/\y<=1048576->PtG (nuPt y):=fun y hy=>⟨.inl rfl,⟨hy.1,by show y<=_; omega⟩,by show 0 < _; omega,Nat.zero_le _,z32_len⟩
 intro p hp
 unfold wdPt at hp
 rcases List.mem_append.1 hp with g | g
 ·simp only [List.mem_cons,List.not_mem_nil,or_false] at g
  rcases g with rfl | rfl
  ·exact gN _ (by omega)
  ·exact ⟨.inr (.inl rfl),⟨by show (0:Int)<=0; omega,by show (0:Int)<=_; omega⟩,hs,Nat.zero_le _,z32_len⟩
 ·rcases List.mem_append.1 g with g | g
  ·split at g
   ·simp at g; subst g
    exact ⟨.inr (.inr (.inr rfl)),⟨by show (0:Int)<=0; omega,by show (0:Int)<=_; omega⟩,by show 0 < _; omega,Nat.zero_le _,hd⟩
   ·cases g
  ·rcases List.mem_append.1 g with g | g
   ·split at g
    ·rename_i hN
     simp at g; subst g
     have ht:=(h.nm hN).2.2
     have hl:(⟨x.nm.toArray⟩:ByteArray).size=x.nm.length:=List.size_toArray
     exact ⟨.inr (.inr (.inl rfl)),⟨by show (0:Int)<=0; omega,by show (0:Int)<=_; omega⟩,by show 0 < _; omega,by show x.nm.length<=255; omega,z32_len⟩
    ·cases g
   ·rcases List.mem_append.1 g with g | g
    ·split at g
     ·simp at g; subst g
      exact gN _ hz
     ·cases g
    ·simp only [List.mem_cons,List.not_mem_nil,or_false] at g
     rcases g with rfl | rfl
     ·exact gN _ ho
     ·exact gN _ hq
abbrev WrW (l:List Wo):Prop:=∀ x ∈ l,x.sq < 18446744073709551616/\x.d.length=32
abbrev MkA (w w':World) (v:Value) (l:List Wo) (n size:Int) (seq:Nat):Prop :=
 (v=.tuple #[.slice none 0 0,.int .i64 2]/\Fr (fun _=>False) w w')\/(∃ A' c',v=.tuple #[.slice A' (hiB l n.toNat size.toNat seq).length c',.int .i64 0]/\RB w w' A' (hiB l n.toNat size.toNat seq).length c' (hiB l n.toNat size.toNat seq)/\(0<=n/\n<=99999999)/\(0<=size/\size<=1048576)/\l.length<=1048576/\∀ x ∈ l,RgW x n)
set_option maxHeartbeats 4000000 in
theorem rmake24_calls (A:Option Addr) (m c:Nat) (l:List Wo) (n size:Int) (seq:Nat) (w:World) (h:SW w A m l) (hsm:SmW l) (hgd:WrW l) (hm:m<=1099511627776) (hq:seq < 18446744073709551616) :
  Calls Tryz.prog 5 #[.slice A m c,.int .i64 n,.int .i64 size,.int .u64 (seq:Nat)] w fun e w'=>∃ v,e=.returned v/\MkA w w' v l n size seq:=by
 refine F5.of A m c n size seq w (Q:=fun v w'=>MkA w w' v l n size seq) ?_
 have hl:=h.len
 refine (rright24_calls A m c l n w h hsm hm).mono ?_
 rintro e w1 ⟨⟨t,rfl,ht⟩,f1⟩
 have bad:MkA w w1 (.tuple #[.slice none 0 0,.int .i64 2]) l n size seq:=.inl ⟨rfl,f1⟩
 refine ⟨t,rfl,vIf_mk (fun _=>bad) (fun g0=>vIf_mk (fun _=>bad) (fun g1=>vIf_mk (fun _=>bad) (fun g2=>vIf_mk (fun _=>bad) (fun g3=>vIf_mk (fun _=>bad) (fun g4=>vIf_mk (fun _=>bad) (fun g5=>jnC_mk (fun _=>?_)))))))⟩
 have hR:∀ x ∈ l,RgW x n:=ht.1 (by cases t <;> simp_all)
 have g1:¬ n < 0:=of_decide_eq_false g1
 have g2:¬ n > 99999999:=of_decide_eq_false g2
 have g3:¬ size < 0:=of_decide_eq_false g3
 have g4:¬ size > 1048576:=of_decide_eq_false g4
 have g5:¬ (m:Int) > 1048576:=of_decide_eq_false g5
 refine (rnum_calls n w1).mono ?_
 rintro e w4 ⟨rfl,f4⟩
 refine ⟨_,rfl,(rnum_calls size w4).mono ?_⟩
 rintro e w7 ⟨rfl,f7⟩
 refine ⟨_,rfl,(rnum_calls (m:Int) w7).mono ?_⟩
 rintro e w10 ⟨rfl,f10⟩
 have F10:=((f1.trans1 f4).trans1 f7).trans1 f10
 have hlm:(m:Int)=(l.length:Int):=by omega
 let P0:List Pt:=[nuPt n,nuPt size,sePt seq,nuPt (l.length:Int)]
 have hP0:∀ p ∈ P0,p.D.length=32:=by
  intro p hp
  have hp:p ∈ [nuPt n,nuPt size,sePt seq,nuPt (l.length:Int)]:=hp
  simp only [List.mem_cons,List.not_mem_nil,or_false] at hp
  rcases hp with rfl | rfl | rfl | rfl <;> exact z32_len
 rw [hlm]
 have lay:∀ (K:Nat->World->Prop),(∀ b w',w'=w10.alloc (.cells (psC P0).toArray 59)->b=w10.heap.size->K b w')->nw w10 (psC P0) 59 K:=fun K hK=>nw_mk (hK _ _ rfl rfl)
 refine ⟨_,rfl,gd_mk rfl (gd_mk rfl (gd_mk rfl (gd_mk rfl (lay _ (fun b13 w14 hw14 hb13=>?_)))))⟩
 have s10:=F10.size
 have hRP:RP w w14 (some ⟨b13,0,none⟩) 4 4 P0:=by
  subst hw14 hb13
  exact ⟨F10.trans1 (Fr.alloc _ _ _),Row.new s10 (psC_len hP0),rfl,hP0⟩
 refine jnC_mk (loop_rule (fun s u=>∃ (i:Nat) (A1:Option Addr) (c1:Nat) (ps:List Pt),s=((A,m,c),(A1,ps.length,c1),(i:Int),())/\RP w u A1 ps.length c1 ps/\i<=m/\ps=P0 ++ ((l.take i).map wdPt).flatten/\ps.length<=4+7 * i) (fun s _=>(m - s.2.2.1).toNat) ?_ _ _ ⟨0,_,4,P0,rfl,hRP,Nat.zero_le _,by simp,Nat.le_refl _⟩)
 clear hRP hw14 hb13
 rintro s u C ⟨i,A1,c1,ps,rfl,hr,hi,hps,hpl⟩ hC _
 refine vIf_mk (fun g=>?_) (fun g=>?_)
 ·have g':(i:Int) < (m:Int):=of_decide_eq_true g
  have hil:i < l.length:=by omega
  have hx:=List.getElem?_eq_getElem hil
  obtain ⟨b0,o0,hA,hc0⟩:=(h.fr hr.f).get hx
  have hmem:=List.getElem_mem hil
  generalize hX:l[i]=x at hx hc0 hmem
  have hd:=h.d _ hmem
  have hRx:=hR _ hmem
  have hkx:=hRx.k
  subst hA
  have z1:decide (0<=(i:Int))=true:=decide_eq_true (by omega)
  have z2:decide ((i:Int) < (m:Int))=true:=decide_eq_true g'
  have hc0':cellsAt u b0 (o0+((i:Int)).toNat * 39) (woC x):=hc0
  refine dr_mk (gd_mk z1 (gd_mk z2 ⟨woC x,woC_len hd,hc0',var_new (sz:=39) rfl (woC_len hd) (woC_one x) (fun b18 u1 fu1 hb18 r18=>⟨_,r18.cell (o:=0) (wo_k x),(rhas_calls x.k u1).mono ?_⟩)⟩))
  rintro e u2 ⟨⟨td,tm,tz,rfl,hth⟩,hu2⟩
  obtain rfl:u1=u2:=hu2
  obtain ⟨rfl,rfl,rfl⟩:=hth (by omega) (by omega)
  have fd:Fr (fun _=>False) u1 u1.drew:=Fr.drew _ _
  have r18:=r18.fr fd (fun h=>h)
  have hr:=(hr.fr fu1).fr fd
  have hn18:blkOf A1 ≠ some b18:=fun e=>by
   have:=(hr.row.blt e).1
   have hlt:∀ k,blkOf A1=some k->k < u.heap.size:=fun k hk=>by
    have q:RP w u A1 ps.length c1 ps:=by assumption
    exact (q.row.blt hk).2
   have:=hlt _ e
   omega
  refine ⟨_,_,_,rfl,_,r18.cell (o:=0) (wo_k x),_,r18.cell (o:=1) (wo_sq x),(rnum_calls x.k u1.drew).mono ?_⟩
  rintro e u3 ⟨rfl,f3⟩
  have r18':=r18.fr f3 (fun h=>h)
  have hr:=hr.fr f3
  refine ⟨_,rfl,kp_mk f3 r18.lt (fun h=>h) (gd_mk rfl (gd_mk rfl ?_))⟩
  have cD:∀ u:World,RecAt u b18 56 (woC x)->cellsAt u b18 2 (x.d.map bv):=fun u q=>q.cells (o:=2) (fun j v hj=>wo_d hd j v hj)
  have kF:∀ {A':Option Addr} {u u':World},RecAt u b18 56 (woC x)->blkOf A' ≠ some b18->Fr (fun k=>w.heap.size<=k/\blkOf A'=some k) u u'->RecAt u' b18 56 (woC x):=fun q hn f=>q.fr f (fun h=>hn h.2)
  have pre:ps ++ wdPt x=P0 ++ ((l.take (i+1)).map wdPt).flatten:=by
   rw [hps,List.append_assoc]
   congr 1
   rw [List.take_add_one,hx,List.map_append,List.flatten_append]
   congr 1
   show wdPt x=wdPt x ++ []
   rw [List.append_nil]
  have hwl:=wdPt_len x
  have k16:∀ (u:World) (A2:Option Addr) (c2:Nat) (qs:List Pt),RP w u A2 qs.length c2 qs->RecAt u b18 56 (woC x)->blkOf A2 ≠ some b18->qs.length<=ps.length+5->qs ++ [nuPt x.o,nuPt x.q]=ps ++ wdPt x->jnC (F5.k16 (fun v w'=>MkA w w' v l n size seq) C) ((some ⟨b0,o0,none⟩,m,c),(A2,qs.length,c2),(i:Int),(b18,0),()) u:=by
   intro u A2 c2 qs hr q18 hn2 hql hqe
   have fd:Fr (fun _=>False) u u.drew:=Fr.drew _ _
   have q18:=q18.fr fd (fun h=>h)
   refine jnC_mk (fun _=>⟨_,q18.cell (o:=37) (wo_o hd),_,q18.cell (o:=38) (wo_q hd),(rnum_calls x.o u.drew).mono ?_⟩)
   rintro e u4 ⟨rfl,f4⟩
   refine ⟨_,rfl,kp_mk f4 q18.lt (fun h=>h) ((rnum_calls x.q u4).mono ?_)⟩
   rintro e u5 ⟨rfl,f5⟩
   have hr:=((hr.fr fd).fr f4).fr f5
   refine ⟨_,rfl,gd_mk rfl (gd_mk rfl (pushP_mk (m:=2) (l2:=[nuPt x.o,nuPt x.q]) hr (fun p hp=>?_) rfl (by show qs.length+2<=_; omega) (fun A6 c6 u6 hr6 f6 hb6=>jnC_mk (hC _ _ ⟨i+1,A6,c6,ps ++ wdPt x,?_,?_,by omega,pre,?_⟩ ?_))))⟩
   ·simp only [List.mem_cons,List.not_mem_nil,or_false] at hp
    rcases hp with rfl | rfl <;> exact z32_len
   ·show (_,(A6,qs.length+2,c6),IntKind.wrap .i64 ((i:Int)+1),())=_
    rw [i64_id (by omega) (by omega),<- hqe,List.length_append]; rfl
   ·rw [<- hqe,List.length_append]; exact hr6
   ·rw [List.length_append]; omega
   ·show ((m:Int) - IntKind.wrap .i64 ((i:Int)+1)).toNat < ((m:Int) - (i:Int)).toNat
    rw [i64_id (by omega) (by omega)]; omega
  have k14:∀ (u:World) (A2:Option Addr) (c2:Nat) (qs:List Pt),RP w u A2 qs.length c2 qs->RecAt u b18 56 (woC x)->blkOf A2 ≠ some b18->qs.length<=ps.length+4->qs ++ ((if ofZ x.k then [nuPt x.z] else []) ++ [nuPt x.o,nuPt x.q])=ps ++ wdPt x->jnC (F5.k14 (fun v w'=>MkA w w' v l n size seq) C) ((some ⟨b0,o0,none⟩,m,c),(A2,qs.length,c2),(i:Int),(b18,0),decide (ofZ x.k),()) u:=by
   intro u A2 c2 qs hr q18 hn2 hql hqe
   refine jnC_mk (fun _=>vIf_mk (fun hZ=>⟨_,q18.cell (o:=35) (wo_z hd),(rnum_calls x.z u).mono ?_⟩) (fun hZ=>k16 u A2 c2 qs hr q18 hn2 (by omega) ?_))
   ·have hZ:=of_decide_eq_true hZ
    rw [if_pos hZ] at hqe
    rintro e u4 ⟨rfl,f4⟩
    have q18:=q18.fr f4 (fun h=>h)
    have l18:=q18.lt
    refine ⟨_,rfl,gd_mk rfl (pushP_mk (m:=1) (l2:=[nuPt x.z]) (hr.fr f4) (fun p hp=>by simp at hp; subst hp; exact z32_len) rfl (by show qs.length+1<=_; omega) (fun A6 c6 u6 hr6 f6 hb6=>?_))⟩
    have e1:qs.length+1=(qs ++ [nuPt x.z]).length:=by rw [List.length_append]; rfl
    have:=k16 u6 A6 c6 (qs ++ [nuPt x.z]) (by rw [<- e1]; exact hr6) (kF q18 hn2 f6) (fun e=>(hb6 _ e).elim hn2 (fun h=>by omega)) (by rw [<- e1]; omega) (by rw [<- hqe,List.append_assoc])
    rw [<- e1] at this
    exact this
   ·have hZ:=of_decide_eq_false hZ
    rw [if_neg hZ] at hqe
    exact hqe
  have k12:∀ (u:World) (A2:Option Addr) (c2:Nat) (qs:List Pt),RP w u A2 qs.length c2 qs->RecAt u b18 56 (woC x)->blkOf A2 ≠ some b18->qs.length<=ps.length+3->qs ++ ((if ofN x.k then [txPt x.nm] else []) ++ ((if ofZ x.k then [nuPt x.z] else []) ++ [nuPt x.o,nuPt x.q]))=ps ++ wdPt x->jnC (F5.k12 (fun v w'=>MkA w w' v l n size seq) C) ((some ⟨b0,o0,none⟩,m,c),(A2,qs.length,c2),(i:Int),(b18,0),decide (ofN x.k),decide (ofZ x.k),()) u:=by
   intro u A2 c2 qs hr q18 hn2 hql hqe
   refine jnC_mk (fun _=>vIf_mk (fun hN=>⟨_,q18.cell (o:=34) (wo_nm hd),gd_mk rfl (pushP_mk (m:=1) (l2:=[txPt x.nm]) hr (fun p hp=>by simp at hp; subst hp; exact z32_len) rfl (by show qs.length+1<=_; omega) (fun A6 c6 u6 hr6 f6 hb6=>?_))⟩) (fun hN=>k14 u A2 c2 qs hr q18 hn2 (by omega) ?_))
   ·have hN:=of_decide_eq_true hN
    rw [if_pos hN] at hqe
    have l18:=q18.lt
    have e1:qs.length+1=(qs ++ [txPt x.nm]).length:=by rw [List.length_append]; rfl
    have:=k14 u6 A6 c6 (qs ++ [txPt x.nm]) (by rw [<- e1]; exact hr6) (kF q18 hn2 f6) (fun e=>(hb6 _ e).elim hn2 (fun h=>by omega)) (by rw [<- e1]; omega) (by rw [<- hqe,List.append_assoc])
    rw [<- e1] at this
    exact this
   ·have hN:=of_decide_eq_false hN
    rw [if_neg hN] at hqe
    exact hqe
  have l18:=r18'.lt
  refine pushP_mk (m:=2) (l2:=[nuPt x.k,sePt x.sq]) hr (fun p hp=>?_) rfl (by show ps.length+2<=_; omega) (fun A6 c6 u6 hr6 f6 hb6=>?_)
  ·simp only [List.mem_cons,List.not_mem_nil,or_false] at hp
   rcases hp with rfl | rfl <;> exact z32_len
  have q6:=kF r18' hn18 f6
  have n6:blkOf A6 ≠ some b18:=fun e=>(hb6 _ e).elim hn18 (fun h=>by omega)
  have e1:ps.length+2=(ps ++ [nuPt x.k,sePt x.sq]).length:=by rw [List.length_append]; rfl
  refine vIf_mk (fun hD=>?_) (fun hD=>?_)
  ·have hD:=of_decide_eq_true hD
   have l6:=q6.lt
   refine ⟨x.d.map bv,by rw [List.length_map,hd],cD _ q6,gd_mk (by rw [List.length_map,hd]; rfl) ?_⟩
   rw [List.append_nil (x.d.map bv)]
   refine gd_mk (by show (paC 3 0 0 [] x.d).length == 36; rw [paC_len hd]; rfl) (pushP_mk (m:=1) (l2:=[dgPt x.d]) hr6 (fun p hp=>by simp at hp; subst hp; exact hd) rfl (by show ps.length+2+1<=_; omega) (fun A7 c7 u7 hr7 f7 hb7=>?_))
   have e2:ps.length+2+1=(ps ++ [nuPt x.k,sePt x.sq] ++ [dgPt x.d]).length:=by rw [List.length_append,<- e1]; rfl
   have:=k12 u7 A7 c7 (ps ++ [nuPt x.k,sePt x.sq] ++ [dgPt x.d]) (by rw [<- e2]; exact hr7) (kF q6 n6 f7) (fun e=>(hb7 _ e).elim n6 (fun h=>by omega)) (by rw [<- e2]; omega) (by unfold wdPt; rw [if_pos hD]; simp only [List.append_assoc])
   rw [<- e2] at this
   exact this
  ·have hD:=of_decide_eq_false hD
   have:=k12 u6 A6 c6 (ps ++ [nuPt x.k,sePt x.sq]) (by rw [<- e1]; exact hr6) q6 n6 (by rw [<- e1]; omega) (by unfold wdPt; rw [if_neg hD]; simp only [List.append_assoc,List.nil_append])
   rw [<- e1] at this
   exact this
 ·have g:¬ (i:Int) < (m:Int):=of_decide_eq_false g
  obtain rfl:i=m:=by omega
  rw [List.take_of_length_le (by omega)] at hps
  have en:n=((n.toNat:Nat):Int):=by omega
  have es:size=((size.toNat:Nat):Int):=by omega
  have hpe:ps=hiPt l n.toNat size.toNat seq:=by
   rw [hps]
   unfold hiPt
   rw [<- en,<- es]
  have gN:∀ y:Int,0<=y/\y<=1099511627776->PtG (nuPt y):=fun y hy=>⟨.inl rfl,hy,by show 0 < _; omega,Nat.zero_le _,z32_len⟩
  have hg:∀ p ∈ ps,PtG p:=by
   intro p hp
   rw [hps] at hp
   rcases List.mem_append.1 hp with q | q
   ·have q:p ∈ [nuPt n,nuPt size,sePt seq,nuPt (l.length:Int)]:=q
    simp only [List.mem_cons,List.not_mem_nil,or_false] at q
    rcases q with rfl | rfl | rfl | rfl
    ·exact gN _ (by omega)
    ·exact gN _ (by omega)
    ·exact ⟨.inr (.inl rfl),⟨by show (0:Int)<=0; omega,by show (0:Int)<=_; omega⟩,hq,Nat.zero_le _,z32_len⟩
    ·exact gN _ (by omega)
   ·obtain ⟨r,hr1,hr2⟩:=List.mem_flatten.1 q
    obtain ⟨x,hx1,rfl⟩:=List.mem_map.1 hr1
    exact wdPt_g (hR x hx1) (hgd x hx1).1 (hgd x hx1).2 p hr2
  refine (rwrite_calls mgH A1 ps.length c1 ps u hr.row.sl rfl hg (fun p hp=>?_) (by omega) (by decide)).mono ?_
  ·rw [hps] at hp
   cases hp
   rfl
  ·rintro e u2 ⟨A',c',rfl,hb⟩
   rw [hpe,wrB_hi] at hb ⊢
   exact ⟨A',_,c',0,rfl,.inr ⟨A',c',rfl,hb.le (by rw [hpe] at hr; exact hr.f),by omega,by omega,by omega,hR⟩⟩
end Go.Proofs.YtodmachaofepkaaGreatDoor
namespace Go.Proofs.YtodmachaofepkaaGreatDoor
open Go.GV
theorem recP_nm {b:List UInt8} {at_:Int} (h:(recP b at_).2.2=0):(recP b at_).1.nm.length<=255:=by
 unfold recP at h ⊢
 by_cases h0:(frP b at_).e=0
 ·rw [if_neg (fun g=>g h0)] at h ⊢
  cases hr:rdR (frP b at_).k (frP b at_).sq (frP b at_).d with
  | none=>rw [hr] at h; cases h
  | some x =>
   rw [hr] at h
   dsimp only at h ⊢
   by_cases hg:rgR x=0
   ·rw [if_neg (fun g=>g hg)] at h ⊢
    exact (rdR_nm hr).1
   ·rw [if_pos hg] at h
    exact absurd h hg
 ·rw [if_pos h0] at h
  exact absurd h h0
theorem wdR_nm {x:Rc} (h:x.nm.length<=255) (s o q:Int):(wdR x s o q).nm.length<=255:=by
 unfold wdR
 split
 ·exact Nat.zero_le _
 ·split
  ·exact Nat.zero_le _
  ·split
   ·exact h
   ·split
    ·exact h
    ·split <;> exact Nat.zero_le _
abbrev NdW (l:List Wo):Prop:=∀ x ∈ l,(x.sq < 18446744073709551616/\x.d.length=32)/\x.nm.length<=255
theorem NdW.app {a b:List Wo} (h:NdW a) (g:NdW b):NdW (a ++ b):=fun x hx=>(List.mem_append.1 hx).elim (h x) (g x)
theorem baG_nd (seg:Int) (b:List UInt8) (from_:Int):∀ (f:Nat) (at_:Int) (out:List Wo) (last:Nat),NdW out->NdW (baG seg b from_ f at_ out last).1
 | 0,_,_,_,_=>fun x hx=>by cases hx
 | f+1,at_,out,last,h=>by
  have hE:∀ e:Int,NdW (baE e).1:=fun e x hx=>by cases hx
  unfold baG
  by_cases h0:(recP b at_).2.2=0
  ·rw [if_neg (fun g=>g h0)]
   have hr:=recP_in h0
   split
   ·exact hE 3
   ·split
    ·refine baG_nd seg b from_ f _ _ _ (h.app (fun x hx=>?_))
     simp at hx
     subst hx
     exact ⟨⟨by rw [wdR_sq]; exact hr.sq,wdR_len hr.d _ _ _⟩,wdR_nm (recP_nm h0) _ _ _⟩
    ·split
     ·exact h
     ·exact hE 3
  ·rw [if_pos h0]
   exact hE _
structure ScN (s:Sn):Prop where
 sq:s.sq < 18446744073709551616
 ws:NdW s.ws
theorem scG_nd (b:List UInt8) (n:Int):∀ (f:Nat) (s:Sn),ScN s->ScN (scG b n f s)
 | 0,s,h=>h
 | f+1,s,h=>by
  unfold scG
  split
  ·split
   ·unfold ftP
    split
    ·exact ⟨h.1,h.2⟩
    ·rename_i g2
     have hr:RokP b s.e (recP b s.e).1 (recP b s.e).2.1:=recP_in (Decidable.byContradiction (fun q=>g2 (.inl q)))
     split
     ·exact ⟨h.1,h.2⟩
     ·exact ⟨hr.sq,h.2⟩
   ·split
    ·rename_i g2
     unfold btP at g2 ⊢
     split
     ·exact ⟨h.1,h.2⟩
     ·rename_i g3
      rw [if_neg g3] at g2
      split
      ·exact ⟨h.1,h.2⟩
      ·rename_i g4
       rw [if_neg g4] at g2; cases g2
    ·rename_i g2
     have hlt:=btP_lt (by simpa using g2)
     have hbk:=baP_in hlt.2.2
     have he:(btP b n s).1={ s with ws:=s.ws ++ (baP n b s.e).1,sq:=(baP n b s.e).2.2.1,e:=(baP n b s.e).2.1,a:=(baP n b s.e).2.1 }:=by
      unfold btP at g2 ⊢
      rw [if_neg (fun h=>h hlt.2.2)] at g2 ⊢
      by_cases g3:hdS (baP n b s.e).1<=s.sq
      ·rw [if_pos g3] at g2; exact absurd rfl g2
      ·rw [if_neg g3]
     rw [he]
     exact scG_nd b n f _ ⟨hbk.sq,h.2.app (baG_nd n b s.e _ _ _ _ (fun x hx=>by cases hx))⟩
  ·exact h
theorem scP_nd (b:List UInt8) (n:Int):ScN (scP b n):=by
 have hb:ScN (bgP b n):=by
  unfold bgP
  split
  ·exact ⟨by show 0 < _; omega,fun x hx=>by cases hx⟩
  ·rename_i h0
   have hr:RokP b 0 (recP b 0).1 (recP b 0).2.1:=recP_in (Decidable.byContradiction (fun q=>h0 q))
   split
   ·exact ⟨by show 0 < _; omega,fun x hx=>by cases hx⟩
   ·exact ⟨hr.sq,fun x hx=>by cases hx⟩
 unfold scP
 split
 ·exact hb
 ·exact scG_nd b n _ _ hb
theorem digs_rg:∀ (k n:Nat) (x:UInt8),x ∈ Nm8.digs k n->48<=x.toNat/\x.toNat<=57
 | 0,_,x,h=>by cases h
 | k+1,n,x,h=>by
  rcases List.mem_append.1 h with g | g
  ·exact digs_rg k _ x g
  ·simp at g; subst g
   rw [Nm8.dg_nat]; omega
theorem bs_inj {a b:List UInt8} (h:Nm8.bs a=Nm8.bs b):a=b:=by
 have:=congrArg (fun s=>s.data.toList) h
 simpa [Nm8.bs_list] using this
theorem bs_disk {l:List UInt8} (h1:1<=l.length) (h2:l.length<=32) (h:∀ x ∈ l,33<=x.toNat/\x.toNat<=126/\x.toNat ≠ 47):DiskP (Nm8.bs l):=by
 refine ⟨fun i hi=>?_,by rw [Nm8.bs_size]; exact h1,by rw [Nm8.bs_size]; exact h2⟩
 rw [Nm8.bs_size] at hi
 unfold byteAt
 rw [Nm8.bs_list,List.getD_eq_getElem?_getD,List.getElem?_eq_getElem hi,Option.getD_some]
 obtain ⟨g1,g2,g3⟩:=h _ (List.getElem_mem hi)
 refine ⟨by omega,by omega,fun g=>g3 (by omega)⟩
theorem file_disk {k n:Int} (h:Nm8.good k n) (hk:k=1\/k=2):DiskP (Nm8.bs (Nm8.fileL k n)):=by
 rw [Nm8.fileL_good h]
 have hw:(Nm8.wl k).length<=5/\∀ x ∈ Nm8.wl k,33<=x.toNat/\x.toNat<=126/\x.toNat ≠ 47:=by
  rcases hk with rfl | rfl <;> decide
 have hd:=Nm8.digs_len 8 n.toNat
 refine bs_disk (by rw [List.length_append]; omega) (by rw [List.length_append]; omega) (fun x hx=>?_)
 rcases List.mem_append.1 hx with g | g
 ·exact hw.2 x g
 ·have:=digs_rg _ _ x g
  omega
theorem seg_hin {n:Int} (h1:1<=n) (h9:n<=99999999):DiskP (segF n)/\DiskP (hinF n)/\segF n ≠ hinF n:=by
 have g1:Nm8.good 1 n:=⟨by omega,by omega,h1,h9⟩
 have g2:Nm8.good 2 n:=⟨by omega,by omega,h1,h9⟩
 refine ⟨file_disk g1 (.inl rfl),file_disk g2 (.inr rfl),fun h=>?_⟩
 have:=(Nm8.fileL_inj g1 g2 (bs_inj h)).1
 cases this
theorem lod_two {N1 N2:ByteArray} {B1 B2:List UInt8} (h1:DiskP N1) (h2:DiskP N2) (h:N1 ≠ N2) (hb1:B1.length<=1048576) (hb2:B2.length<=1048576) :
  lodF 16777216 1000 [(N1,B1),(N2,B2)]={ newD 16777216 1000 with last:=2,F:=⟨[(N1,1),(N2,2)],[]⟩,f:=updF (updF (fun _=>zI) 1 ⟨B1,[]⟩) 2 ⟨B2,[]⟩ }:=by
 have hn:nowF (newD 16777216 1000).F=[]:=by rw [nowF_nil rfl]; rfl
 have e1:lodS (newD 16777216 1000) (N1,B1)={ newD 16777216 1000 with last:=1,F:=⟨[(N1,1)],[]⟩,f:=updF (fun _=>zI) 1 ⟨B1,[]⟩ }:=by
  unfold lodS
  rw [if_neg]
  ·rfl
  ·rintro (h | h | h)
   ·have h:(findN N1 (nowF (newD 16777216 1000).F)).isSome=true:=h
    rw [hn] at h; cases h
   ·exact h h1
   ·have h:B1.length > 1048576:=h
    omega
 show lodS (lodS (newD 16777216 1000) (N1,B1)) (N2,B2)=_
 rw [e1]
 unfold lodS
 rw [if_neg]
 ·rfl
 ·rintro (g | g | g)
  ·have g:(findN N2 (nowF (⟨[(N1,1)],[]⟩:Fo))).isSome=true:=g
   rw [nowF_nil rfl,lastN_find] at g
   have g:(if N1=N2 then some (1:Int) else none).isSome=true:=g
   rw [if_neg h] at g; cases g
  ·exact g h2
  ·have g:B2.length > 1048576:=g
   omega
theorem look_two {N1 N2:ByteArray} {B1 B2:List UInt8} (h1:DiskP N1) (h2:DiskP N2) (h:N1 ≠ N2) (hb1:B1.length<=1048576) (hb2:B2.length<=1048576) :
  lookD (loadD 16777216 1000 [(N1,B1),(N2,B2)]) N1=(B1,0)/\lookD (loadD 16777216 1000 [(N1,B1),(N2,B2)]) N2=(B2,0):=by
 have hl:=lod_two h1 h2 h hb1 hb2
 have hF:(loadD 16777216 1000 [(N1,B1),(N2,B2)]).F=⟨nowF ⟨[(N1,1),(N2,2)],[]⟩,[]⟩:=by unfold loadD; rw [hl]
 have hdn:(loadD 16777216 1000 [(N1,B1),(N2,B2)]).down=false:=by unfold loadD; rw [hl]; rfl
 have hf:(loadD 16777216 1000 [(N1,B1),(N2,B2)]).f=updF (updF (fun _=>zI) 1 ⟨B1,[]⟩) 2 ⟨B2,[]⟩:=by unfold loadD; rw [hl]
 have e3:∀ s,findN s (nowF (loadD 16777216 1000 [(N1,B1),(N2,B2)]).F)=findN s [(N1,1),(N2,2)]:=fun s=>by
  rw [hF,nowF_nil rfl,lastN_find]
  show findN s (nowF ⟨[(N1,1),(N2,2)],[]⟩)=_
  rw [nowF_nil rfl,lastN_find]
 refine ⟨?_,?_⟩
 ·unfold lookD
  rw [hdn,if_neg (by decide),e3]
  have e4:findN N1 [(N1,1),(N2,2)]=some 1:=if_pos rfl
  rw [e4]
  show (nowI ((loadD 16777216 1000 [(N1,B1),(N2,B2)]).f 1),(0:Int))=_
  rw [hf]
  rfl
 ·unfold lookD
  rw [hdn,if_neg (by decide),e3]
  have e4:findN N2 [(N1,1),(N2,2)]=some 2:=by
   show (if N1=N2 then some (1:Int) else (if N2=N2 then some 2 else none))=_
   rw [if_neg h,if_pos rfl]
  rw [e4]
  show (nowI ((loadD 16777216 1000 [(N1,B1),(N2,B2)]).f 2),(0:Int))=_
  rw [hf]
  rfl
end Go.Proofs.YtodmachaofepkaaGreatDoor
namespace Go.Proofs.YtodmachaofepkaaGreatDoor
open Go.GV Go.RowKit Go.Lib
set_option maxHeartbeats 4000000 in
theorem hints_law (n:Int) (A:Option Addr) (m c:Nat) (b:List UInt8) (w:World) (hsl:Sl w 1 A m (b.map bv)) (hc:m<=c) (hm:m<=1099511627776) (hv:Nm8.VK w) :
  Calls Tryz.prog 3 #[.int .i64 n,.slice A m c] w fun e w'=>e=.returned (.bool true)/\Fr (fun _=>False) w w':=by
 refine (F3.of n A m c w (Q:=fun v w'=>v=.bool true/\Fr (fun _=>False) w w') ?_).mono (fun e w' ⟨v,he,hv,h⟩=>⟨by rw [he,hv],h⟩)
 obtain rfl:b.length=m:=sl_len hsl
 refine (rscan_calls A b.length c b n w hsl hc hm).mono ?_
 rintro e w1 ⟨_,rfl,A2,c2,rfl,hr⟩
 have hnd:=scP_nd b n
 have hwl:=scP_len b n
 refine ⟨_,rfl,var_new (sz:=6) rfl rfl (snC_one _ _ _) (fun b4 w6 f6 hb4 r4=>?_)⟩
 have f06:=hr.f.trans1 f6
 refine ⟨A2,_,c2,r4.cell (o:=0) rfl,_,r4.cell (o:=1) (v:=.int .u64 ((scP b n).sq:Nat)) rfl,(rmake24_calls A2 _ c2 (scP b n).ws n (b.length:Int) (scP b n).sq w6 (hr.sw.fr f6) (fun x hx=>(hnd.ws x hx).2) (fun x hx=>(hnd.ws x hx).1) (by omega) hnd.sq).mono ?_⟩
 rintro e w11 ⟨v,rfl,hM⟩
 have f11:Fr (fun _=>False) w6 w11:=by
  rcases hM with ⟨_,h⟩ | ⟨A',c',_,h,_⟩
  ·exact h
  ·exact h.1
 have f011:=f06.trans1 f11
 have lives:Calls Tryz.prog 6 #[] w11 fun e w'=>∃ t:Bool,e=.returned (.bool t)/\(Value.bool t=.bool true/\Fr (fun _=>False) w w'):=(lives31_calls w11 (hv.fr f011)).mono (by
  rintro e w' ⟨rfl,f⟩
  exact ⟨true,rfl,rfl,f011.trans1 f⟩)
 have r4':=r4.fr f11 (fun h=>h)
 rcases hM with ⟨rfl,_⟩ | ⟨A',c',rfl,hB,hn,hz,hk,hg⟩
 ·refine ⟨none,0,0,2,rfl,_,r4'.cell (o:=3) (v:=.bool (scP b n).s) rfl,vIf_mk (fun _=>lives) (fun _=>vIf_t rfl lives)⟩
 refine ⟨A',_,c',0,rfl,_,r4'.cell (o:=3) (v:=.bool (scP b n).s) rfl,vIf_mk (fun _=>lives) (fun hs=>vIf_f rfl (vIf_mk (fun _=>lives) (fun g1=>vIf_mk (fun _=>lives) (fun g2=>jnC_mk (fun _=>?_)))))⟩
 have hs:(scP b n).s=true:=by simpa using hs
 have g1:¬ (b.length:Int) > 1048576:=of_decide_eq_false g1
 have g2:¬ (((hiB (scP b n).ws n.toNat (b.length:Int).toNat (scP b n).sq).length:Nat):Int) > 1048576:=of_decide_eq_false g2
 obtain ⟨hi,n1,n9⟩:=scP_in hs
 obtain ⟨d1,d2,d3⟩:=seg_hin n1 n9
 obtain ⟨k,rfl⟩:∃ k:Nat,n=(k:Int):=⟨n.toNat,by omega⟩
 rw [Int.toNat_natCast,Int.toNat_natCast] at hB g2 ⊢
 generalize hH:hiB (scP b (k:Int)).ws k b.length (scP b (k:Int)).sq=hb at hB g2 ⊢
 refine (limits_calls w11).mono ?_
 rintro e w30 ⟨rfl,f30⟩
 refine ⟨_,rfl,(Nm8.rfile_calls 1 (k:Int) w30).mono ?_⟩
 rintro e w33 ⟨rfl,f33⟩
 refine ⟨_,rfl,(Nm8.rfile_calls 2 (k:Int) w33).mono ?_⟩
 rintro e w36 ⟨rfl,f36⟩
 have f36:=(f30.trans1 f33).trans1 f36
 refine ⟨_,rfl,gd_mk rfl (gd_mk rfl (rec_new (fun b39 w40 f40 hb39 r39=>?_)))⟩
 have hI:ISl w40 (some ⟨b39,0,none⟩) 2 [(segF k,b),(hinF k,hb)]:=by
  refine ⟨[.string (segF k),.slice A b.length c,.string (hinF k),.slice A' hb.length c'],⟨rfl,fun _=>⟨b39,0,rfl,rec_all r39⟩⟩,rfl,fun i x hx=>?_⟩
  match i with
  | 0 =>
   cases hx
   exact ⟨A,b.length,c,rfl,((f011.trans1 f36).trans1 f40).sl hsl (fun _ _ _ h=>h),hc⟩
  | 1 =>
   cases hx
   exact ⟨A',hb.length,c',rfl,(f36.trans1 f40).sl hB.sl (fun _ _ _ h=>h),hB.2.le⟩
  | i+2=>cases hx
 have hsm:∀ x ∈ [(segF (k:Int),b),(hinF (k:Int),hb)],x.1.size<=1099511627775:=fun x hx=>by
  simp at hx
  rcases hx with rfl | rfl
  ·have:=d1.2.2; show (segF k).size<=_; omega
  ·have:=d2.2.2; show (hinF k).size<=_; omega
 have hdm:∀ x ∈ [(segF (k:Int),b),(hinF (k:Int),hb)],x.2.length<=1099511627775:=fun x hx=>by
  simp at hx
  rcases hx with rfl | rfl
  ·show b.length<=_; omega
  ·show hb.length<=_; omega
 refine (Load_calls 16777216 1000 _ 2 2 [(segF k,b),(hinF k,hb)] w40 hI (by omega) hsm hdm).mono ?_
 rintro e w41 ⟨f41,db,r,rfl,hD,_,_⟩
 have f40':=((f011.trans1 f36).trans1 f40)
 have f041:=f40'.trans1 f41
 obtain ⟨L1,L2⟩:=look_two d1 d2 d3 (B1:=b) (B2:=hb) (by omega) (by omega)
 have hrp:rpP (loadD 16777216 1000 [(segF k,b),(hinF k,hb)]) k=(scP b k,true,0):=hints_rp hs (by omega) hg (by omega) L1 (by rw [hH]; exact L2)
 refine ⟨_,rfl,(rpscan_calls db r _ k w41 hD (dkS_of load_I (load_B (by omega) (by omega)) (by show 2<=349525; omega)) (hv.fr f041)).mono ?_⟩
 rintro e w44 ⟨_,rfl,Ab,cb,rfl,hr2⟩
 rw [hrp] at hr2 ⊢
 refine ⟨_,_,_,rfl,var_new (sz:=6) rfl rfl (snC_one _ _ _) (fun b49 w51 f51 hb49 r49=>vIf_t rfl (vIf_t rfl ?_))⟩
 have k1:=((f36.trans1 f40).trans1 f41).trans1 (hr2.f.trans1 f51)
 refine ⟨_,rfl,rec_all (r4'.fr k1 (fun h=>h)),_,rfl,rec_all r49,(same16_calls (scP b k) A2 Ab c2 cb w51 ((hr.sw.fr (f6.trans1 f11)).fr k1) (hr2.sw.fr f51) (by omega)).mono ?_⟩
 rintro e w54 ⟨rfl,f54⟩
 have g54:=(f011.trans1 k1).trans1 f54
 refine ⟨_,rfl,vIf_t rfl ((lives31_calls w54 (hv.fr g54)).mono ?_)⟩
 rintro e w57 ⟨rfl,f57⟩
 exact ⟨_,rfl,rfl,g54.trans1 f57⟩
end Go.Proofs.YtodmachaofepkaaGreatDoor
namespace Go.Proofs.YtodmachaofepkaaGreatDoor
open Go.GV Go.ChangeShapes Go.WideShapes Go.ChangeAt Go.RowKit
def laidL:List (String×DataW Unit):=Rows.replayHintsUptoRow.laid
theorem laidL_eq : laidL = [("math/bits.deBruijn32tab", Rows.laid_math_bits_deBruijn32tab), ("math/bits.deBruijn64tab", Rows.laid_math_bits_deBruijn64tab), ("internal/strconv.uint64pow10", Rows.laid_internal_strconv_uint64pow10)] := rfl
theorem gTab : Tryz.prog.globalNamed "internal/strconv.uint64pow10" = some 1 := by kernel_rfl
theorem gTabType:(Tryz.prog.globals[1]?).map (·.type)=some 231:=by kernel_rfl
theorem cellsT:Tryz.prog.cellsOf 231=20:=by kernel_rfl
theorem cellsE:Tryz.prog.cellsOf 24=1:=by kernel_rfl
theorem vK {W:World} (h:laidMet Tryz.prog laidL W):Nm8.VK W:=by
 rw [laidL_eq] at h
 exact ⟨Lib.tabIs_of_head (rest:=_) gTab gTabType Tryz.underlying231 Tryz.underlying24 cellsE cellsT h.tail.tail⟩
noncomputable def laidWorld (os:Os):World :=
 let w0:=World.holding Tryz.prog os ⟨#[],#[],[]⟩
 { w0 with heap:=((w0.heap.modify 1 fun
   | .cells _ t frozen=>.cells #[.int .u64 1,.int .u64 10,.int .u64 100,.int .u64 1000,.int .u64 10000,.int .u64 100000,.int .u64 1000000,.int .u64 10000000,.int .u64 100000000,.int .u64 1000000000,.int .u64 10000000000,.int .u64 100000000000,.int .u64 1000000000000,.int .u64 10000000000000,.int .u64 100000000000000,.int .u64 1000000000000000,.int .u64 10000000000000000,.int .u64 100000000000000000,.int .u64 1000000000000000000,.int .u64 10000000000000000000] t frozen
   | o=>o).modify 2 fun
   | .cells _ t frozen=>.cells #[.int .u8 0,.int .u8 1,.int .u8 28,.int .u8 2,.int .u8 29,.int .u8 14,.int .u8 24,.int .u8 3,.int .u8 30,.int .u8 22,.int .u8 20,.int .u8 15,.int .u8 25,.int .u8 17,.int .u8 4,.int .u8 8,.int .u8 31,.int .u8 27,.int .u8 13,.int .u8 23,.int .u8 21,.int .u8 19,.int .u8 16,.int .u8 7,.int .u8 26,.int .u8 12,.int .u8 18,.int .u8 6,.int .u8 11,.int .u8 5,.int .u8 10,.int .u8 9] t frozen
   | o=>o).modify 3 fun
   | .cells _ t frozen=>.cells #[.int .u8 0,.int .u8 1,.int .u8 56,.int .u8 2,.int .u8 57,.int .u8 49,.int .u8 28,.int .u8 3,.int .u8 61,.int .u8 58,.int .u8 42,.int .u8 50,.int .u8 38,.int .u8 29,.int .u8 17,.int .u8 4,.int .u8 62,.int .u8 47,.int .u8 59,.int .u8 36,.int .u8 45,.int .u8 43,.int .u8 51,.int .u8 22,.int .u8 53,.int .u8 39,.int .u8 33,.int .u8 30,.int .u8 24,.int .u8 18,.int .u8 12,.int .u8 5,.int .u8 63,.int .u8 55,.int .u8 48,.int .u8 27,.int .u8 60,.int .u8 41,.int .u8 37,.int .u8 16,.int .u8 46,.int .u8 35,.int .u8 44,.int .u8 21,.int .u8 52,.int .u8 32,.int .u8 23,.int .u8 11,.int .u8 54,.int .u8 26,.int .u8 40,.int .u8 15,.int .u8 34,.int .u8 20,.int .u8 31,.int .u8 10,.int .u8 25,.int .u8 14,.int .u8 19,.int .u8 9,.int .u8 13,.int .u8 8,.int .u8 7,.int .u8 6] t frozen
   | o=>o }
end Go.Proofs.YtodmachaofepkaaGreatDoor
