import Derived.Lib.ItoaNum
import Derived.Lib.Atoi
import Derived.Lib.Repeat
import Derived.Lib.Strings
import Derived.Shelf.Small.Wraps
import Derived.Shelf.Strconv.Atoi
import Derived.Shelf.Strconv.ErrVar
import Derived.Shelf.Strconv.Itoa3
import Derived.Shelf.Strings.Repeat
import Derived.Test.YthcdionpeoobbaaGreatDoorProg
import Derived.Test.YthcdionpeoobbaaGreatDoorRows
import Derived.WalkKit
import Derived.ProofKit
import Derived.OpenShut
import Derived.JoinedCond
import Derived.Test.YthcdionpeoobbaaGreatDoorCards
import Derived.Test.YthcdionpeoobbaaGreatDoorTie
import Derived.Deep.DeepHandedRow
import Derived.Lib.LaidTab
import Derived.Stop.LaidErr
import Derived.Test.YthcdionpeoobbaaGreatDoorP5
set_option linter.unusedVariables false
set_option linter.unusedSimpArgs false
namespace Go.Proofs.YthcdionpeoobbaaGreatDoor
open Go.GV Go.RowKit Go.Lib
def paC (k N:Int) (S:Nat) (T D:List UInt8):List Value:=[.int .i64 k,.int .i64 N,.int .u64 (S:Nat),.string ⟨T.toArray⟩] ++ D.map bv
theorem paC_len {k N:Int} {S:Nat} {T D:List UInt8} (h:D.length=32):(paC k N S T D).length=36:=by simp [paC,h]
theorem paC_one (k N:Int) (S:Nat) (T D:List UInt8):∀ v ∈ paC k N S T D,v.oneCell'=true:=by
 intro v hv
 unfold paC at hv
 rcases List.mem_append.1 hv with h | h
 ·simp only [List.mem_cons,List.not_mem_nil,or_false] at h
  rcases h with rfl | rfl | rfl | rfl <;> rfl
 ·exact bvs_one _ v h
theorem splice_pre {a b vs:List Value} {i:Nat}:splice (a ++ b) (a.length+i) vs=a ++ splice b i vs:=by
 unfold splice
 rw [List.take_append,List.take_of_length_le (by omega),List.drop_append,List.drop_of_length_le (by omega)]
 simp only [Nat.add_sub_cancel_left,List.nil_append,List.append_assoc]
 rw [show a.length+i+vs.length - a.length=i+vs.length by omega]
theorem paC_std {k N:Int} {S:Nat} {T D:List UInt8} {i:Nat} (vs:List Value):splice (paC k N S T D) (4+i) vs=[.int .i64 k,.int .i64 N,.int .u64 (S:Nat),.string ⟨T.toArray⟩] ++ splice (D.map bv) i vs:=splice_pre (a:=[.int .i64 k,.int .i64 N,.int .u64 (S:Nat),.string ⟨T.toArray⟩])
def tkP (r:RdS) (k most:Int):List Value×RdS :=
 if k=0 then (paC 0 (nmP r most).1 0 [] z32,(nmP r most).2)
 else if k=1 then (paC 1 0 (sqP r).1 [] z32,(sqP r).2)
 else if k=2 then (paC 2 0 0 (txtP r).1 z32,(txtP r).2)
 else (paC k 0 0 [] (dgP r).1,(dgP r).2)
abbrev TkA (BA:Option Nat) (N0:Nat) (w w':World) (v:Value) (p:List Value×RdS):Prop:=∃ A' n' c',v=.tuple #[ofL p.1,ofL (rrC A' n' c' p.2)]/\RrA w' A' n' c' p.2/\Fr (fun _=>False) w w'/\(n' ≠ 0->N0 ≠ 0/\∀ k,blkOf A'=some k->BA=some k)
theorem tkP_err {r:RdS} (k most:Int) (h:r.2 ≠ 0):tkP r k most=(paC k 0 0 [] z32,r):=by
 obtain ⟨a1,a2⟩:=num1_e (most:=most) h
 obtain ⟨b1,b2⟩:=seq1_e h
 obtain ⟨c1,c2⟩:=txt1_e h
 obtain ⟨d1,d2⟩:=dig1_e h
 unfold tkP
 split
 ·rename_i g; subst g; rw [a1,a2]
 ·split
  ·rename_i g; subst g; rw [b1,b2]
  ·split
   ·rename_i g; subst g; rw [c1,c2]
   ·rw [d1,d2]
theorem tq0 (r:RdS) (most:Int):tkP r 0 most=(paC 0 (nmP r most).1 0 [] z32,(nmP r most).2):=if_pos rfl
theorem tq1 (r:RdS) (most:Int):tkP r 1 most=(paC 1 0 (sqP r).1 [] z32,(sqP r).2):=by
 unfold tkP
 rw [if_neg (show ¬ (1:Int)=0 by decide),if_pos rfl]
theorem tq2 (r:RdS) (most:Int):tkP r 2 most=(paC 2 0 0 (txtP r).1 z32,(txtP r).2):=by
 unfold tkP
 rw [if_neg (show ¬ (2:Int)=0 by decide),if_neg (show ¬ (2:Int)=1 by decide),if_pos rfl]
theorem tq3 (r:RdS) (most:Int):tkP r 3 most=(paC 3 0 0 [] (dgP r).1,(dgP r).2):=by
 unfold tkP
 rw [if_neg (show ¬ (3:Int)=0 by decide),if_neg (show ¬ (3:Int)=1 by decide),if_neg (show ¬ (3:Int)=2 by decide)]
theorem nm_1 {r:RdS} (most:Int) (h:r.2=0) (h1:(vaT r.1 0).2.2 ≠ 0):nmP r most=(0,([],(vaT r.1 0).2.2)):=by
 unfold nmP
 rw [if_neg (fun g=>g h),if_pos h1]
theorem nm_2 {r:RdS} (most:Int) (h:r.2=0) (h1:(vaT r.1 0).2.2=0) (h2:most < 0\/((vaT r.1 0).1:Int) > most):nmP r most=(0,([],20)):=by
 unfold nmP
 rw [if_neg (fun g=>g h),if_neg (fun g=>g h1),if_pos h2]
theorem nm_3 {r:RdS} (most:Int) (h:r.2=0) (h1:(vaT r.1 0).2.2=0) (h2:¬ (most < 0\/((vaT r.1 0).1:Int) > most)):nmP r most=(((vaT r.1 0).1:Int),(r.1.drop (vaT r.1 0).2.1.toNat,0)):=by
 unfold nmP
 rw [if_neg (fun g=>g h),if_neg (fun g=>g h1),if_neg h2]
theorem sq_1 {r:RdS} (h:r.2=0) (h1:(vaT r.1 0).2.2 ≠ 0):sqP r=(0,([],(vaT r.1 0).2.2)):=by
 unfold sqP
 rw [if_neg (fun g=>g h),if_pos h1]
theorem sq_3 {r:RdS} (h:r.2=0) (h1:(vaT r.1 0).2.2=0):sqP r=((vaT r.1 0).1,(r.1.drop (vaT r.1 0).2.1.toNat,0)):=by
 unfold sqP
 rw [if_neg (fun g=>g h),if_neg (fun g=>g h1)]
theorem txt_n {r:RdS} (h:r.2=0) (h1:txP r.1 0=none):txtP r=([],([],4)):=by
 unfold txtP
 rw [if_neg (fun g=>g h),h1]
theorem txt_s {r:RdS} {s:List UInt8} {e:Int} (h:r.2=0) (h1:txP r.1 0=some (s,e)):txtP r=(s,(r.1.drop e.toNat,0)):=by
 unfold txtP
 rw [if_neg (fun g=>g h),h1]
theorem dg_s {r:RdS} (h:r.2=0) (h1:r.1.length < 32):dgP r=(z32,([],4)):=by
 unfold dgP
 rw [if_neg (fun g=>g h),if_pos h1]
theorem dg_l {r:RdS} (h:r.2=0) (h1:¬ r.1.length < 32):dgP r=(r.1.take 32,(r.1.drop 32,0)):=by
 unfold dgP
 rw [if_neg (fun g=>g h),if_neg h1]
theorem tkP_va {r:RdS} {k:Int} (most:Int) (h:r.2=0) (hk:k=0\/k=1) (h1:(vaT r.1 0).2.2 ≠ 0):tkP r k most=(paC k 0 0 [] z32,([],(vaT r.1 0).2.2)):=by
 rcases hk with rfl | rfl
 ·rw [tq0,nm_1 most h h1]
 ·rw [tq1,sq_1 h h1]
set_option maxHeartbeats 4000000 in
theorem rtake23_calls (A:Option Addr) (n c:Nat) (r:RdS) (k most:Int) (w:World) (h:RrA w A n c r) (hk:k=0\/k=1\/k=2\/k=3) (hm:0<=most/\most<=1099511627776) :
  Calls Tryz.prog 65 #[ofL (rrC A n c r),.int .i64 k,.int .i64 most] w fun e w'=>∃ v,e=.returned v/\TkA (blkOf A) n w w' v (tkP r k most):=by
 refine F65.of _ k most w (Q:=fun v w'=>TkA (blkOf A) n w w' v (tkP r k most)) ?_
 have hl:=sl_len h.sl
 have hle:=h.le
 have hlt:=h.lt
 refine rec_new (fun b1 w2 f1 hb1 r1=>rec_new (fun b3 w4 f3 hb3 r3=>rec_new (fun b5 w6 f5 hb5 r5=>?_)))
 have lay:∀ (u:World) (K:Nat->World->Prop),(∀ b w',Fr (fun _=>False) u w'->u.heap.size<=b->RecAt w' b 129 (paC k 0 0 [] z32)->K b w')->nw u Z129 129 fun b w1=>gd ((paC k 0 0 [] z32).length == 36) (st w1 b 0 (paC k 0 0 [] z32) fun w2=>K b w2) :=
  fun u K hK=>var_new (sz:=36) rfl (paC_len z32_len) (paC_one _ _ _ _ _) hK
 have s1:=f1.size
 have s3:=f3.size
 have s5:=f5.size
 have l1:=r1.lt
 have l3:=r3.lt
 have l5:=r5.lt
 refine lay w6 _ (fun b7 w9 f7 hb7 r7=>?_)
 have r1:=((r1.fr f3 (fun h=>h)).fr f5 (fun h=>h)).fr f7 (fun h=>h)
 have r3:=(r3.fr f5 (fun h=>h)).fr f7 (fun h=>h)
 have r5:=r5.fr f7 (fun h=>h)
 have F9:Fr (fun _=>False) w w9:=((f1.trans1 f3).trans1 f5).trans1 f7
 have e1:w.heap.size<=b1:=hb1
 have e3:w.heap.size<=b3:=by omega
 have e5:w.heap.size<=b5:=by omega
 have e7:w.heap.size<=b7:=by omega
 have n13:b1 ≠ b3:=by omega
 have n15:b1 ≠ b5:=by omega
 have n17:b1 ≠ b7:=by omega
 have n35:b3 ≠ b5:=by omega
 have n37:b3 ≠ b7:=by omega
 have n57:b5 ≠ b7:=by omega
 clear lay l1 l3 l5 hb7 hb5 hb3 s1 s3 s5 f1 f3 f5 f7
 have core:∀ (u:World) (P:List Value) (A':Option Addr) (n' c':Nat) (r':RdS),RecAt u b3 129 P->P.length=36->RecAt u b5 126 [Value.slice none 0 0,Value.int .i64 0]->Fr (fun _=>False) w u->(∀ u,Fr (fun _=>False) w u->RrA u A' n' c' r')->(n' ≠ 0->n ≠ 0/\∀ k,blkOf A'=some k->blkOf A=some k)->tkP r k most=(P,r') ->
   gd ((rrC A' n' c' r').length == 2) (st u b5 0 (rrC A' n' c' r') fun w41=>ldA 36 w41 b3 0 fun a42=>ldA 2 w41 b5 0 fun a43=>TkA (blkOf A) n w w41 (.tuple #[ofL a42,ofL a43]) (tkP r k most)):=by
  intro u P A' n' c' r' q3 hP q5 f hR hBk ht
  refine gd_mk rfl (q5.st_mk (o:=0) (by show 0+2<=2; omega) (rrC_one _ _ _ _) (fun q5 g=>?_))
  rw [splice_full (by rfl)] at q5
  have fg:=fr_var f e5 g
  refine ⟨P,hP,rec_all (q3.fr g (fun e=>n35 e)),_,rfl,rec_all q5,?_⟩
  rw [ht]
  exact ⟨A',n',c',rfl,hR _ fg,fg,hBk⟩
 have lay3:∀ (u:World) (P:List Value) (K:World->Prop),RecAt u b3 129 Z129->P.length=36->(∀ v ∈ P,v.oneCell'=true)->(∀ u',Fr (fun k=>k=b3) u u'->RecAt u' b3 129 P->K u')->gd (P.length == 36) (st u b3 0 P fun u'=>K u'):=by
  intro u P K q3 hP h1 hK
  refine gd_mk (by rw [hP]; rfl) (q3.st_mk (o:=0) (by rw [hP]; show 0+36<=36; omega) h1 (fun q g=>?_))
  rw [splice_full (by rw [hP]; rfl)] at q
  exact hK _ g q
 have finE:∀ (u:World) (e:Int),Fr (fun k=>k=b7) w9 u->RecAt u b7 129 (paC k 0 0 [] z32)->tkP r k most=(paC k 0 0 [] z32,([],e)) ->
   ldA 36 u b7 0 fun a=>gd (a.length == 36) (st u b3 0 a fun w31=>gd ((rrC none 0 0 ([],e)).length == 2) (st w31 b5 0 (rrC none 0 0 ([],e)) fun w41=>ldA 36 w41 b3 0 fun a42=>ldA 2 w41 b5 0 fun a43=>TkA (blkOf A) n w w41 (.tuple #[ofL a42,ofL a43]) (tkP r k most))):=by
  intro u e f q7 ht
  refine ⟨_,paC_len z32_len,rec_all q7,lay3 u _ _ (r3.fr f (fun e=>n37 e)) (paC_len z32_len) (paC_one _ _ _ _ _) (fun u' g q3=>?_)⟩
  exact core u' _ none 0 0 ([],e) q3 (paC_len z32_len) ((r5.fr f (fun e=>n57 e)).fr g (fun e=>n35 e.symm)) (fr_var (fr_var F9 e7 f) e3 g) (fun u _=>RrA.e u e) (fun h=>absurd rfl h) ht
 have finS:∀ (u:World) (P:List Value) (j:Nat),Fr (fun k=>k=b7) w9 u->RecAt u b7 129 P->P.length=36->(∀ v ∈ P,v.oneCell'=true)->r.2=0->j<=n->tkP r k most=(P,(r.1.drop j,0)) ->
   gd (P.length == 36) (st u b3 0 P fun w40=>kp u b1 0 1 w40 (gd ((rrC (slA A c j 1) (n - j) (c - j) (r.1.drop j,0)).length == 2) (st w40 b5 0 (rrC (slA A c j 1) (n - j) (c - j) (r.1.drop j,0)) fun w41=>ldA 36 w41 b3 0 fun a42=>ldA 2 w41 b5 0 fun a43=>TkA (blkOf A) n w w41 (.tuple #[ofL a42,ofL a43]) (tkP r k most)))):=by
  intro u P j f q7 hP h1 h0 hj ht
  have q1:=r1.fr f (fun e=>n17 e)
  refine lay3 u _ _ (r3.fr f (fun e=>n37 e)) hP h1 (fun u' g q3=>kp_mk g q1.lt (fun e=>n13 e) ?_)
  exact core u' P _ _ _ (r.1.drop j,0) q3 hP ((r5.fr f (fun e=>n57 e)).fr g (fun e=>n35 e.symm)) (fr_var (fr_var F9 e7 f) e3 g) (fun u fu=>⟨sl_drop (fu.sl h.sl (fun _ _ _ h=>h)) hj hle,by omega,by omega⟩) (fun h=>⟨by omega,fun k hk=>sl_blkO hk⟩) ht
 refine ⟨r.2,r1.cell (o:=1) rfl,vIf_mk (fun g=>?_) (fun g=>?_)⟩
 ·have g:r.2 ≠ 0:=by simpa using g
  have fd:Fr (fun _=>False) w9 w9.drew:=Fr.drew _ _
  have r1:=r1.fr fd (fun h=>h)
  refine ⟨_,paC_len z32_len,rec_all (r7.fr fd (fun h=>h)),_,rfl,rec_all r1,lay3 _ _ _ (r3.fr fd (fun h=>h)) (paC_len z32_len) (paC_one _ _ _ _ _) (fun u' g' q3=>kp_mk g' r1.lt (fun e=>n13 e) ?_)⟩
  exact core u' _ A n c r q3 (paC_len z32_len) ((r5.fr fd (fun h=>h)).fr g' (fun e=>n35 e.symm)) (fr_var (F9.trans1 fd) e3 g') (fun u fu=>h.fr fu) (fun h=>⟨h,fun _ h=>h⟩) (tkP_err k most g)
 have h0:r.2=0:=by simpa using g
 have k13:∀ (u:World) (P:List Value) (e:Int),Fr (fun k=>k=b7) w9 u->RecAt u b7 129 P->P.length=36->(∀ v ∈ P,v.oneCell'=true)->0<=e->e<=(n:Int)->tkP r k most=(P,(r.1.drop e.toNat,0)) ->
   ldA 36 u.drew b7 0 fun a36=>ldSl u.drew b1 0 fun A37 n38 c39=>gd (decide (0<=e))<|gd (decide (e<=((n38:Nat):Int)))<|gd (a36.length == 36)<|st u.drew b3 0 a36 fun w40=>kp u.drew b1 0 1 w40<|gd (([Value.slice (slA A37 c39 e.toNat 1) (n38 - e.toNat) (c39 - e.toNat)] ++ ([Value.int .i64 0] ++ [])).length == 2)<|st w40 b5 0 ([Value.slice (slA A37 c39 e.toNat 1) (n38 - e.toNat) (c39 - e.toNat)] ++ ([Value.int .i64 0] ++ [])) fun w41=>ldA 36 w41 b3 0 fun a42=>ldA 2 w41 b5 0 fun a43=>TkA (blkOf A) n w w41 (.tuple #[ofL a42,ofL a43]) (tkP r k most):=by
  intro u P e f q7 hP h1 he he' ht
  have fd:Fr (fun k=>k=b7) u u.drew:=Fr.drew _ _
  have f:=f.trans1 fd
  have q7:RecAt u.drew b7 129 P:=q7.fr (Fr.drew (fun _=>False) _) (fun h=>h)
  refine ⟨P,hP,rec_all q7,A,n,c,(r1.fr f (fun e=>n17 e)).cell (o:=0) rfl,gd_mk (decide_eq_true he) (gd_mk (decide_eq_true he') ?_)⟩
  exact finS _ P e.toNat f q7 hP h1 h0 (by omega) ht
 have k5:∀ t:Bool,(t=true ↔ (k=0\/k=1))->jnC (F65.k5 (fun v w'=>TkA (blkOf A) n w w' v (tkP r k most))) (k,most,(b1,0),(b3,0),(b5,0),(b7,0),t,()) w9:=by
  intro t ht
  refine jnC_mk (fun _=>vIf_mk (fun g=>⟨A,n,c,r1.cell (o:=0) rfl,(rva_calls A n c r.1 0 w9 (F9.sl h.sl (fun _ _ _ h=>h)) hlt).mono ?_⟩) (fun g=>jnC_mk (fun _=>?_)))
  ·have hk01:=ht.1 g
   rintro e u ⟨rfl,hw⟩
   obtain rfl:w9=u:=hw.symm
   refine ⟨_,_,_,rfl,vIf_mk (fun g1=>?_) (fun g1=>?_)⟩
   ·have g1:(vaT r.1 0).2.2 ≠ 0:=by simpa using g1
    exact finE w9 _ (Fr.refl _ _) r7 (tkP_va most h0 hk01 g1)
   have g1:(vaT r.1 0).2.2=0:=by simpa using g1
   obtain ⟨v1,v2⟩:=va0_ok g1
   have k9:∀ t:Bool,(t=true ↔ (k=0/\(most < 0\/((vaT r.1 0).1:Int) > most)))->jnC (F65.k9 (fun v w'=>TkA (blkOf A) n w w' v (tkP r k most))) (k,(b1,0),(b3,0),(b5,0),(b7,0),((vaT r.1 0).1:Int),(vaT r.1 0).2.1,t,()) w9:=by
    intro t ht
    refine jnC_mk (fun _=>vIf_mk (fun g=>finE w9 20 (Fr.refl _ _) r7 ?_) (fun g=>jnC_mk (fun _=>vIf_mk (fun gk=>?_) (fun gk=>?_))))
    ·obtain ⟨hk0,gg⟩:=ht.1 g
     subst hk0
     rw [tq0,nm_2 most h0 g1 gg]
    ·have gk:k=0:=by simpa using gk
     have hno:¬ (most < 0\/((vaT r.1 0).1:Int) > most):=fun q=>by rw [ht.2 ⟨gk,q⟩] at g; cases g
     dsimp only
     rw [i64_id (by omega) (by omega)]
     refine r7.st_mk (o:=1) (by rw [paC_len z32_len]; show 1+1<=36; omega) (fun v hv=>by simp at hv; subst hv; rfl) (fun q7 f7=>jnC_mk (fun _=>k13 _ (paC k ((vaT r.1 0).1:Int) 0 [] z32) (vaT r.1 0).2.1 f7 q7 (paC_len z32_len) (paC_one _ _ _ _ _) (by omega) (by omega) ?_))
     subst gk
     rw [tq0,nm_3 most h0 g1 hno]
    ·have gk:¬ k=0:=by simpa using gk
     obtain rfl:k=1:=hk01.resolve_left gk
     refine r7.st_mk (o:=2) (by rw [paC_len z32_len]; show 2+1<=36; omega) (fun v hv=>by simp at hv; subst hv; rfl) (fun q7 f7=>jnC_mk (fun _=>k13 _ (paC 1 0 (vaT r.1 0).1 [] z32) (vaT r.1 0).2.1 f7 q7 (paC_len z32_len) (paC_one _ _ _ _ _) (by omega) (by omega) ?_))
     rw [tq1,sq_3 h0 g1]
   refine vIf_mk (fun gk=>vIf_mk (fun gm=>k9 true ?_) (fun gm=>k9 _ ?_)) (fun gk=>k9 false ?_)
   ·have gk:k=0:=by simpa using gk
    have gm:most < 0:=of_decide_eq_true gm
    exact ⟨fun _=>⟨gk,.inl gm⟩,fun _=>rfl⟩
   ·have gk:k=0:=by simpa using gk
    have gm:¬ most < 0:=of_decide_eq_false gm
    dsimp only
    rw [u64_id (by omega) (by omega),decide_eq_true_iff]
    exact ⟨fun q=>⟨gk,.inr q⟩,fun q=>q.2.resolve_left gm⟩
   ·have gk:¬ k=0:=by simpa using gk
    exact ⟨fun q=>(by cases q),fun q=>absurd q.1 gk⟩
  ·have hk01:¬ (k=0\/k=1):=fun q=>by rw [ht.2 q] at g; cases g
   refine vIf_mk (fun g2=>⟨A,n,c,r1.cell (o:=0) rfl,(rtext_calls A n c r.1 0 w9 (F9.sl h.sl (fun _ _ _ h=>h)) hle hlt ⟨by omega,by omega⟩).mono ?_⟩) (fun g2=>⟨A,n,c,r1.cell (o:=0) rfl,vIf_mk (fun g3=>finE w9 4 (Fr.refl _ _) r7 ?_) (fun g3=>?_)⟩)
   ·have g2:k=2:=by simpa using g2
    subst g2
    rintro e u ⟨rfl,hw⟩
    obtain rfl:w9=u:=hw.symm
    cases ht2:txP r.1 0 with
    | none =>
     refine ⟨_,_,_,rfl,vIf_t rfl (finE w9 4 (Fr.refl _ _) r7 ?_)⟩
     rw [tq2,txt_n h0 ht2]
    | some p =>
     obtain ⟨s,e⟩:=p
     obtain ⟨t1,t2,_⟩:=txP_in ht2
     refine ⟨_,_,_,rfl,vIf_f rfl (r7.st_mk (o:=3) (by rw [paC_len z32_len]; show 3+1<=36; omega) (fun v hv=>by simp at hv; subst hv; rfl) (fun q7 f7=>k13 _ (paC 2 0 0 s z32) e f7 q7 (paC_len z32_len) (paC_one _ _ _ _ _) (by omega) (by omega) ?_))⟩
     rw [tq2,txt_s h0 ht2]
   ·have g2:¬ k=2:=by simpa using g2
    have g3:(n:Int) < 32:=of_decide_eq_true g3
    obtain rfl:k=3:=((hk.resolve_left (fun q=>hk01 (.inl q))).resolve_left (fun q=>hk01 (.inr q))).resolve_left g2
    rw [tq3,dg_s h0 (by omega)]
   ·have g2:¬ k=2:=by simpa using g2
    have g3:¬ (n:Int) < 32:=of_decide_eq_false g3
    have h32:32<=r.1.length:=by omega
    obtain rfl:k=3:=((hk.resolve_left (fun q=>hk01 (.inl q))).resolve_left (fun q=>hk01 (.inr q))).resolve_left g2
    have dl:∀ i,i<=32->(r.1.take i ++ List.replicate (32 - i) (0:UInt8)).length=32:=fun i hi=>by rw [List.length_append,List.length_take,List.length_replicate]; omega
    refine jnC_mk (loop_rule (fun s u=>∃ i:Nat,s=((b1,0),(b3,0),(b5,0),(b7,0),(i:Int),())/\i<=32/\Fr (fun k=>k=b7) w9 u/\RecAt u b7 129 (paC 3 0 0 [] (r.1.take i ++ List.replicate (32 - i) 0))) (fun s _=>(32 - s.2.2.2.2.1).toNat) ?_ _ _ ⟨0,rfl,by omega,Fr.refl _ _,r7⟩)
    rintro s u C ⟨i,rfl,hi,fu,q7⟩ hC _
    have q1:=r1.fr fu (fun e=>n17 e)
    refine vIf_mk (fun hlt=>⟨A,n,c,q1.cell (o:=0) rfl,?_⟩) (fun hge=>?_)
    ·have hlt':(i:Int) < 32:=of_decide_eq_true hlt
     have hil:i < r.1.length:=by omega
     have hSu:=(fr_var F9 e7 fu).sl h.sl (fun _ _ _ h=>h)
     obtain ⟨b0,o0,hA0,hc0⟩:=hSu.get (i:=i) (by omega) (v:=bv r.1[i]) (by rw [List.getElem?_map,List.getElem?_eq_getElem hil]; rfl)
     rw [hA0]
     have z1:decide (0<=(i:Int))=true:=decide_eq_true (by omega)
     have z2:decide ((i:Int) < (n:Int))=true:=decide_eq_true (by omega)
     have z3:decide ((i:Int) < 32)=true:=decide_eq_true hlt'
     refine dr_mk (gd_mk z1 (gd_mk z2 ⟨_,hc0,gd_mk z1 (gd_mk z3 ?_)⟩))
     have es:((0+4)+((i:Int)).toNat * 1)=4+i:=by rw [Int.toNat_natCast]; omega
     show st u b7 ((0+4)+((i:Int)).toNat * 1) _ _
     rw [es]
     refine q7.st_mk (o:=4+i) (by rw [paC_len (dl i hi)]; show 4+i+1<=36; omega) (fun v hv=>by simp at hv; subst hv; rfl) (fun q8 f8=>jnC_mk (hC _ _ ⟨i+1,?_,by omega,fu.trans1 f8,?_⟩ ?_))
     ·show (_,_,_,_,IntKind.wrap .i64 ((i:Int)+1),())=_
      rw [i64_id (by omega) (by omega)]; rfl
     ·rw [paC_std,dig_put r.1 i (by omega) h32] at q8
      exact q8
     ·show ((32:Int) - IntKind.wrap .i64 ((i:Int)+1)).toNat < ((32:Int) - (i:Int)).toNat
      rw [i64_id (by omega) (by omega)]; omega
    ·have hge:¬ (i:Int) < 32:=of_decide_eq_false hge
     obtain rfl:i=32:=by omega
     have e0:r.1.take 32 ++ List.replicate (32 - 32) (0:UInt8)=r.1.take 32:=by simp
     rw [e0] at q7
     have fd:Fr (fun k=>k=b7) u u.drew:=Fr.drew _ _
     have q7:RecAt u.drew b7 129 (paC 3 0 0 [] (r.1.take 32)):=q7.fr (Fr.drew (fun _=>False) _) (fun h=>h)
     have q1:=q1.fr (Fr.drew (fun _=>False) u) (fun h=>h)
     have hP:(paC 3 0 0 [] (r.1.take 32)).length=36:=paC_len (by rw [List.length_take]; omega)
     refine ⟨_,hP,rec_all q7,A,n,c,q1.cell (o:=0) rfl,gd_mk (decide_eq_true (by omega)) ?_⟩
     exact finS _ _ 32 (fu.trans1 fd) q7 hP (paC_one _ _ _ _ _) h0 (by omega) (by rw [tq3,dg_l h0 (by omega)])
 refine vIf_mk (fun gk=>k5 true ?_) (fun gk=>k5 _ ?_)
 ·have gk:k=0:=by simpa using gk
  exact ⟨fun _=>.inl gk,fun _=>rfl⟩
 ·have gk:¬ k=0:=by simpa using gk
  rw [beq_iff_eq]
  exact ⟨fun q=>.inr q,fun q=>q.resolve_left gk⟩
def RdR (w:World) (M b:Nat) (r:RdS):Prop:=M<=b/\∃ A n c,RecAt w b 126 (rrC A n c r)/\RrA w A n c r/\(n ≠ 0->∀ k,blkOf A=some k->k < M)
theorem RdR.fr {S:Nat->Prop} {w w':World} {M b:Nat} {r:RdS} (h:RdR w M b r) (f:Fr S w w') (hS:∀ k,S k->M<=k/\k ≠ b):RdR w' M b r:=by
 obtain ⟨hM,A,n,c,q,hr,hk⟩:=h
 exact ⟨hM,A,n,c,q.fr f (fun g=>(hS _ g).2 rfl),⟨f.sl hr.sl (fun h0 k e g=>by have:=hk h0 k e; have:=(hS _ g).1; omega),hr.le,hr.lt⟩,hk⟩
theorem tkP_len (r:RdS) (k most:Int):(tkP r k most).1.length=36:=by
 unfold tkP
 split
 ·exact paC_len z32_len
 ·split
  ·exact paC_len z32_len
  ·split
   ·exact paC_len z32_len
   ·exact paC_len dgP_len
theorem tkP_one (r:RdS) (k most:Int):∀ v ∈ (tkP r k most).1,v.oneCell'=true:=by
 unfold tkP
 split
 ·exact paC_one _ _ _ _ _
 ·split
  ·exact paC_one _ _ _ _ _
  ·split <;> exact paC_one _ _ _ _ _
theorem st_full {w:World} {b:Nat} {e:TypeId} {old cs:List Value} {K:World->Prop} {N:Nat} (r:RecAt w b e old) (ho:old.length=N) (hc:cs.length=N) (h1:∀ v ∈ cs,v.oneCell'=true) (hK:∀ w',Fr (fun k=>k=b) w w'->RecAt w' b e cs->K w'):gd (cs.length == N) (st w b 0 cs fun w1=>K w1):=by
 refine gd_mk (by rw [hc]; simp) (r.st_mk (o:=0) (by rw [hc,ho]; omega) h1 (fun q g=>?_))
 rw [splice_full (by rw [hc,ho])] at q
 exact hK _ g q
theorem take_step {u:World} {M b4 bp:Nat} {r:RdS} {P0:List Value} {k most:Int} {K:World->Prop} (h:RdR u M b4 r) (hp:RecAt u bp 129 P0) (hP0:P0.length=36) (hpb:bp ≠ b4) (hpM:M<=bp) (hk:k=0\/k=1\/k=2\/k=3) (hm:0<=most/\most<=1099511627776)
  (hK:∀ u',Fr (fun j=>j=b4\/j=bp) u u'->RdR u' M b4 (tkP r k most).2->RecAt u' bp 129 (tkP r k most).1->K u') :
  ldA 2 u b4 0 fun a=>Calls Tryz.prog 65 #[ofL a,.int .i64 k,.int .i64 most] u fun e w1=>∃ a1:List Value,∃ a2:List Value,e=.returned (.tuple #[ofL a1,ofL a2])/\(gd (a1.length == 36)<|st w1 bp 0 a1 fun w2=>gd (a2.length == 2)<|st w2 b4 0 a2 fun w3=>K w3):=by
 obtain ⟨hM,A,n,c,q,hr,hB⟩:=h
 refine ⟨_,rfl,rec_all q,(rtake23_calls A n c r k most u hr hk hm).mono ?_⟩
 rintro e w1 ⟨_,rfl,A',n',c',rfl,hr',f1,hB'⟩
 refine ⟨_,_,rfl,st_full (hp.fr f1 (fun h=>h)) hP0 (tkP_len _ _ _) (tkP_one _ _ _) (fun w2 f2 p2=>st_full ((q.fr f1 (fun h=>h)).fr f2 (fun e=>hpb e.symm)) rfl rfl (rrC_one _ _ _ _) (fun w3 f3 q3=>hK w3 ?_ ⟨hM,A',n',c',q3,?_,fun h0 k hk=>?_⟩ (p2.fr f3 hpb)))⟩
 ·exact ((f1.trans f2 (fun _ _ h=>h.elim) (fun _ _ h=>.inr h)).trans f3 (fun _ _ h=>h) (fun _ _ h=>.inl h))
 ·have hb:n' ≠ 0->∀ k:Nat,blkOf A'=some k->k < M:=fun h0 k hk=>hB (hB' h0).1 k ((hB' h0).2 k hk)
  exact ⟨f3.sl (f2.sl hr'.sl (fun h0 k hk e=>by have:=hb h0 k hk; omega)) (fun h0 k hk e=>by have:=hb h0 k hk; omega),hr'.le,hr'.lt⟩
 ·exact hB (hB' h0).1 k ((hB' h0).2 k hk)
theorem take_new {u:World} {M b4:Nat} {r:RdS} {k most:Int} {K:Nat->World->Prop} (h:RdR u M b4 r) (hMu:M<=u.heap.size) (hk:k=0\/k=1\/k=2\/k=3) (hm:0<=most/\most<=1099511627776)
  (hK:∀ bp u',Fr (fun j=>j=b4) u u'->u.heap.size<=bp->bp < u'.heap.size->RdR u' M b4 (tkP r k most).2->RecAt u' bp 129 (tkP r k most).1->K bp u') :
  ldA 2 u b4 0 fun a=>Calls Tryz.prog 65 #[ofL a,.int .i64 k,.int .i64 most] u fun e w1=>∃ a1:List Value,∃ a2:List Value,e=.returned (.tuple #[ofL a1,ofL a2])/\(nw w1 Z129 129 fun bp w1'=>gd (a1.length == 36)<|st w1' bp 0 a1 fun w2=>gd (a2.length == 2)<|st w2 b4 0 a2 fun w3=>K bp w3):=by
 obtain ⟨hM,A,n,c,q,hr,hB⟩:=h
 refine ⟨_,rfl,rec_all q,(rtake23_calls A n c r k most u hr hk hm).mono ?_⟩
 rintro e w1 ⟨_,rfl,A',n',c',rfl,hr',f1,hB'⟩
 have lq:=q.lt
 refine ⟨_,_,rfl,var_new (sz:=36) rfl (tkP_len _ _ _) (tkP_one _ _ _) (fun bp w2 f2 hbp p2=>st_full ((q.fr f1 (fun h=>h)).fr f2 (fun h=>h)) rfl rfl (rrC_one _ _ _ _) (fun w3 f3 q3=>?_))⟩
 have s1:=f1.size
 have s3:=f3.size
 have lp:=p2.lt
 have hpb:bp ≠ b4:=by omega
 have hb:n' ≠ 0->∀ k:Nat,blkOf A'=some k->k < M:=fun h0 k hk=>hB (hB' h0).1 k ((hB' h0).2 k hk)
 refine hK bp w3 ((f1.trans f2 (fun _ _ h=>h.elim) (fun _ _ h=>h.elim)).trans f3 (fun _ _ h=>h) (fun _ _ h=>h)) (by omega) (by omega) ⟨hM,A',n',c',q3,⟨f3.sl (f2.sl hr'.sl (fun _ _ _ h=>h)) (fun h0 k hk e=>by have:=hb h0 k hk; omega),hr'.le,hr'.lt⟩,hb⟩ (p2.fr f3 hpb)
theorem RW.varS {S:Nat->Prop} {w0 w w':World} {A:Option Addr} {n c:Nat} {l:List Wo} (h:RW w0 w A n c l) (g:Fr S w w') (hS:∀ k,S k->w0.heap.size<=k/\blkOf A ≠ some k):RW w0 w' A n c l :=
 ⟨h.f.trans g (fun _ _ h=>h) (fun k hk e=>by have:=(hS k e).1; omega),g.row h.row (fun k hk e=>(hS k e).2 hk),h.len,h.d⟩
theorem pa_N (k N:Int) (S:Nat) (T D:List UInt8):(paC k N S T D)[1]?=some (.int .i64 N):=rfl
theorem pa_S (k N:Int) (S:Nat) (T D:List UInt8):(paC k N S T D)[2]?=some (.int .u64 (S:Nat)):=rfl
theorem pa_T (k N:Int) (S:Nat) (T D:List UInt8):(paC k N S T D)[3]?=some (.string ⟨T.toArray⟩):=rfl
theorem pa_D {k N:Int} {S:Nat} {T D:List UInt8} (j:Nat) (v:Value) (hv:(D.map bv)[j]?=some v):(paC k N S T D)[4+j]?=some v:=by
 have hj:=(List.getElem?_eq_some_iff.1 hv).1
 unfold paC
 rw [List.getElem?_append_right (by show 4<=4+j; omega),<- hv]
 congr 1
 show 4+j - 4=j
 omega
theorem ofs_false {k:Int} (h:k < 1\/k > 5):decide (ofD k)=false/\decide (ofN k)=false/\decide (ofZ k)=false:=⟨decide_eq_false (by omega),decide_eq_false (by omega),decide_eq_false (by omega)⟩
set_option maxHeartbeats 8000000 in
theorem rread24_calls (A:Option Addr) (m c:Nat) (b:List UInt8) (n size:Int) (w:World) (h:Sl w 1 A m (b.map bv)) (hc:m<=c) (hm:m<=137438953000) :
  Calls Tryz.prog 33 #[.slice A m c,.int .i64 n,.int .i64 size] w fun e w'=>∃ v,e=.returned v/\HrA w w' v (hrP b n size):=by
 refine F33.of A m c n size w (Q:=fun v w'=>HrA w w' v (hrP b n size)) ?_
 refine (rread23_calls mgH A m c b w h hc hm (by decide)).mono ?_
 rintro e w1 ⟨A1,n1,c1,rfl,hr1,f1,hb1⟩
 have s1:=f1.size
 refine ⟨_,rfl,var_new (sz:=2) rfl rfl (rrC_one A1 n1 c1 (rdP mgH b)) (fun b4 w6 f6 hb4 q4=>?_)⟩
 generalize hM:w.heap.size=M at *
 have hR:RdR w6 M b4 (rdP mgH b):=⟨by omega,A1,n1,c1,q4,hr1.fr f6,fun h0 k hk=>by
  have:=h.blt (by decide) (hb1 h0).1 ((hb1 h0).2 k hk)
  omega⟩
 have f06:=f1.trans1 f6
 have s6:=f6.size
 have l4:=q4.lt
 have M4:M<=b4:=hR.1
 clear hr1 hb1 q4 f6
 refine take_new hR (by omega) (.inl rfl) ⟨by omega,by omega⟩ (fun b12 w15 f15 hb12 l12 hR p12=>?_)
 have s15:=f15.size
 rw [tq0] at hR p12
 refine take_new hR (by omega) (.inl rfl) ⟨by omega,by omega⟩ (fun b21 w24 f24 hb21 l21 hR p21=>?_)
 have s24:=f24.size
 rw [tq0] at hR p21
 have p12:=p12.fr f24 (fun e=>by omega)
 refine take_new hR (by omega) (.inr (.inl rfl)) ⟨by omega,by omega⟩ (fun b30 w33 f33 hb30 l30 hR p30=>?_)
 have s33:=f33.size
 rw [tq1] at hR p30
 have p12:=p12.fr f33 (fun e=>by omega)
 have p21:=p21.fr f33 (fun e=>by omega)
 refine take_new hR (by omega) (.inl rfl) ⟨by omega,by omega⟩ (fun b39 w42 f42 hb39 l39 hR p39=>?_)
 have s42:=f42.size
 rw [tq0] at hR p39
 have p12:=p12.fr f42 (fun e=>by omega)
 have p21:=p21.fr f42 (fun e=>by omega)
 have p30:=p30.fr f42 (fun e=>by omega)
 have f0:Fr (fun _=>False) w w42:=fr_var (fr_var (fr_var (fr_var f06 (by omega) f15) (by omega) f24) (by omega) f33) (by omega) f42
 have hmany:=nmP_rg (h3P b).2 (most:=1048576) (by omega)
 have hmany:0<=(h4P b).1/\(h4P b).1<=1048576:=hmany
 have hR:RdR w42 M b4 (h4P b).2:=hR
 have p12:RecAt w42 b12 129 (paC 0 (h1P b).1 0 [] z32):=p12
 have p21:RecAt w42 b21 129 (paC 0 (h2P b).1 0 [] z32):=p21
 have p30:RecAt w42 b30 129 (paC 1 0 (h3P b).1 [] z32):=p30
 have p39:RecAt w42 b39 129 (paC 0 (h4P b).1 0 [] z32):=p39
 have e12:M<=b12/\b12 < w42.heap.size/\b12 ≠ b4:=by omega
 have e21:M<=b21/\b21 < w42.heap.size/\b21 ≠ b4:=by omega
 have e30:M<=b30/\b30 < w42.heap.size/\b30 ≠ b4:=by omega
 have e39:M<=b39/\b39 < w42.heap.size/\b39 ≠ b4:=by omega
 have e4:M<=b4/\b4 < w42.heap.size:=by omega
 have eM:M<=w42.heap.size:=by omega
 clear f1 s1 hb4 f06 s6 l4 M4 f15 hb12 l12 s15 f24 hb21 l21 s24 f33 hb30 l30 s33 f42 hb39 l39 s42
 generalize hT:w42.heap.size=T at *
 generalize hK:(h4P b).1.toNat=K
 let Oth:World->Prop:=fun u=>RecAt u b12 129 (paC 0 (h1P b).1 0 [] z32)/\RecAt u b21 129 (paC 0 (h2P b).1 0 [] z32)/\RecAt u b30 129 (paC 1 0 (h3P b).1 [] z32)/\RecAt u b39 129 (paC 0 (h4P b).1 0 [] z32)
 have othF:∀ {S:Nat->Prop} {u u':World},Oth u->Fr S u u'->(∀ k,S k->k=b4\/T<=k)->Oth u':=by
  rintro S u u' ⟨a,b,c,d⟩ f hS
  exact ⟨a.fr f (fun g=>by have:=hS _ g; omega),b.fr f (fun g=>by have:=hS _ g; omega),c.fr f (fun g=>by have:=hS _ g; omega),d.fr f (fun g=>by have:=hS _ g; omega)⟩
 refine jnC_mk (loop_rule (fun s u=>∃ (i:Nat) (r:RdS) (out:List Wo) (A1:Option Addr) (c1:Nat),s=(n,size,(b4,0),(b12,0),(b21,0),(b30,0),(b39,0),(A1,out.length,c1),(i:Int),())/\RW w u A1 out.length c1 out/\(∀ k,blkOf A1=some k->T<=k)/\RdR u M b4 r/\Oth u/\T<=u.heap.size/\out.length=i/\i<=K/\SmW out/\hwL n (K - i) r out=hwL n K (h4P b).2 []) (fun s _=>(K - s.2.2.2.2.2.2.2.2.1).toNat) ?_ _ _ ⟨0,(h4P b).2,[],none,0,rfl,RW.nile f0,(fun k hk=>by cases hk),hR,⟨p12,p21,p30,p39⟩,by omega,rfl,Nat.zero_le _,(fun _ h=>by cases h),rfl⟩)
 rintro s u C ⟨i,r,out,A1,c1,rfl,hr,hA1,hu,hO,hTu,hio,hiK,hsm,hq⟩ hC _
 have k33:(out,r)=hwL n K (h4P b).2 []->jnC (F33.k33 (fun v w'=>HrA w w' v (hrP b n size))) (n,size,(b4,0),(b12,0),(b21,0),(b30,0),(A1,out.length,c1),()) u:=by
  intro hq
  have hrp1:endP r ≠ 0->hrP b n size=([],0,endP r):=fun q=>by
   unfold hrP
   rw [hK,<- hq]
   exact if_pos q
  have hrp2:endP r=0->((h1P b).1 ≠ n\/(h2P b).1 ≠ size\/¬ ∀ x ∈ out,RgW x n)->hrP b n size=([],0,3):=fun q q'=>by
   unfold hrP
   rw [hK,<- hq]
   rw [if_neg (fun g=>g q)]
   exact if_pos q'
  have hrp3:endP r=0->¬ ((h1P b).1 ≠ n\/(h2P b).1 ≠ size\/¬ ∀ x ∈ out,RgW x n)->hrP b n size=(out,(h3P b).1,0):=fun q q'=>by
   unfold hrP
   rw [hK,<- hq]
   rw [if_neg (fun g=>g q)]
   exact if_neg q'
  obtain ⟨_,A2,n2,c2,q4,hr2,hB2⟩:=hu
  refine jnC_mk (fun _=>⟨_,rfl,rec_all q4,(rend_calls A2 n2 c2 r u hr2).mono ?_⟩)
  rintro e u1 ⟨rfl,fu1⟩
  have hr:=hr.fr fu1
  have hO:=othF hO fu1 (fun _ h=>h.elim)
  refine ⟨_,rfl,vIf_mk (fun he=>⟨_,rfl,rec_all (q4.fr fu1 (fun h=>h)),(rend_calls A2 n2 c2 r u1 (hr2.fr fu1)).mono ?_⟩) (fun he=>?_)⟩
  ·have he:endP r ≠ 0:=by simpa using he
   rintro e u2 ⟨rfl,fu2⟩
   refine ⟨_,rfl,hrE_ans (hr.f.trans1 fu2) _ ?_⟩
   exact hrp1 he
  have he:endP r=0:=by simpa using he
  have k36:∀ (t:Bool) (u2:World),Fr (fun _=>False) u1 u2->(t=true ↔ ((h1P b).1 ≠ n\/(h2P b).1 ≠ size\/¬ ∀ x ∈ out,RgW x n))->jnC (F33.k36 (fun v w'=>HrA w w' v (hrP b n size))) ((b30,0),(A1,out.length,c1),t,()) u2:=by
   intro t u2 g ht
   refine jnC_mk (fun _=>vIf_mk (fun h=>hrE_ans (hr.f.trans1 g) 3 ?_) (fun h=>jnC_mk (fun _=>?_)))
   ·exact hrp2 he (ht.1 h)
   ·have fd:Fr (fun _=>False) u2 u2.drew:=Fr.drew _ _
    refine ⟨_,((hO.2.2.1.fr g (fun h=>h)).fr fd (fun h=>h)).cell (o:=2) (pa_S _ _ _ _ _),?_⟩
    show HrA w u2.drew _ (hrP b n size)
    rw [hrp3 he (fun g=>by rw [ht.2 g] at h; cases h)]
    exact ⟨A1,c1,rfl,(hr.fr g).fr fd⟩
  refine ⟨_,hO.1.cell (o:=1) (pa_N _ _ _ _ _),vIf_mk (fun h1=>k36 true u1 (Fr.refl _ _) ⟨fun _=>.inl (by simpa using h1),fun _=>rfl⟩) (fun h1=>⟨_,hO.2.1.cell (o:=1) (pa_N _ _ _ _ _),vIf_mk (fun h2=>k36 true u1 (Fr.refl _ _) ⟨fun _=>.inr (.inl (by simpa using h2)),fun _=>rfl⟩) (fun h2=>?_)⟩)⟩
  have h1:(h1P b).1=n:=by simpa using h1
  have h2:(h2P b).1=size:=by simpa using h2
  refine (rright24_calls A1 out.length c1 out n u1 hr.sw hsm (by omega)).mono ?_
  rintro e u2 ⟨⟨t,rfl,ht⟩,fu2⟩
  refine ⟨t,rfl,k36 _ u2 fu2 ?_⟩
  constructor
  ·intro g
   refine .inr (.inr (fun g'=>?_))
   rw [ht.2 g'] at g; cases g
  ·intro g
   have g:¬ ∀ x ∈ out,RgW x n:=g.elim (fun g=>absurd h1 g) (fun g=>g.elim (fun g=>absurd h2 g) id)
   cases t with
   | false=>rfl
   | true=>exact absurd (ht.1 rfl) g
 obtain ⟨_,A2,n2,c2,q4,hr2,hB2⟩:=hu
 refine ⟨_,hO.2.2.2.cell (o:=1) (pa_N _ _ _ _ _),vIf_mk (fun hlt=>⟨r.2,q4.cell (o:=1) rfl,vIf_mk (fun h0=>jnC_mk (fun _=>?_)) (fun h0=>k33 ?_)⟩) (fun hge=>k33 ?_)⟩
 rotate_left
 ·have h0:r.2 ≠ 0:=by simpa using h0
  rw [<- hq,hwL_err n _ out h0]
 ·have hge:¬ (i:Int) < (h4P b).1:=of_decide_eq_false hge
  rw [<- hq,show K - i=0 by omega]; rfl
 have hlt:(i:Int) < (h4P b).1:=of_decide_eq_true hlt
 have h0:r.2=0:=by simpa using h0
 have hu:RdR u M b4 r:=⟨e4.1,A2,n2,c2,q4,hr2,hB2⟩
 have hbu:∀ k,blkOf A1=some k->k < u.heap.size:=fun k hk=>(hr.row.blt hk).2
 have lay:∀ (u:World) (K:Nat->World->Prop),(∀ b w',Fr (fun _=>False) u w'->u.heap.size<=b->RecAt w' b 113 (woC ⟨0,0,z32,[],0,n,0,0⟩)->K b w')->nw u Z113 113 fun b w1=>gd ((woC ⟨0,0,z32,[],0,n,0,0⟩).length == 39) (st w1 b 0 (woC ⟨0,0,z32,[],0,n,0,0⟩) fun w2=>K b w2) :=
  fun u K hK=>var_new (sz:=39) rfl (woC_len z32_len) (woC_one _) hK
 refine gd_mk rfl (lay u _ (fun b45 u1 fu1 hb45 r45=>rec_new (fun b48 u2 fu2 hb48 r48=>?_)))
 have su1:=fu1.size
 have su2:=fu2.size
 have l45:=r45.lt
 have l48:=r48.lt
 have r45:=r45.fr fu2 (fun h=>h)
 have hr:=(hr.fr fu1).fr fu2
 have hO:=othF (othF hO fu1 (fun _ h=>h.elim)) fu2 (fun _ h=>h.elim)
 have hu:=(hu.fr fu1 (fun _ h=>h.elim)).fr fu2 (fun _ h=>h.elim)
 have n45:b45 ≠ b48/\b45 ≠ b4/\b48 ≠ b4/\T<=b45/\T<=b48:=by omega
 let Inv:World->Prop:=fun u=>RW w u A1 out.length c1 out/\Oth u/\T<=u.heap.size/\b45 < u.heap.size
 have invF:∀ {S:Nat->Prop} {u u':World},Inv u->Fr S u u'->(∀ k,S k->k=b4\/k=b45\/k=b48)->Inv u':=by
  rintro S u u' ⟨a,b,c,d⟩ f hS
  have:=f.size
  refine ⟨a.varS f (fun k hk=>⟨by have:=hS _ hk; omega,fun e=>?_⟩),othF b f (fun k hk=>by have:=hS _ hk; omega),by omega,by omega⟩
  have g1:=hbu _ e
  have g2:=hA1 _ e
  have:=hS _ hk
  omega
 have hI:Inv u2:=⟨hr,hO,by omega,by omega⟩
 clear hO l48 l45 hr fu1 fu2 q4 hr2 hB2
 have k28:∀ (u:World) (x:Wo) (P:List Value),x.d.length=32->Inv u->RdR u M b4 (hw5 r)->RecAt u b45 113 (woC x)->RecAt u b48 129 P->P.length=36 ->
   { x with o:=(nmP (hw5 r) 1048576).1,q:=(nmP (hw6 r) 1048576).1 }=(wdH r n).1->jnC (F33.k28 (fun v w'=>HrA w w' v (hrP b n size)) C) (n,size,(b4,0),(b12,0),(b21,0),(b30,0),(b39,0),(A1,out.length,c1),(i:Int),(b45,0),(b48,0),()) u:=by
  intro u x P dx hI hu r45 r48 hP hx
  refine jnC_mk (fun _=>take_step (b4:=b4) (bp:=b48) hu r48 hP n45.2.2.1 (by omega) (.inl rfl) ⟨by omega,by omega⟩ (fun u1 g1 hu r48=>?_))
  rw [tq0] at hu r48
  dsimp only at hu r48
  have hu:RdR u1 M b4 (hw6 r):=hu
  have hI:=invF hI g1 (fun k h=>by omega)
  have r45:=r45.fr g1 (fun h=>by omega)
  refine ⟨_,r48.cell (o:=1) (pa_N _ _ _ _ _),r45.st_mk (o:=37) (by rw [woC_len dx]; show 37+1<=39; omega) (fun v hv=>by simp at hv; subst hv; rfl) (fun r45 g2=>?_)⟩
  rw [woC_sto dx] at r45
  have hI:=invF hI g2 (fun k h=>by omega)
  have hu:=hu.fr g2 (fun k h=>by omega)
  have r48:=r48.fr g2 (fun h=>by omega)
  refine take_step (b4:=b4) (bp:=b48) hu r48 (paC_len z32_len) n45.2.2.1 (by omega) (.inl rfl) ⟨by omega,by omega⟩ (fun u3 g3 hu r48=>?_)
  rw [tq0] at hu r48
  dsimp only at hu r48
  have hI:=invF hI g3 (fun k h=>by omega)
  have r45:=r45.fr g3 (fun h=>by omega)
  refine ⟨_,r48.cell (o:=1) (pa_N _ _ _ _ _),r45.st_mk (o:=38) (by rw [woC_len (x:={ x with o:=(nmP (hw5 r) 1048576).1 }) dx]; show 38+1<=39; omega) (fun v hv=>by simp at hv; subst hv; rfl) (fun r45 g4=>?_)⟩
  rw [woC_stq (x:={ x with o:=(nmP (hw5 r) 1048576).1 }) dx] at r45
  have hI:=invF hI g4 (fun k h=>by omega)
  have hu:RdR _ M b4 (wdH r n).2:=hu.fr g4 (fun k h=>by omega)
  have hwd:=wdH_d r n
  dsimp only at r45
  rw [hx] at r45
  obtain ⟨hr,hO,hT2,hb2⟩:=hI
  refine ⟨woC (wdH r n).1,woC_len hwd,rec_all r45,gd_mk (by rw [woC_len hwd]; rfl) (pushW2_mk hr hwd (by show out.length < _; omega) (fun A5 c5 u5 hr5 g5 hb5=>jnC_mk (hC _ _ ⟨i+1,(wdH r n).2,out ++ [(wdH r n).1],A5,c5,?_,?_,?_,?_,?_,?_,?_,by omega,?_,?_⟩ ?_)))⟩
  ·show (_,_,_,_,_,_,_,_,IntKind.wrap .i64 ((i:Int)+1),())=_
   rw [i64_id (by omega) (by omega),List.length_append]; rfl
  ·rw [List.length_append]; exact hr5
  ·intro k hk
   rcases hb5 k hk with g | g
   ·exact hA1 k g
   ·omega
  ·exact hu.fr g5 (fun k hk=>by have:=hA1 _ hk.2; omega)
  ·exact othF hO g5 (fun k hk=>.inr (hA1 _ hk.2))
  ·have:=g5.size; omega
  ·rw [List.length_append,hio]; rfl
  ·intro y hy
   rcases List.mem_append.1 hy with g | g
   ·exact hsm y g
   ·simp at g; subst g; exact wdH_nm r n
  ·rw [<- hq,show K - i=(K - (i+1))+1 by omega]
   show _=if r.2 ≠ 0 then _ else _
   rw [if_neg (fun h=>h h0)]
  ·show ((K:Int) - IntKind.wrap .i64 ((i:Int)+1)).toNat < ((K:Int) - (i:Int)).toNat
   rw [i64_id (by omega) (by omega)]; omega
 have k25:∀ (u:World) (x:Wo) (P:List Value),x.d.length=32->x.z=0->Inv u->RdR u M b4 (hw4 r)->RecAt u b45 113 (woC x)->RecAt u b48 129 P->P.length=36 ->
   { x with z:=(hwZ (nmP r 8).1 (hw4 r)).1,o:=(nmP (hw5 r) 1048576).1,q:=(nmP (hw6 r) 1048576).1 }=(wdH r n).1->jnC (F33.k25 (fun v w'=>HrA w w' v (hrP b n size)) C) (n,size,(b4,0),(b12,0),(b21,0),(b30,0),(b39,0),(A1,out.length,c1),(i:Int),(b45,0),(b48,0),decide (ofZ (nmP r 8).1),()) u:=by
  intro u x P dx zx hI hu r45 r48 hP hx
  refine jnC_mk (fun _=>vIf_mk (fun hZ=>take_step (b4:=b4) (bp:=b48) hu r48 hP n45.2.2.1 (by omega) (.inl rfl) ⟨by omega,by omega⟩ (fun u1 g1 hu r48=>?_)) (fun hZ=>?_))
  ·have hZ:=of_decide_eq_true hZ
   have e1:(hwZ (nmP r 8).1 (hw4 r))=nmP (hw4 r) 1048576:=by unfold hwZ; rw [if_pos hZ]
   have h5:hw5 r=(nmP (hw4 r) 1048576).2:=by show (hwZ (nmP r 8).1 (hw4 r)).2=_; rw [e1]
   rw [tq0] at hu r48
   have hI:=invF hI g1 (fun k h=>by omega)
   have r45:=r45.fr g1 (fun h=>by omega)
   refine ⟨_,r48.cell (o:=1) (pa_N _ _ _ _ _),r45.st_mk (o:=35) (by rw [woC_len dx]; show 35+1<=39; omega) (fun v hv=>by simp at hv; subst hv; rfl) (fun r45 g2=>?_)⟩
   rw [woC_stz dx] at r45
   refine k28 _ { x with z:=(nmP (hw4 r) 1048576).1 } _ dx (invF hI g2 (fun k h=>by omega)) ?_ r45 (r48.fr g2 (fun h=>by omega)) (paC_len z32_len) ?_
   ·rw [h5]; exact hu.fr g2 (fun k h=>by omega)
   ·rw [<- hx,e1]
  ·have hZ:=of_decide_eq_false hZ
   have e1:(hwZ (nmP r 8).1 (hw4 r))=(0,hw4 r):=by unfold hwZ; rw [if_neg hZ]
   have h5:hw5 r=hw4 r:=by show (hwZ (nmP r 8).1 (hw4 r)).2=_; rw [e1]
   refine k28 u x P dx hI (by rw [h5]; exact hu) r45 r48 hP ?_
   rw [<- hx,e1,<- zx]
 have k22:∀ (u:World) (x:Wo) (P:List Value),x.d.length=32->x.z=0->x.nm=[]->Inv u->RdR u M b4 (hw3 r)->RecAt u b45 113 (woC x)->RecAt u b48 129 P->P.length=36 ->
   { x with nm:=(hwN (nmP r 8).1 (hw3 r)).1,z:=(hwZ (nmP r 8).1 (hw4 r)).1,o:=(nmP (hw5 r) 1048576).1,q:=(nmP (hw6 r) 1048576).1 }=(wdH r n).1->jnC (F33.k22 (fun v w'=>HrA w w' v (hrP b n size)) C) (n,size,(b4,0),(b12,0),(b21,0),(b30,0),(b39,0),(A1,out.length,c1),(i:Int),(b45,0),(b48,0),decide (ofN (nmP r 8).1),decide (ofZ (nmP r 8).1),()) u:=by
  intro u x P dx zx nx hI hu r45 r48 hP hx
  refine jnC_mk (fun _=>vIf_mk (fun hN=>take_step (b4:=b4) (bp:=b48) hu r48 hP n45.2.2.1 (by omega) (.inr (.inr (.inl rfl))) ⟨by omega,by omega⟩ (fun u1 g1 hu r48=>?_)) (fun hN=>?_))
  ·have hN:=of_decide_eq_true hN
   have e1:(hwN (nmP r 8).1 (hw3 r))=txtP (hw3 r):=by unfold hwN; rw [if_pos hN]
   have h4:hw4 r=(txtP (hw3 r)).2:=by show (hwN (nmP r 8).1 (hw3 r)).2=_; rw [e1]
   rw [tq2] at hu r48
   have hI:=invF hI g1 (fun k h=>by omega)
   have r45:=r45.fr g1 (fun h=>by omega)
   refine ⟨_,r48.cell (o:=3) (pa_T _ _ _ _ _),r45.st_mk (o:=34) (by rw [woC_len dx]; show 34+1<=39; omega) (fun v hv=>by simp at hv; subst hv; rfl) (fun r45 g2=>?_)⟩
   rw [woC_stn dx] at r45
   refine k25 _ { x with nm:=(txtP (hw3 r)).1 } _ dx zx (invF hI g2 (fun k h=>by omega)) ?_ r45 (r48.fr g2 (fun h=>by omega)) (paC_len z32_len) ?_
   ·rw [h4]; exact hu.fr g2 (fun k h=>by omega)
   ·rw [<- hx,e1]
  ·have hN:=of_decide_eq_false hN
   have e1:(hwN (nmP r 8).1 (hw3 r))=([],hw3 r):=by unfold hwN; rw [if_neg hN]
   have h4:hw4 r=hw3 r:=by show (hwN (nmP r 8).1 (hw3 r)).2=_; rw [e1]
   refine k25 u x P dx zx hI (by rw [h4]; exact hu) r45 r48 hP ?_
   rw [<- hx,e1,<- nx]
 have k19:∀ (u:World) (P:List Value),Inv u->RdR u M b4 (hw2 r)->RecAt u b45 113 (woC ⟨(nmP r 8).1,(sqP (nmP r 8).2).1,z32,[],0,n,0,0⟩)->RecAt u b48 129 P->P.length=36 ->
   jnC (F33.k19 (fun v w'=>HrA w w' v (hrP b n size)) C) (n,size,(b4,0),(b12,0),(b21,0),(b30,0),(b39,0),(A1,out.length,c1),(i:Int),(b45,0),(b48,0),decide (ofD (nmP r 8).1),decide (ofN (nmP r 8).1),decide (ofZ (nmP r 8).1),()) u:=by
  intro u P hI hu r45 r48 hP
  refine jnC_mk (fun _=>vIf_mk (fun hD=>take_step (b4:=b4) (bp:=b48) hu r48 hP n45.2.2.1 (by omega) (.inr (.inr (.inr rfl))) ⟨by omega,by omega⟩ (fun u1 g1 hu r48=>?_)) (fun hD=>?_))
  ·have hD:=of_decide_eq_true hD
   have e1:(hwD (nmP r 8).1 (hw2 r))=dgP (hw2 r):=by unfold hwD; rw [if_pos hD]
   have h3:hw3 r=(dgP (hw2 r)).2:=by show (hwD (nmP r 8).1 (hw2 r)).2=_; rw [e1]
   rw [tq3] at hu r48
   have hI:=invF hI g1 (fun k h=>by omega)
   have r45:=r45.fr g1 (fun h=>by omega)
   refine ⟨(dgP (hw2 r)).1.map bv,by rw [List.length_map,dgP_len],r48.cells (o:=4) (fun j v hj=>pa_D j v hj),gd_mk (by rw [List.length_map,dgP_len]; rfl) (r45.st_mk (o:=2) (by rw [woC_len z32_len,List.length_map,dgP_len]; omega) (bvs_one _) (fun r45 g2=>?_))⟩
   rw [woC_std (x:=⟨(nmP r 8).1,(sqP (nmP r 8).2).1,z32,[],0,n,0,0⟩) z32_len dgP_len] at r45
   refine k22 _ ⟨(nmP r 8).1,(sqP (nmP r 8).2).1,(dgP (hw2 r)).1,[],0,n,0,0⟩ _ dgP_len rfl rfl (invF hI g2 (fun k h=>by omega)) ?_ r45 (r48.fr g2 (fun h=>by omega)) (paC_len dgP_len) ?_
   ·rw [h3]; exact hu.fr g2 (fun k h=>by omega)
   ·unfold wdH
    rw [e1]
  ·have hD:=of_decide_eq_false hD
   have e1:(hwD (nmP r 8).1 (hw2 r))=(z32,hw2 r):=by unfold hwD; rw [if_neg hD]
   have h3:hw3 r=hw2 r:=by show (hwD (nmP r 8).1 (hw2 r)).2=_; rw [e1]
   refine k22 u ⟨(nmP r 8).1,(sqP (nmP r 8).2).1,z32,[],0,n,0,0⟩ P z32_len rfl rfl hI (by rw [h3]; exact hu) r45 r48 hP ?_
   unfold wdH
   rw [e1]
 refine take_step (b4:=b4) (bp:=b48) hu r48 rfl n45.2.2.1 (by omega) (.inl rfl) ⟨by omega,by omega⟩ (fun u3 g3 hu r48=>?_)
 rw [tq0] at hu r48
 have hI:=invF hI g3 (fun k h=>by omega)
 have r45:=r45.fr g3 (fun h=>by omega)
 refine ⟨_,r48.cell (o:=1) (pa_N _ _ _ _ _),r45.st_mk (o:=0) (by rw [woC_len z32_len]; show 0+1<=39; omega) (fun v hv=>by simp at hv; subst hv; rfl) (fun r45 g4=>?_)⟩
 have r45:RecAt _ b45 113 (woC ⟨(nmP r 8).1,0,z32,[],0,n,0,0⟩):=r45
 have hI:=invF hI g4 (fun k h=>by omega)
 have hu:=hu.fr g4 (fun k h=>by omega)
 have r48:=r48.fr g4 (fun h=>by omega)
 refine take_step (b4:=b4) (bp:=b48) hu r48 (paC_len z32_len) n45.2.2.1 (by omega) (.inr (.inl rfl)) ⟨by omega,by omega⟩ (fun u5 g5 hu r48=>?_)
 rw [tq1] at hu r48
 have hI:=invF hI g5 (fun k h=>by omega)
 have r45:=r45.fr g5 (fun h=>by omega)
 refine ⟨_,r48.cell (o:=2) (pa_S _ _ _ _ _),r45.st_mk (o:=1) (by rw [woC_len z32_len]; show 1+1<=39; omega) (fun v hv=>by simp at hv; subst hv; rfl) (fun r45 g6=>?_)⟩
 rw [woC_sts] at r45
 have hI:=invF hI g6 (fun k h=>by omega)
 have hu:RdR _ M b4 (hw2 r):=hu.fr g6 (fun k h=>by omega)
 have r48:=r48.fr g6 (fun h=>by omega)
 refine ⟨_,r45.cell (o:=0) (wo_k _),(rhas_calls (nmP r 8).1 _).mono ?_⟩
 rintro e u7 ⟨⟨td,tm,tz,rfl,ht⟩,rfl⟩
 refine ⟨_,_,_,rfl,_,r45.cell (o:=0) (wo_k _),vIf_mk (fun h1=>?_) (fun h1=>⟨_,r45.cell (o:=0) (wo_k _),vIf_mk (fun h5=>?_) (fun h5=>?_)⟩)⟩
 ·have h1:(nmP r 8).1 < 1:=of_decide_eq_true h1
  obtain ⟨a1,a2,a3⟩:=ofs_false (.inl h1)
  have:=k19 _ _ hI hu r45 r48 (paC_len z32_len)
  rw [a1,a2,a3] at this
  exact this
 ·have h5:(nmP r 8).1 > 5:=of_decide_eq_true h5
  obtain ⟨a1,a2,a3⟩:=ofs_false (.inr h5)
  have:=k19 _ _ hI hu r45 r48 (paC_len z32_len)
  rw [a1,a2,a3] at this
  exact this
 ·have h1:¬ (nmP r 8).1 < 1:=of_decide_eq_false h1
  have h5:¬ (nmP r 8).1 > 5:=of_decide_eq_false h5
  obtain ⟨rfl,rfl,rfl⟩:=ht (by omega) (by omega)
  exact k19 _ _ hI hu r45 r48 (paC_len z32_len)
end Go.Proofs.YthcdionpeoobbaaGreatDoor
namespace Go.Proofs.YthcdionpeoobbaaGreatDoor.Nm8
open Go.GV Go.RowKit Go.Lib
theorem nil_iff (s:ByteArray):(s.toList == (⟨#[]⟩:ByteArray).toList)=decide (s.size=0):=by
 rw [ByteArray.toList_eq,ByteArray.toList_eq]
 have h:s.size=s.data.toList.length:=by rw [Array.length_toList]; rfl
 rw [h]
 cases hl:s.data.toList with
 | nil=>rfl
 | cons a r=>simp
theorem ndec_t {p:Prop} [Decidable p] (h:(!decide p)=true):¬ p:=by simpa using h
theorem ndec_f {p:Prop} [Decidable p] (h:(!decide p)=false):p:=by simpa using h
def dg (n:Nat):UInt8:=UInt8.ofNat (48+n % 10)
theorem dg_nat (n:Nat):(dg n).toNat=48+n % 10:=by
 unfold dg
 rw [UInt8.toNat_ofNat']
 omega
def digs:Nat->Nat->List UInt8
 | 0,_=>[]
 | k+1,n=>digs k (n / 10) ++ [dg n]
theorem digs_len:∀ k n,(digs k n).length=k
 | 0,_=>rfl
 | k+1,n=>by simp [digs,digs_len k]
theorem digs_cons:∀ k n,digs (k+1) n=dg (n / 10 ^ k) :: digs k n
 | 0,n=>by simp [digs]
 | k+1,n=>by
  have h:digs (k+2) n=digs (k+1) (n / 10) ++ [dg n]:=rfl
  rw [h,digs_cons k (n / 10)]
  show dg (n / 10 / 10 ^ k) :: (digs k (n / 10) ++ [dg n])=_
  have e:n / 10 / 10 ^ k=n / 10 ^ (k+1):=by rw [Nat.div_div_eq_div_mul,Nat.pow_succ,Nat.mul_comm]
  rw [e]; rfl
theorem digs_zero:∀ k,digs k 0=repeatL [48] k
 | 0=>rfl
 | k+1=>by
  rw [digs_cons,Nat.zero_div,digs_zero k]; rfl
theorem dec_small {u:Nat} (h:u < 10):decDigits u=[dg u]:=by
 rw [decDigits,dif_pos h]
 unfold dg
 rw [Nat.mod_eq_of_lt h]
theorem dec_big {u:Nat} (h:¬ u < 10):decDigits u=decDigits (u / 10) ++ [dg u]:=by
 rw [decDigits,dif_neg h]; rfl
theorem pad_digs:∀ (k u:Nat),u < 10 ^ (k+1)->(decDigits u).length<=k+1/\repeatL [48] (k+1 - (decDigits u).length) ++ decDigits u=digs (k+1) u
 | 0,u,h=>by
  have h:u < 10:=by simpa using h
  rw [dec_small h]
  exact ⟨Nat.le_refl _,rfl⟩
 | k+1,u,h=>by
  by_cases h10:u < 10
  ·rw [dec_small h10]
   refine ⟨by simp,?_⟩
   show repeatL [48] (k+1) ++ [dg u]=digs (k+1) (u / 10) ++ [dg u]
   rw [Nat.div_eq_of_lt h10,digs_zero]
  ·have hd:u / 10 < 10 ^ (k+1):=by rw [Nat.pow_succ] at h; omega
   obtain ⟨h1,h2⟩:=pad_digs k (u / 10) hd
   rw [dec_big h10,List.length_append,List.length_singleton]
   refine ⟨by omega,?_⟩
   rw [show k+1+1 - ((decDigits (u / 10)).length+1)=k+1 - (decDigits (u / 10)).length by omega,<- List.append_assoc,h2]
   rfl
def wl (k:Int):List UInt8:=if k=1 then [115,101,103,45] else if k=2 then [104,105,110,116,45] else if k=3 then [112,111,105,110,116,45] else []
def good (k n:Int):Prop:=1<=k/\k<=3/\1<=n/\n<=99999999
instance (k n:Int):Decidable (good k n):=by unfold good; infer_instance
def fileL (k n:Int):List UInt8:=if good k n then wl k ++ digs 8 n.toNat else []
theorem fileL_good {k n:Int} (h:good k n):fileL k n=wl k ++ digs 8 n.toNat:=if_pos h
theorem fileL_nil {k n:Int} (h:¬ good k n):fileL k n=[]:=if_neg h
theorem kinds {k:Int} (h1:1<=k) (h3:k<=3):k=1\/k=2\/k=3:=by omega
end Go.Proofs.YthcdionpeoobbaaGreatDoor.Nm8
namespace Go.Proofs
open Go.Shelf
def Tryz.laysM171_ren:Go.Shelf.Ren:=⟨fun | 171=>49 | 243=>82 | 246=>138 | 283=>171 | 284=>172 | 285=>173 | 286=>174 | 129=>137 | 317=>189 | 318=>190 | 319=>191 | 320=>192 | 337=>195 | 338=>196 | n=>n,fun | 3=>3 | 9=>9 | 2=>2 | 4=>4 | 171=>254 | 0=>0 | 53=>41 | 37=>52 | 5=>5 | 173=>256 | 212=>278 | 51=>170 | 20=>20 | 213=>279 | 46=>142 | 232=>89 | 233=>281 | n=>n,fun | 17=>1 | 18=>2 | 19=>3 | n=>n⟩
theorem Tryz.laysM171:Go.Proofs.LaysM.n171 Tryz.prog Tryz.laysM171_ren:={
 mixed:=by kernel_rfl
 f129:=Tryz.func137.trans (congrArg some (by kernel_rfl))
 f171:=Tryz.func49.trans (congrArg some (by kernel_rfl))
 f243:=Tryz.func82.trans (congrArg some (by kernel_rfl))
 f246:=Tryz.func138.trans (congrArg some (by kernel_rfl))
 f283:=Tryz.func171.trans (congrArg some (by kernel_rfl))
 f284:=Tryz.func172.trans (congrArg some (by kernel_rfl))
 f285:=Tryz.func173.trans (congrArg some (by kernel_rfl))
 f286:=Tryz.func174.trans (congrArg some (by kernel_rfl))
 f317:=Tryz.func189.trans (congrArg some (by kernel_rfl))
 f318:=Tryz.func190.trans (congrArg some (by kernel_rfl))
 f319:=Tryz.func191.trans (congrArg some (by kernel_rfl))
 f320:=Tryz.func192.trans (congrArg some (by kernel_rfl))
 f337:=Tryz.func195.trans (congrArg some (by kernel_rfl))
 f338:=Tryz.func196.trans (congrArg some (by kernel_rfl))
 t0:=Tryz.underlying0
 a0:=Tryz.isAgg0
 z0:=Tryz.sizeOf0
 v0:=Tryz.zeroValue0
 t2:=Tryz.underlying2
 a2:=Tryz.isAgg2
 z2:=Tryz.sizeOf2
 v2:=Tryz.zeroValue2
 t3:=Tryz.underlying3
 a3:=Tryz.isAgg3
 z3:=Tryz.sizeOf3
 v3:=Tryz.zeroValue3
 t4:=Tryz.underlying4
 a4:=Tryz.isAgg4
 z4:=Tryz.sizeOf4
 v4:=Tryz.zeroValue4
 t5:=Tryz.underlying5
 a5:=Tryz.isAgg5
 z5:=Tryz.sizeOf5
 v5:=Tryz.zeroValue5
 t9:=Tryz.underlying9
 a9:=Tryz.isAgg9
 z9:=Tryz.sizeOf9
 v9:=Tryz.zeroValue9
 t20:=Tryz.underlying20
 a20:=Tryz.isAgg20
 z20:=Tryz.sizeOf20
 v20:=Tryz.zeroValue20
 t37:=Tryz.underlying52
 a37:=Tryz.isAgg52
 z37:=Tryz.sizeOf52
 v37:=Tryz.zeroValue52
 t46:=Tryz.underlying142
 a46:=Tryz.isAgg142
 z46:=Tryz.sizeOf142
 v46:=Tryz.zeroValue142
 t51:=Tryz.underlying170
 a51:=Tryz.isAgg170
 z51:=Tryz.sizeOf170
 v51:=Tryz.zeroValue170
 t53:=Tryz.underlying41
 a53:=Tryz.isAgg41
 z53:=Tryz.sizeOf41
 v53:=Tryz.zeroValue41
 t171:=Tryz.underlying254
 a171:=Tryz.isAgg254
 z171:=Tryz.sizeOf254
 v171:=Tryz.zeroValue254
 t173:=Tryz.underlying256
 a173:=Tryz.isAgg256
 z173:=Tryz.sizeOf256
 v173:=Tryz.zeroValue256
 t212:=Tryz.underlying278
 a212:=Tryz.isAgg278
 z212:=Tryz.sizeOf278
 v212:=Tryz.zeroValue278
 t213:=Tryz.underlying279
 a213:=Tryz.isAgg279
 z213:=Tryz.sizeOf279
 t232:=Tryz.underlying89
 a232:=Tryz.isAgg89
 z232:=Tryz.sizeOf89
 v232:=Tryz.zeroValue89
 t233:=Tryz.underlying281
 a233:=Tryz.isAgg281
 z233:=Tryz.sizeOf281
 v233:=Tryz.zeroValue281
 g17:=by kernel_rfl
 g18:=by kernel_rfl
 g19:=by kernel_rfl
 i0:=by kernel_rfl
 i2:=by kernel_rfl
 i3:=by kernel_rfl
 i4:=by kernel_rfl
 i5:=by kernel_rfl
 i9:=by kernel_rfl
 i20:=by kernel_rfl
 i37:=by kernel_rfl
 i46:=by kernel_rfl
 i51:=by kernel_rfl
 i53:=by kernel_rfl
 i171:=by kernel_rfl
 i173:=by kernel_rfl
 i212:=by kernel_rfl
 i232:=by kernel_rfl
 i233:=by kernel_rfl
 m17:=by kernel_rfl
 m18:=by kernel_rfl
 m19:=by kernel_rfl }
open Go.RowKit Go.Sort Go.Lib in
theorem Tryz.strconv_Itoa (n : Int) (h0 : -9223372036854775808 <= n) (h1 : n <= 9223372036854775807) (w : World) (htab : Lib.TabIs Tryz.prog w "internal/strconv.uint64pow10" .u64 Lib.pow10Tab) :
  Calls Tryz.prog 49 #[.int .i64 n] w fun e w'=>e=.returned (.string ⟨(Lib.itoa n).toArray⟩)/\∃ k os,w'=grow (w.drewN k) os:=Any.strconv_Itoa Tryz.laysM171 n h0 h1 w htab
def Tryz.lays105_ren:Go.Shelf.Ren:=⟨fun | 105=>50 | 212=>83 | 99=>84 | 165=>85 | 166=>86 | 170=>87 | 169=>88 | 263=>139 | 264=>140 | 206=>141 | 240=>142 | 241=>143 | 276=>175 | 277=>176 | n=>n,fun | 9=>9 | 3=>3 | 4=>4 | 20=>20 | 0=>0 | 46=>142 | 109=>153 | 5=>5 | 72=>158 | 76=>161 | 51=>170 | 146=>226 | 53=>41 | 148=>228 | 70=>156 | 37=>52 | 75=>160 | 127=>230 | 164=>258 | 80=>164 | n=>n,fun | n=>n⟩
theorem Tryz.lays105:Go.Proofs.Lays.n105 Tryz.prog Tryz.lays105_ren:={
 mixed:=by kernel_rfl
 f99:=Tryz.func84.trans (congrArg some (by kernel_rfl))
 f105:=Tryz.func50.trans (congrArg some (by kernel_rfl))
 f165:=Tryz.func85.trans (congrArg some (by kernel_rfl))
 f166:=Tryz.func86.trans (congrArg some (by kernel_rfl))
 f169:=Tryz.func88.trans (congrArg some (by kernel_rfl))
 f170:=Tryz.func87.trans (congrArg some (by kernel_rfl))
 f206:=Tryz.func141.trans (congrArg some (by kernel_rfl))
 f212:=Tryz.func83.trans (congrArg some (by kernel_rfl))
 f240:=Tryz.func142.trans (congrArg some (by kernel_rfl))
 f241:=Tryz.func143.trans (congrArg some (by kernel_rfl))
 f263:=Tryz.func139.trans (congrArg some (by kernel_rfl))
 f264:=Tryz.func140.trans (congrArg some (by kernel_rfl))
 f276:=Tryz.func175.trans (congrArg some (by kernel_rfl))
 f277:=Tryz.func176.trans (congrArg some (by kernel_rfl))
 t0:=Tryz.underlying0
 a0:=Tryz.isAgg0
 z0:=Tryz.sizeOf0
 v0:=Tryz.zeroValue0
 t3:=Tryz.underlying3
 a3:=Tryz.isAgg3
 z3:=Tryz.sizeOf3
 v3:=Tryz.zeroValue3
 t4:=Tryz.underlying4
 a4:=Tryz.isAgg4
 z4:=Tryz.sizeOf4
 v4:=Tryz.zeroValue4
 t5:=Tryz.underlying5
 a5:=Tryz.isAgg5
 z5:=Tryz.sizeOf5
 v5:=Tryz.zeroValue5
 t9:=Tryz.underlying9
 a9:=Tryz.isAgg9
 z9:=Tryz.sizeOf9
 v9:=Tryz.zeroValue9
 t20:=Tryz.underlying20
 a20:=Tryz.isAgg20
 z20:=Tryz.sizeOf20
 v20:=Tryz.zeroValue20
 t37:=Tryz.underlying52
 a37:=Tryz.isAgg52
 z37:=Tryz.sizeOf52
 v37:=Tryz.zeroValue52
 t46:=Tryz.underlying142
 a46:=Tryz.isAgg142
 z46:=Tryz.sizeOf142
 v46:=Tryz.zeroValue142
 t51:=Tryz.underlying170
 a51:=Tryz.isAgg170
 z51:=Tryz.sizeOf170
 v51:=Tryz.zeroValue170
 t53:=Tryz.underlying41
 a53:=Tryz.isAgg41
 z53:=Tryz.sizeOf41
 v53:=Tryz.zeroValue41
 t70:=Tryz.underlying156
 a70:=Tryz.isAgg156
 z70:=Tryz.sizeOf156
 v70:=Tryz.zeroValue156
 t72:=Tryz.underlying158
 a72:=Tryz.isAgg158
 z72:=Tryz.sizeOf158
 v72:=Tryz.zeroValue158
 t75:=Tryz.underlying160
 a75:=Tryz.isAgg160
 z75:=Tryz.sizeOf160
 v75:=Tryz.zeroValue160
 t76:=Tryz.underlying161
 a76:=Tryz.isAgg161
 z76:=Tryz.sizeOf161
 v76:=Tryz.zeroValue161
 t109:=Tryz.underlying153
 a109:=Tryz.isAgg153
 z109:=Tryz.sizeOf153
 v109:=Tryz.zeroValue153
 t127:=Tryz.underlying230
 a127:=Tryz.isAgg230
 z127:=Tryz.sizeOf230
 v127:=Tryz.zeroValue230
 t146:=Tryz.underlying226
 a146:=Tryz.isAgg226
 z146:=Tryz.sizeOf226
 v146:=Tryz.zeroValue226
 t148:=Tryz.underlying228
 a148:=Tryz.isAgg228
 z148:=Tryz.sizeOf228
 v148:=Tryz.zeroValue228
 t164:=Tryz.underlying258
 a164:=Tryz.isAgg258
 z164:=Tryz.sizeOf258
 v164:=Tryz.zeroValue258 }
theorem Tryz.Builder_Extra_105:Builder.Extra Tryz.prog Tryz.lays105_ren:={
 sizeBuilder:=by kernel_rfl
 liesBuilder:=by kernel_rfl
 t5:=Tryz.underlying5
 a5:=Tryz.isAgg5
 z5:=Tryz.sizeOf5
 v5:=Tryz.zeroValue5
 infoByte:=by kernel_rfl
 cellsByte:=by kernel_rfl
 sizeByte:=by kernel_rfl
 neB5:=by decide }
open Go.RowKit Go.Lib in
theorem Tryz.strings_Repeat (s:ByteArray) (c:Nat) (w:World) (hc:c<=9223372036854775807) (hlen:s.size * c<=140737488355328) :
  Calls Tryz.prog 50 #[.string s,.int .i64 c] w fun e w'=>e=.returned (.string ⟨(Lib.repeatL s.data.toList c).toArray⟩)/\Below w.heap.size w w':=Any.strings_Repeat Tryz.lays105 Tryz.Builder_Extra_105 s c w hc hlen
end Go.Proofs
namespace Go.Proofs.YthcdionpeoobbaaGreatDoor.Nm8
open Go.GV Go.RowKit Go.Lib
def bs (l:List UInt8):ByteArray:=⟨l.toArray⟩
theorem bs_size (l:List UInt8):(bs l).size=l.length:=by simp [bs,ByteArray.size]
theorem bs_app (a b:List UInt8):bs a ++ bs b=bs (a ++ b):=by
 apply ByteArray.ext
 simp [bs,ByteArray.data_append]
structure VK (w:World):Prop where
 tab : Lib.TabIs Tryz.prog w "internal/strconv.uint64pow10" .u64 Lib.pow10Tab
theorem var_fr {w w':World} {n:String} {cs:Array Value} (f:Fr (fun _=>False) w w') (h:w.var? Tryz.prog n=some cs):w'.var? Tryz.prog n=some cs:=by
 unfold World.var? at h ⊢
 cases hg:Tryz.prog.globalNamed n with
 | none=>rw [hg] at h; cases h
 | some g =>
  simp only [hg,Option.bind_some] at h ⊢
  have hlt:g < w.heap.size:=by
   rcases Nat.lt_or_ge g w.heap.size with h' | h'
   ·exact h'
   ·rw [Array.getElem?_eq_none h'] at h; cases h
  rw [f.block g hlt (fun h=>h)]
  exact h
theorem VK.fr {w w':World} (h:VK w) (f:Fr (fun _=>False) w w'):VK w':=⟨var_fr f h.tab⟩
theorem below_fr {w w':World} (h:Below w.heap.size w w'):Fr (fun _=>False) w w':=Fr.of_below h (fun k hk hB=>by omega)
theorem grow_fr (w:World) (k:Nat) (os:Array Obj):Fr (fun _=>False) w (Go.Sort.grow (w.drewN k) os):=by
 refine ⟨rfl,rfl,rfl,?_,fun j hj _=>?_⟩
 ·show w.heap.size<=(w.heap ++ os).size
  rw [Array.size_append]; omega
 ·show (w.heap ++ os)[j]?=w.heap[j]?
  rw [Array.getElem?_append_left hj]
theorem fourC (k:Int) (h1:1<=k) (h3:k<=3):([Value.string (⟨#[]⟩:ByteArray),.string ⟨#[115,101,103,45]⟩,.string ⟨#[104,105,110,116,45]⟩,.string ⟨#[112,111,105,110,116,45]⟩]:List Value)[k.toNat]?=some (.string (bs (wl k))):=by
 rcases kinds h1 h3 with rfl | rfl | rfl <;> rfl
theorem wl_nil {k:Int} (h:¬ (1<=k/\k<=3)):wl k=[]:=by
 unfold wl
 rw [if_neg (by omega),if_neg (by omega),if_neg (by omega)]
theorem word_calls (k:Int) (w:World):Calls Tryz.prog 48 #[.int .i64 k] w fun e w'=>e=.returned (.string (bs (wl k)))/\Fr (fun _=>False) w w':=by
 refine (F48.of k w (Q:=fun v w'=>v=.string (bs (wl k))/\Fr (fun _=>False) w w') ?_).mono (fun e w' ⟨v,he,hv,h⟩=>⟨by rw [he,hv],h⟩)
 refine nw_mk (gd_mk rfl ?_)
 have f1:Fr (fun _=>False) w (w.alloc (.cells Z152.toArray 152)):=Fr.alloc _ _ _
 refine (RecAt.new w Z152 152).st_mk (o:=0) (vs:=[Value.string (⟨#[]⟩:ByteArray),.string ⟨#[115,101,103,45]⟩,.string ⟨#[104,105,110,116,45]⟩,.string ⟨#[112,111,105,110,116,45]⟩]) (Nat.le_refl 4) (by
  intro x hx
  simp only [List.mem_cons,List.not_mem_nil,or_false] at hx
  rcases hx with rfl | rfl | rfl | rfl <;> rfl) (fun r f2=>?_)
 rw [splice_full (c:=Z152) (vs:=[Value.string (⟨#[]⟩:ByteArray),.string ⟨#[115,101,103,45]⟩,.string ⟨#[104,105,110,116,45]⟩,.string ⟨#[112,111,105,110,116,45]⟩]) rfl] at r
 have f:Fr (fun _=>False) w (stB (w.alloc (.cells Z152.toArray 152)) w.heap.size 0 [Value.string (⟨#[]⟩:ByteArray),.string ⟨#[115,101,103,45]⟩,.string ⟨#[104,105,110,116,45]⟩,.string ⟨#[112,111,105,110,116,45]⟩]):=f1.trans f2 (fun _ _ h=>h) (fun j hj h=>by omega)
 refine vIf_mk (fun h0=>?_) (fun h0=>vIf_mk (fun h4=>?_) (fun h4=>jnC_mk (fun _=>?_)))
 ·have h0:k<=0:=of_decide_eq_true h0
  rw [wl_nil (by omega)]
  exact ⟨rfl,f⟩
 ·have h4:k >= 4:=of_decide_eq_true h4
  rw [wl_nil (by omega)]
  exact ⟨rfl,f⟩
 ·have h0:¬ k<=0:=of_decide_eq_false h0
  have h4:¬ k >= 4:=of_decide_eq_false h4
  refine gd_mk (decide_eq_true (by show (0:Int)<=k; omega)) (gd_mk (decide_eq_true (by show k < 4; omega)) ⟨_,r.cell (by rw [show 0+k.toNat * 1=k.toNat by omega]; exact fourC k (by omega) (by omega)),rfl,f⟩)
set_option maxHeartbeats 1000000 in
theorem file_calls (k n:Int) (w:World) (hv:VK w):Calls Tryz.prog 28 #[.int .i64 k,.int .i64 n] w fun e w'=>e=.returned (.string (bs (fileL k n)))/\Fr (fun _=>False) w w':=by
 refine (F28.of k n w (Q:=fun v w'=>v=.string (bs (fileL k n))/\Fr (fun _=>False) w w') ?_).mono (fun e w' ⟨v,he,hv,h⟩=>⟨by rw [he,hv],h⟩)
 refine (word_calls k w).mono ?_
 rintro e u ⟨rfl,f⟩
 refine ⟨_,rfl,vIf_mk (fun h0=>?_) (fun h0=>vIf_mk (fun h1=>?_) (fun h1=>vIf_mk (fun h2=>?_) (fun h2=>jnC_mk (fun _=>?_))))⟩
 ·rw [nil_iff,bs_size] at h0
  have h0:=of_decide_eq_true h0
  rw [fileL_nil (fun h=>by
   obtain ⟨a,b,_,_⟩:=h
   rcases kinds a b with rfl | rfl | rfl <;> simp [wl] at h0)]
  exact ⟨rfl,f⟩
 ·have h1:n < 1:=of_decide_eq_true h1
  rw [fileL_nil (fun h=>by have:=h.2.2.1; omega)]
  exact ⟨rfl,f⟩
 ·have h2:n > 99999999:=of_decide_eq_true h2
  rw [fileL_nil (fun h=>by have:=h.2.2.2; omega)]
  exact ⟨rfl,f⟩
 ·rw [nil_iff,bs_size] at h0
  have h0:=of_decide_eq_false h0
  have h1:¬ n < 1:=of_decide_eq_false h1
  have h2:¬ n > 99999999:=of_decide_eq_false h2
  have hk:1<=k/\k<=3:=by
   by_cases h:1<=k/\k<=3
   ·exact h
   ·rw [wl_nil h] at h0; exact absurd rfl h0
  have hg:good k n:=⟨hk.1,hk.2,by omega,by omega⟩
  have hit:Lib.itoa n=decDigits n.toNat:=by unfold Lib.itoa; rw [if_neg (by omega)]
  obtain ⟨p1,p2⟩:=pad_digs 7 n.toNat (by omega)
  refine (Tryz.strconv_Itoa n (by omega) (by omega) u (hv.fr f).tab).mono ?_
  rintro e u2 ⟨rfl,q,os,rfl⟩
  have f2:=f.trans1 (grow_fr u q os)
  rw [hit]
  have hsz:(bs (decDigits n.toNat)).size=(decDigits n.toNat).length:=bs_size _
  refine ⟨bs (decDigits n.toNat),rfl,?_⟩
  have hw:IntKind.wrap .i64 (8 - ((bs (decDigits n.toNat)).size:Int))=((8 - (decDigits n.toNat).length:Nat):Int):=by rw [hsz,i64_id (by omega) (by omega)]; omega
  dsimp only
  rw [hw]
  refine (Tryz.strings_Repeat ⟨#[48]⟩ (8 - (decDigits n.toNat).length) _ (by omega) (by show 1 * _<=_; omega)).mono ?_
  rintro e u3 ⟨rfl,hb⟩
  have f3:=f2.trans1 (below_fr hb)
  refine ⟨bs (repeatL [48] (8 - (decDigits n.toNat).length)),rfl,?_⟩
  have hwl:(wl k).length<=6:=by rcases kinds hk.1 hk.2 with rfl | rfl | rfl <;> simp [wl]
  have hrl:(repeatL [48] (8 - (decDigits n.toNat).length)).length<=8:=by rw [repeatL_length]; simp
  refine gd_mk (decide_eq_true (by rw [bs_size,bs_size]; omega)) (gd_mk (decide_eq_true (by rw [bs_app,bs_size,bs_size,List.length_append]; omega)) ⟨?_,f3⟩)
  rw [bs_app,bs_app,fileL_good hg,List.append_assoc,p2]
theorem words_calls (w:World):Calls Tryz.prog 63 #[] w fun e w'=>e=.returned (.slice (some ⟨w.heap.size,0,none⟩) 4 4)/\Fr (fun _=>False) w w'/\∀ k:Int,1<=k->k<=3->cellAt w' w.heap.size (0+k.toNat * 1)=some (.string (bs (wl k))):=by
 refine (F63.of w (Q:=fun v w'=>v=.slice (some ⟨w.heap.size,0,none⟩) 4 4/\Fr (fun _=>False) w w'/\∀ k:Int,1<=k->k<=3->cellAt w' w.heap.size (0+k.toNat * 1)=some (.string (bs (wl k)))) ?_).mono (fun e w' ⟨v,he,hv,h⟩=>⟨by rw [he,hv],h⟩)
 refine nw_mk (cs:=[Value.string (⟨#[]⟩:ByteArray),.string ⟨#[115,101,103,45]⟩,.string ⟨#[104,105,110,116,45]⟩,.string ⟨#[112,111,105,110,116,45]⟩]) ⟨rfl,Fr.alloc _ _ _,fun k h1 h3=>?_⟩
 exact (RecAt.new w _ _).cell (by rw [show 0+k.toNat * 1=k.toNat by omega]; exact fourC k h1 h3)
theorem dg_bv (m:Nat):Value.int .u8 (IntKind.wrap .u8 (IntKind.wrap .i64 (48+Int.tmod (m:Int) 10)))=bv (dg m):=by
 have e:Int.tmod (m:Int) 10=((m % 10:Nat):Int):=tmod_nat m 10
 rw [e,i64_id (by omega) (by omega),u8_id (by omega) (by omega)]
 unfold bv
 rw [dg_nat]
 rfl
set_option maxHeartbeats 1000000 in
theorem rfile_calls (k n:Int) (w:World):Calls Tryz.prog 32 #[.int .i64 k,.int .i64 n] w fun e w'=>e=.returned (.string (bs (fileL k n)))/\Fr (fun _=>False) w w':=by
 refine (F32.of k n w (Q:=fun v w'=>v=.string (bs (fileL k n))/\Fr (fun _=>False) w w') ?_).mono (fun e w' ⟨v,he,hv,h⟩=>⟨by rw [he,hv],h⟩)
 have no:¬ good k n->Value.string (⟨#[]⟩:ByteArray)=.string (bs (fileL k n))/\Fr (fun _=>False) w w:=fun h=>⟨by rw [fileL_nil h]; rfl,Fr.refl _ _⟩
 refine vIf_mk (fun h0=>no ?_) (fun h0=>vIf_mk (fun h3=>no ?_) (fun h3=>vIf_mk (fun h1=>no ?_) (fun h1=>vIf_mk (fun h2=>no ?_) (fun h2=>jnC_mk (fun _=>jnC_mk ?_)))))
 ·have h0:k < 1:=of_decide_eq_true h0
  intro h; have:=h.1; omega
 ·have h3:k > 3:=of_decide_eq_true h3
  intro h; have:=h.2.1; omega
 ·have h1:n < 1:=of_decide_eq_true h1
  intro h; have:=h.2.2.1; omega
 ·have h2:n > 99999999:=of_decide_eq_true h2
  intro h; have:=h.2.2.2; omega
 ·have h0:¬ k < 1:=of_decide_eq_false h0
  have h3:¬ k > 3:=of_decide_eq_false h3
  have h1:¬ n < 1:=of_decide_eq_false h1
  have h2:¬ n > 99999999:=of_decide_eq_false h2
  have hg:good k n:=⟨by omega,by omega,by omega,by omega⟩
  obtain ⟨m,rfl⟩:∃ m:Nat,n=(m:Int):=⟨n.toNat,by omega⟩
  refine loop_rule (fun p v=>Fr (fun _=>False) w v/\∃ i:Nat,i<=8/\p=(k,((m / 10 ^ i:Nat):Int),bs (digs i m),(i:Int),())) (fun p _=>(8 - p.2.2.2.1).toNat) ?_ _ _ ⟨Fr.refl _ _,0,by omega,by simp [digs,bs]⟩
  rintro p v C ⟨hf,i,hi,rfl⟩ hC _
  refine vIf_mk (fun hlt=>?_) (fun hge=>?_)
  ·have hlt2:(i:Int) < 8:=of_decide_eq_true hlt
   refine nw_mk ?_
   dsimp only
   rw [dg_bv,List.append_nil]
   have f1:Fr (fun _=>False) v (v.alloc (.cells ([dg (m / 10 ^ i)].map bv).toArray 5)):=Fr.alloc _ _ _
   have r1:Row (v.alloc (.cells ([dg (m / 10 ^ i)].map bv).toArray 5)) 0 5 1 (some ⟨v.heap.size,0,none⟩) 1 1 ([dg (m / 10 ^ i)].map bv):=Row.new (Nat.zero_le _) rfl
   refine b2s_sl r1.sl (gd_mk (decide_eq_true ?_) (jnC_mk (hC _ _ ⟨hf.trans1 f1,i+1,by omega,?_⟩ ?_)))
   ·rw [bs_size,digs_len]
    show (bs [dg (m / 10 ^ i)]).size+i<=_
    rw [bs_size,List.length_singleton]; omega
   ·show (k,IntKind.wrap .i64 (Int.tdiv ((m / 10 ^ i:Nat):Int) 10),bs [dg (m / 10 ^ i)] ++ bs (digs i m),IntKind.wrap .i64 ((i:Int)+1),())=_
    have e:Int.tdiv ((m / 10 ^ i:Nat):Int) 10=((m / 10 ^ i / 10:Nat):Int):=tdiv_nat _ 10
    have e2:m / 10 ^ i / 10=m / 10 ^ (i+1):=by rw [Nat.div_div_eq_div_mul,Nat.pow_succ]
    have hle:m / 10 ^ (i+1)<=m:=Nat.div_le_self _ _
    rw [e,e2]
    have e3:IntKind.wrap .i64 ((m / 10 ^ (i+1):Nat):Int)=((m / 10 ^ (i+1):Nat):Int):=by
     generalize m / 10 ^ (i+1)=q at hle ⊢
     exact i64_id (by omega) (by omega)
    rw [e3,bs_app,ei i (by omega),digs_cons]
    rfl
   ·show ((8:Int) - IntKind.wrap .i64 ((i:Int)+1)).toNat < ((8:Int) - (i:Int)).toNat
    rw [ei i (by omega)]; omega
  ·have hge2:¬ (i:Int) < 8:=of_decide_eq_false hge
   have h8:i=8:=by omega
   subst h8
   refine (words_calls v).mono ?_
   rintro e u ⟨rfl,f2,hc⟩
   refine ⟨_,4,4,rfl,dr_mk (gd_mk (decide_eq_true (by show (0:Int)<=k; omega)) (gd_mk (decide_eq_true (by show k < 4; omega)) ⟨_,hc k (by omega) (by omega),gd_mk (decide_eq_true ?_) ⟨?_,hf.trans1 f2⟩⟩))⟩
   ·have hwl:(wl k).length<=6:=by rcases kinds hg.1 hg.2.1 with rfl | rfl | rfl <;> simp [wl]
    show (bs (wl k)).size+(bs (digs 8 m)).size<=_
    rw [bs_size,bs_size,digs_len]; omega
   ·show Value.string (bs (wl k) ++ bs (digs 8 m))=_
    rw [bs_app,fileL_good hg]
    rfl
end Go.Proofs.YthcdionpeoobbaaGreatDoor.Nm8
namespace Go.Proofs.YthcdionpeoobbaaGreatDoor
open Go.GV Go.RowKit Go.Lib
set_option maxHeartbeats 1000000 in
theorem Read2_calls (db r:Nat) (d:Dk) (s:ByteArray) (off n:Int) (w:World) (h:DkAt w db r d) (hb:FoB d.F) (hi:∀ id,InoB (d.f id)) (hp:∀ id,(d.f id).p.length<=1099511627775) :
  Calls Tryz.prog 47 #[.pointer (some ⟨db,0,none⟩),.string s,.int .i64 off,.int .i64 n] w fun e w'=>Fr (fun _=>False) w w'/\∃ B k,e=.returned (.tuple #[.slice B (readD d s off n).1.length k,.int .i64 (readD d s off n).2])/\Sl w' 1 B (readD d s off n).1.length (bys (readD d s off n).1)/\(readD d s off n).1.length<=k:=by
 refine (F47.of (some ⟨db,0,none⟩) s off n w (Q:=fun v w'=>Fr (fun _=>False) w w'/\∃ B k,v=.tuple #[.slice B (readD d s off n).1.length k,.int .i64 (readD d s off n).2]/\Sl w' 1 B (readD d s off n).1.length (bys (readD d s off n).1)/\(readD d s off n).1.length<=k) ?_).mono (fun e w' ⟨v,he,hf,B,k,hv,h⟩=>⟨hf,B,k,by rw [he,hv],h⟩)
 have hll:=look_len hi s
 refine (look_calls db r d s w h hb hi hp).mono ?_
 rintro e w1 ⟨f1,B,k,rfl,hB,hk⟩
 refine ⟨B,_,k,_,rfl,?_⟩
 unfold readD
 generalize hL:lookD d s=L at hll hB hk ⊢
 obtain ⟨b,er⟩:=L
 have bad:∀ x:Int,Fr (fun _=>False) w w1/\∃ B' k',Value.tuple #[Value.slice none 0 0,Value.int .i64 x]=.tuple #[.slice B' ((([],x):Bs×Int)).1.length k',.int .i64 (([],x):Bs×Int).2]/\Sl w1 1 B' ((([],x):Bs×Int)).1.length (bys (([],x):Bs×Int).1)/\((([],x):Bs×Int)).1.length<=k':=fun x=>⟨f1,none,0,rfl,Sl.nil _ _ _,Nat.le_refl _⟩
 dsimp only at hll hB hk ⊢
 refine vIf_mk (fun he=>?_) (fun he=>?_)
 ·have he:¬ er=0:=by simpa using he
  rw [if_pos he]
  exact bad er
 ·have he:er=0:=by simpa using he
  rw [if_neg (by rw [he]; simp)]
  have ew:0<=off->off<=(b.length:Int)->IntKind.wrap .i64 (((b.length:Nat):Int) - off)=(b.length:Int) - off:=fun h1 h2=>i64_id (by omega) (by omega)
  refine vIf_mk (fun h1=>?_) (fun h1=>vIf_mk (fun h2=>?_) (fun h2=>vIf_mk (fun h3=>?_) (fun h3=>vIf_mk (fun h4=>?_) (fun h4=>jnC_mk (fun _=>?_)))))
  ·rw [if_pos (.inl (of_decide_eq_true h1))]; exact bad 20
  ·rw [if_pos (.inr (.inl (of_decide_eq_true h2)))]; exact bad 20
  ·rw [if_pos (.inr (.inr (.inl (of_decide_eq_true h3))))]; exact bad 20
  ·have h1:=of_decide_eq_false h1
   have h3:=of_decide_eq_false h3
   have h4:=of_decide_eq_true h4
   rw [ew (by omega) (by omega)] at h4
   rw [if_pos (.inr (.inr (.inr h4)))]; exact bad 20
  ·have h1:=of_decide_eq_false h1
   have h2:=of_decide_eq_false h2
   have h3:=of_decide_eq_false h3
   have h4:=of_decide_eq_false h4
   rw [ew (by omega) (by omega)] at h4
   rw [if_neg (fun h=>h.elim h1 (fun h=>h.elim h2 (fun h=>h.elim h3 h4)))]
   obtain ⟨o,rfl⟩:∃ o:Nat,off=(o:Int):=⟨off.toNat,by omega⟩
   obtain ⟨m,rfl⟩:∃ m:Nat,n=(m:Int):=⟨n.toNat,by omega⟩
   have e1:IntKind.wrap .i64 ((o:Int)+(m:Int))=((o+m:Nat):Int):=by rw [i64_id (by omega) (by omega)]; omega
   unfold F47.k6c
   dsimp only
   rw [e1]
   refine gd_mk (decide_eq_true (by omega)) (gd_mk (decide_eq_true (by omega)) (gd_mk (decide_eq_true (by omega)) (gd_mk (decide_eq_true (by omega)) (gd_mk (decide_eq_true (by omega)) (gd_mk (decide_eq_true (by omega)) ⟨f1,slA B (o+m) o 1,m,?_,?_,by simp only [Int.toNat_natCast]; rw [List.length_take]; omega⟩)))))
   ·simp only [Int.toNat_natCast]
    have:((b.drop o).take m).length=m:=by rw [List.length_take,List.length_drop]; omega
    rw [this,Nat.add_sub_cancel_left]
   ·simp only [Int.toNat_natCast]
    have hl:((b.drop o).take m).length=m:=by rw [List.length_take,List.length_drop]; omega
    rw [hl]
    have e2:bys ((b.drop o).take m)=((bys b).drop o).take m:=by simp [bys,List.map_take,List.map_drop]
    rw [e2]
    refine ⟨by rw [<- e2,List.length_map,hl,Nat.mul_one],fun h0=>?_⟩
    obtain ⟨bb,oo,rfl,hc⟩:=hB.2 (by omega)
    refine ⟨bb,oo+o,?_,fun j v hj=>?_⟩
    ·unfold slA
     rw [if_neg (by omega),Option.map_some,add_none,Nat.mul_one]
    ·rw [List.getElem?_take] at hj
     split at hj
     ·rw [List.getElem?_drop] at hj
      rw [Nat.add_assoc]
      exact hc _ v hj
     ·cases hj
theorem lookD_err {d:Dk} {s:ByteArray} (h:(lookD d s).2 ≠ 0):(lookD d s).1=[]:=by
 unfold lookD at h ⊢
 split
 ·rfl
 ·rename_i h1
  rw [if_neg h1] at h
  cases hf:findN s (nowF d.F) with
  | none=>rfl
  | some id=>rw [hf] at h; exact absurd rfl h
theorem readD_all {d:Dk} {s:ByteArray} (h:(lookD d s).2=0):readD d s 0 ((lookD d s).1.length:Int)=lookD d s:=by
 unfold readD
 rw [if_neg (fun g=>g h),if_neg (by omega)]
 simp only [Int.toNat_natCast]
 show (((lookD d s).1.drop 0).take (lookD d s).1.length,0)=_
 rw [List.drop_zero,List.take_length,<- h]
structure DkS (d:Dk):Prop where
 fo:FoB d.F
 i:∀ id,InoB (d.f id)
 p:∀ id,(d.f id).p.length<=349525
 I:DkI d
theorem bwhole_calls (db r:Nat) (d:Dk) (s:ByteArray) (w:World) (h:DkAt w db r d) (hS:DkS d) :
  Calls Tryz.prog 27 #[.pointer (some ⟨db,0,none⟩),.string s] w fun e w'=>Fr (fun _=>False) w w'/\∃ B k,e=.returned (.tuple #[.slice B (lookD d s).1.length k,.int .i64 (lookD d s).2])/\Sl w' 1 B (lookD d s).1.length ((lookD d s).1.map bv)/\(lookD d s).1.length<=k:=by
 refine (F27.of (some ⟨db,0,none⟩) s w (Q:=fun v w'=>Fr (fun _=>False) w w'/\∃ B k,v=.tuple #[.slice B (lookD d s).1.length k,.int .i64 (lookD d s).2]/\Sl w' 1 B (lookD d s).1.length ((lookD d s).1.map bv)/\(lookD d s).1.length<=k) ?_).mono (fun e w' ⟨v,he,hf,B,k,hv,h⟩=>⟨hf,B,k,by rw [he,hv],h⟩)
 have hp:∀ id,(d.f id).p.length<=1099511627775:=fun id=>by have:=hS.p id; omega
 refine (Size_calls db r d s w h hS.fo hS.i hp).mono ?_
 rintro e w1 ⟨rfl,f1⟩
 refine ⟨_,_,rfl,vIf_mk (fun g=>?_) (fun g=>(Read2_calls db r d s 0 _ w1 (h.fr0 f1) hS.fo hS.i hp).mono ?_)⟩
 ·have g:(lookD d s).2 ≠ 0:=by simpa using g
  have e:=lookD_err g
  rw [e]
  exact ⟨f1,none,0,rfl,Sl.nil _ _ _,Nat.le_refl _⟩
 ·have g:(lookD d s).2=0:=by simpa using g
  rw [readD_all g]
  rintro e w2 ⟨f2,B,k,rfl,hB,hk⟩
  exact ⟨B,_,k,_,rfl,f1.trans1 f2,B,k,rfl,hB,hk⟩
theorem bwhole_nil (s:ByteArray) (w:World) :
  Calls Tryz.prog 27 #[.pointer none,.string s] w fun e w'=>e=.returned (.tuple #[.slice none 0 0,.int .i64 1])/\w=w':=by
 refine (F27.of none s w (Q:=fun v w'=>v=.tuple #[.slice none 0 0,.int .i64 1]/\w=w') ?_).mono (fun e w' ⟨v,he,hv,h⟩=>⟨by rw [he,hv],h⟩)
 refine (Size_nil s w).mono ?_
 rintro e w1 ⟨rfl,hw⟩
 exact ⟨_,_,rfl,vIf_t rfl ⟨rfl,hw.symm⟩⟩
theorem read1_calls (b1 b3:Nat) (e1 e3:TypeId) (k seg:Int) (db r:Nat) (d:Dk) (w:World) (r1:RecAt w b1 e1 [.pointer (some ⟨db,0,none⟩)]) (r3:RecAt w b3 e3 [.int .i64 seg]) (h:DkAt w db r d) (hS:DkS d) (hv:Nm8.VK w) :
  Calls Tryz.prog 26 #[.int .i64 k,.pointer (some ⟨b1,0,none⟩),.pointer (some ⟨b3,0,none⟩)] w fun e w'=>Fr (fun _=>False) w w'/\∃ B k',e=.returned (.tuple #[.slice B (lookD d (Nm8.bs (Nm8.fileL k seg))).1.length k',.int .i64 (lookD d (Nm8.bs (Nm8.fileL k seg))).2])/\Sl w' 1 B (lookD d (Nm8.bs (Nm8.fileL k seg))).1.length ((lookD d (Nm8.bs (Nm8.fileL k seg))).1.map bv)/\(lookD d (Nm8.bs (Nm8.fileL k seg))).1.length<=k':=by
 refine (F26.of k (b1,0) (b3,0) w (Q:=fun v w'=>Fr (fun _=>False) w w'/\∃ B k',v=.tuple #[.slice B (lookD d (Nm8.bs (Nm8.fileL k seg))).1.length k',.int .i64 (lookD d (Nm8.bs (Nm8.fileL k seg))).2]/\Sl w' 1 B (lookD d (Nm8.bs (Nm8.fileL k seg))).1.length ((lookD d (Nm8.bs (Nm8.fileL k seg))).1.map bv)/\(lookD d (Nm8.bs (Nm8.fileL k seg))).1.length<=k') ?_).mono (fun e w' ⟨v,he,hf,B,k,hv,h⟩=>⟨hf,B,k,by rw [he,hv],h⟩)
 have fd:Fr (fun _=>False) w w.drew:=Fr.drew _ _
 have r1d:=r1.fr fd (fun h=>h)
 refine ⟨_,r1d.cell (o:=0) rfl,seg,(r3.fr fd (fun h=>h)).cell (o:=0) rfl,(Nm8.file_calls k seg w.drew (hv.fr fd)).mono ?_⟩
 rintro e w3 ⟨rfl,f3⟩
 refine ⟨_,rfl,kp_mk f3 r1d.lt (fun h=>h) ((bwhole_calls db r d _ w3 (h.fr0 (fd.trans1 f3)) hS).mono ?_)⟩
 rintro e w6 ⟨f6,B,k',rfl,hB,hk⟩
 exact ⟨B,_,k',_,rfl,(fd.trans1 f3).trans1 f6,B,k',rfl,hB,hk⟩
theorem read1_nil (b1 b3:Nat) (e1 e3:TypeId) (k seg:Int) (w:World) (r1:RecAt w b1 e1 [.pointer none]) (r3:RecAt w b3 e3 [.int .i64 seg]) (hv:Nm8.VK w) :
  Calls Tryz.prog 26 #[.int .i64 k,.pointer (some ⟨b1,0,none⟩),.pointer (some ⟨b3,0,none⟩)] w fun e w'=>Fr (fun _=>False) w w'/\e=.returned (.tuple #[.slice none 0 0,.int .i64 1]):=by
 refine (F26.of k (b1,0) (b3,0) w (Q:=fun v w'=>Fr (fun _=>False) w w'/\v=.tuple #[.slice none 0 0,.int .i64 1]) ?_).mono (fun e w' ⟨v,he,hf,hv⟩=>⟨hf,by rw [he,hv]⟩)
 have fd:Fr (fun _=>False) w w.drew:=Fr.drew _ _
 have r1d:=r1.fr fd (fun h=>h)
 refine ⟨_,r1d.cell (o:=0) rfl,seg,(r3.fr fd (fun h=>h)).cell (o:=0) rfl,(Nm8.file_calls k seg w.drew (hv.fr fd)).mono ?_⟩
 rintro e w3 ⟨rfl,f3⟩
 refine ⟨_,rfl,kp_mk f3 r1d.lt (fun h=>h) ((bwhole_nil _ w3).mono ?_)⟩
 rintro e w6 ⟨rfl,rfl⟩
 exact ⟨none,0,0,1,rfl,fd.trans1 f3,rfl⟩
abbrev segF (seg:Int):ByteArray:=Nm8.bs (Nm8.fileL 1 seg)
abbrev hinF (seg:Int):ByteArray:=Nm8.bs (Nm8.fileL 2 seg)
noncomputable def rpP (d:Dk) (seg:Int):Sn×Bool×Int :=
 if (lookD d (segF seg)).2 ≠ 0 then (⟨[],0,0,false,0,0⟩,false,(lookD d (segF seg)).2)
 else if (lookD d (hinF seg)).2=0/\(hrP (lookD d (hinF seg)).1 seg ((lookD d (segF seg)).1.length:Int)).2.2=0 then
  (⟨(hrP (lookD d (hinF seg)).1 seg ((lookD d (segF seg)).1.length:Int)).1,(hrP (lookD d (hinF seg)).1 seg ((lookD d (segF seg)).1.length:Int)).2.1,((lookD d (segF seg)).1.length:Int),true,((lookD d (segF seg)).1.length:Int),0⟩,true,0)
 else (scP (lookD d (segF seg)).1 seg,false,0)
abbrev RpS (w w':World) (v:Value) (p:Sn×Bool×Int):Prop:=∃ (A:Option Addr) (c:Nat),v=.tuple #[ofL (snC p.1 A c),.bool p.2.1,.int .i64 p.2.2]/\RW w w' A p.1.ws.length c p.1.ws
set_option maxHeartbeats 1000000 in
theorem rpscan_calls (db r:Nat) (d:Dk) (seg:Int) (w:World) (h:DkAt w db r d) (hS:DkS d) (hv:Nm8.VK w) :
  Calls Tryz.prog 9 #[.pointer (some ⟨db,0,none⟩),.int .i64 seg] w fun e w'=>∃ v,e=.returned v/\RpS w w' v (rpP d seg):=by
 refine F9.of (some ⟨db,0,none⟩) seg w (Q:=fun v w'=>RpS w w' v (rpP d seg)) ?_
 refine rec_new (fun b1 w2 f1 hb1 r1=>rec_new (fun b3 w4 f3 hb3 r3=>rec_new (fun b5 w6 f5 hb5 r5=>?_)))
 have s1:=f1.size
 have s3:=f3.size
 have r1:=(r1.fr f3 (fun h=>h)).fr f5 (fun h=>h)
 have r3:=r3.fr f5 (fun h=>h)
 have f6:=(f1.trans1 f3).trans1 f5
 have hb5':w.heap.size<=b5:=by omega
 have Z6:Z43.length=6:=rfl
 have hlen1:=look_len hS.i (segF seg)
 have hlen2:=look_len hS.i (hinF seg)
 have lay:∀ (u:World) (x:Sn) (A:Option Addr) (c:Nat) (t:Bool) (e:Int),RecAt u b5 43 Z43->RW w u A x.ws.length c x.ws->blkOf A ≠ some b5->rpP d seg=(x,t,e) ->
   gd ((snC x A c).length == 6) (st u b5 0 (snC x A c) fun w1=>ldA 6 w1 b5 0 fun a=>RpS w w1 (.tuple #[ofL a,.bool t,.int .i64 e]) (rpP d seg)):=by
  intro u x A c t e q hr hn hx
  rw [hx]
  exact ansN_mk (N:=6) (cs:=snC x A c) (K:=fun a w1=>RpS w w1 (.tuple #[ofL a,.bool t,.int .i64 e]) (x,t,e)) q Z6 rfl (snC_one _ _ _) (fun w' g=>⟨A,c,rfl,hr.var g hb5' hn⟩)
 refine (read1_calls b1 b3 _ _ 1 seg db r d w6 r1 r3 (h.fr0 f6) hS (hv.fr f6)).mono ?_
 rintro e w7 ⟨f7,B,k,rfl,hB,hk⟩
 have r5:=r5.fr f7 (fun h=>h)
 refine ⟨B,_,k,_,rfl,vIf_mk (fun h0=>?_) (fun h0=>(read1_calls b1 b3 _ _ 2 seg db r d w7 (r1.fr f7 (fun h=>h)) (r3.fr f7 (fun h=>h)) (h.fr0 (f6.trans1 f7)) hS (hv.fr (f6.trans1 f7))).mono ?_)⟩
 ·have h0:(lookD d (segF seg)).2 ≠ 0:=by simpa using h0
  refine lay w7 ⟨[],0,0,false,0,0⟩ none 0 false _ r5 (RW.nile (f6.trans1 f7)) (fun h=>by cases h) ?_
  unfold rpP
  rw [if_pos h0]
 have h0:(lookD d (segF seg)).2=0:=by simpa using h0
 rintro e w15 ⟨f15,B2,k2,rfl,hB2,hk2⟩
 have r5:=r5.fr f15 (fun h=>h)
 have f615:=(f6.trans1 f7).trans1 f15
 have r3:=(r3.fr f7 (fun h=>h)).fr f15 (fun h=>h)
 have l5:=r5.lt
 have k10:∀ u:World,Fr (fun _=>False) w15 u->¬ ((lookD d (hinF seg)).2=0/\(hrP (lookD d (hinF seg)).1 seg ((lookD d (segF seg)).1.length:Int)).2.2=0)->jnC (F9.k10 fun v w'=>RpS w w' v (rpP d seg)) ((b3,0),(b5,0),(B,(lookD d (segF seg)).1.length,k),()) u:=by
  intro u g hno
  refine jnC_mk (fun _=>⟨seg,(r3.fr g (fun h=>h)).cell (o:=0) rfl,(scan_calls B (lookD d (segF seg)).1.length k (lookD d (segF seg)).1 seg u ((f15.trans1 g).sl hB (fun _ _ _ h=>h)) hk (by omega)).mono ?_⟩)
  rintro e u2 ⟨_,rfl,A,c,rfl,hr⟩
  have su:=hr.f.size
  have sg:=g.size
  have hrp:rpP d seg=(scP (lookD d (segF seg)).1 seg,false,0):=by
   unfold rpP
   rw [if_neg (fun g=>g h0),if_neg hno]
  refine ⟨_,rfl,lay u2 _ A c false 0 ((r5.fr g (fun h=>h)).fr hr.f (fun h=>h)) (hr.le (f615.trans1 g)) (fun e=>?_) hrp⟩
  have:=(hr.row.blt e).1
  omega
 refine ⟨B2,_,k2,_,rfl,vIf_mk (fun h2=>⟨seg,r3.cell (o:=0) rfl,(hread_calls B2 (lookD d (hinF seg)).1.length k2 (lookD d (hinF seg)).1 seg _ w15 hB2 hk2 (by omega)).mono ?_⟩) (fun h2=>k10 w15 (Fr.refl _ _) (fun g=>?_))⟩
 ·have h2:(lookD d (hinF seg)).2=0:=by simpa using h2
  rintro e w22 ⟨_,rfl,A,c,rfl,hr⟩
  refine ⟨_,_,_,_,_,rfl,vIf_mk (fun h3=>?_) (fun h3=>k10 w22 hr.f (fun g=>?_))⟩
  ·have h3:(hrP (lookD d (hinF seg)).1 seg ((lookD d (segF seg)).1.length:Int)).2.2=0:=by simpa using h3
   have hrp:rpP d seg=(⟨(hrP (lookD d (hinF seg)).1 seg ((lookD d (segF seg)).1.length:Int)).1,(hrP (lookD d (hinF seg)).1 seg ((lookD d (segF seg)).1.length:Int)).2.1,((lookD d (segF seg)).1.length:Int),true,((lookD d (segF seg)).1.length:Int),0⟩,true,0):=by
    unfold rpP
    rw [if_neg (fun g=>g h0),if_pos ⟨h2,h3⟩]
   refine lay w22 _ A c true 0 (r5.fr hr.f (fun h=>h)) (hr.le f615) (fun e=>?_) hrp
   have:=(hr.row.blt e).1
   omega
  ·have h3:(hrP (lookD d (hinF seg)).1 seg ((lookD d (segF seg)).1.length:Int)).2.2 ≠ 0:=by simpa using h3
   exact h3 g.2
 ·have h2:(lookD d (hinF seg)).2 ≠ 0:=by simpa using h2
  exact h2 g.1
theorem rpscan_nil (seg:Int) (w:World) (hv:Nm8.VK w) :
  Calls Tryz.prog 9 #[.pointer none,.int .i64 seg] w fun e w'=>Fr (fun _=>False) w w'/\e=.returned (.tuple #[ofL (snC ⟨[],0,0,false,0,0⟩ none 0),.bool false,.int .i64 1]):=by
 refine (F9.of none seg w (Q:=fun v w'=>Fr (fun _=>False) w w'/\v=.tuple #[ofL (snC ⟨[],0,0,false,0,0⟩ none 0),.bool false,.int .i64 1]) ?_).mono (fun e w' ⟨v,he,hf,hv⟩=>⟨hf,by rw [he,hv]⟩)
 refine rec_new (fun b1 w2 f1 hb1 r1=>rec_new (fun b3 w4 f3 hb3 r3=>rec_new (fun b5 w6 f5 hb5 r5=>?_)))
 have s1:=f1.size
 have s3:=f3.size
 have r1:=(r1.fr f3 (fun h=>h)).fr f5 (fun h=>h)
 have r3:=r3.fr f5 (fun h=>h)
 have f6:=(f1.trans1 f3).trans1 f5
 have hb5':w.heap.size<=b5:=by omega
 refine (read1_nil b1 b3 _ _ 1 seg w6 r1 r3 (hv.fr f6)).mono ?_
 rintro e w7 ⟨f7,rfl⟩
 refine ⟨none,0,0,1,rfl,vIf_t rfl ?_⟩
 exact ansN_mk (N:=6) (cs:=snC ⟨[],0,0,false,0,0⟩ none 0) (K:=fun a w1=>Fr (fun _=>False) w w1/\Value.tuple #[ofL a,.bool false,.int .i64 1]=.tuple #[ofL (snC ⟨[],0,0,false,0,0⟩ none 0),.bool false,.int .i64 1]) (r5.fr f7 (fun h=>h)) rfl rfl (snC_one _ _ _) (fun w' g=>⟨fr_var (f6.trans1 f7) hb5' g,rfl⟩)
set_option maxHeartbeats 1000000 in
theorem rrscan_calls (lo rb:Nat) (d:Dk) (seg:Int) (w:World) (h:RkD w lo rb d) (hS:DkS d) :
  Calls Tryz.prog 10 #[.pointer (some ⟨rb,0,none⟩),.int .i64 seg] w fun e w'=>∃ v,e=.returned v/\RpS w w' v (rpP d seg):=by
 refine F10.of (some ⟨rb,0,none⟩) seg w (Q:=fun v w'=>RpS w w' v (rpP d seg)) ?_
 refine rec_new (fun b5 w2 f1 hb5 r5=>?_)
 have Z6:Z43.length=6:=rfl
 have hlen1:=look_len hS.i (segF seg)
 have hlen2:=look_len hS.i (hinF seg)
 have lay:∀ (u:World) (x:Sn) (A:Option Addr) (c:Nat) (t:Bool) (e:Int),RecAt u b5 43 Z43->RW w u A x.ws.length c x.ws->blkOf A ≠ some b5->rpP d seg=(x,t,e) ->
   gd ((snC x A c).length == 6) (st u b5 0 (snC x A c) fun w1=>ldA 6 w1 b5 0 fun a=>RpS w w1 (.tuple #[ofL a,.bool t,.int .i64 e]) (rpP d seg)):=by
  intro u x A c t e q hr hn hx
  rw [hx]
  exact ansN_mk (N:=6) (cs:=snC x A c) (K:=fun a w1=>RpS w w1 (.tuple #[ofL a,.bool t,.int .i64 e]) (x,t,e)) q Z6 rfl (snC_one _ _ _) (fun w' g=>⟨A,c,rfl,hr.var g hb5 hn⟩)
 refine (Nm8.rfile_calls 1 seg w2).mono ?_
 rintro e w3 ⟨rfl,f3⟩
 have f13:=f1.trans1 f3
 refine ⟨_,rfl,(rBytes_calls lo rb d (segF seg) w3 (RkAt.fr0 h f13) hS.fo hS.I hS.p).mono ?_⟩
 rintro e w6 ⟨f6,B,k,rfl,hB,hk⟩
 have f16:=f13.trans1 f6
 have r5:=(r5.fr f3 (fun h=>h)).fr f6 (fun h=>h)
 refine ⟨B,_,k,_,rfl,vIf_mk (fun h0=>?_) (fun h0=>(Nm8.rfile_calls 2 seg w6).mono ?_)⟩
 ·have h0:(lookD d (segF seg)).2 ≠ 0:=by simpa using h0
  refine lay w6 ⟨[],0,0,false,0,0⟩ none 0 false _ r5 (RW.nile f16) (fun h=>by cases h) ?_
  unfold rpP
  rw [if_pos h0]
 have h0:(lookD d (segF seg)).2=0:=by simpa using h0
 rintro e w14 ⟨rfl,f14⟩
 refine ⟨_,rfl,(rBytes_calls lo rb d (hinF seg) w14 (RkAt.fr0 h (f16.trans1 f14)) hS.fo hS.I hS.p).mono ?_⟩
 rintro e w17 ⟨f17,B2,k2,rfl,hB2,hk2⟩
 refine ⟨B2,_,k2,_,rfl,(rread24_calls B2 (lookD d (hinF seg)).1.length k2 (lookD d (hinF seg)).1 seg _ w17 hB2 hk2 (by omega)).mono ?_⟩
 rintro e w23 ⟨_,rfl,A,c,rfl,hr⟩
 have f617:=f14.trans1 f17
 have f1:=f16.trans1 f617
 have r5:=(r5.fr f617 (fun h=>h)).fr hr.f (fun h=>h)
 have hB:=(f617.trans1 hr.f).sl hB (fun _ _ _ h=>h)
 have l5:b5 < w17.heap.size:=(r5.fr (Fr.refl (fun _=>False) _) (fun h=>h)).lt |> fun _=>by
  have:=f617.size
  have:=(RecAt.lt (w:=w6) (by assumption:RecAt w6 b5 _ _))
  omega
 have k7:∀ t:Bool,(t=true ↔ ((lookD d (hinF seg)).2=0/\(hrP (lookD d (hinF seg)).1 seg ((lookD d (segF seg)).1.length:Int)).2.2=0))->jnC (F10.k7 fun v w'=>RpS w w' v (rpP d seg)) (seg,(b5,0),(B,(lookD d (segF seg)).1.length,k),(A,(hrP (lookD d (hinF seg)).1 seg ((lookD d (segF seg)).1.length:Int)).1.length,c),((hrP (lookD d (hinF seg)).1 seg ((lookD d (segF seg)).1.length:Int)).2.1:Int),t,()) w23:=by
  intro t ht
  refine jnC_mk (fun _=>vIf_mk (fun g=>?_) (fun g=>jnC_mk (fun _=>(rscan_calls B (lookD d (segF seg)).1.length k (lookD d (segF seg)).1 seg w23 hB hk (by omega)).mono ?_)))
  ·have hrp:rpP d seg=(⟨(hrP (lookD d (hinF seg)).1 seg ((lookD d (segF seg)).1.length:Int)).1,(hrP (lookD d (hinF seg)).1 seg ((lookD d (segF seg)).1.length:Int)).2.1,((lookD d (segF seg)).1.length:Int),true,((lookD d (segF seg)).1.length:Int),0⟩,true,0):=by
    unfold rpP
    rw [if_neg (fun g=>g h0),if_pos (ht.1 g)]
   refine lay w23 _ A c true 0 r5 (hr.le f1) (fun e=>?_) hrp
   have:=(hr.row.blt e).1
   omega
  ·rintro e u2 ⟨_,rfl,A3,c3,rfl,hr3⟩
   have su:=hr.f.size
   have hrp:rpP d seg=(scP (lookD d (segF seg)).1 seg,false,0):=by
    unfold rpP
    rw [if_neg (fun g=>g h0),if_neg (fun q=>by rw [ht.2 q] at g; cases g)]
   refine ⟨_,rfl,lay u2 _ A3 c3 false 0 (r5.fr hr3.f (fun h=>h)) (hr3.le (f1.trans1 hr.f)) (fun e=>?_) hrp⟩
   have:=(hr3.row.blt e).1
   omega
 refine ⟨_,_,_,_,_,rfl,vIf_mk (fun h2=>k7 _ ?_) (fun h2=>k7 false ?_)⟩
 ·have h2:(lookD d (hinF seg)).2=0:=by simpa using h2
  rw [beq_iff_eq]
  exact ⟨fun q=>⟨h2,q⟩,fun q=>q.2⟩
 ·have h2:(lookD d (hinF seg)).2 ≠ 0:=by simpa using h2
  exact ⟨fun q=>(by cases q),fun q=>absurd q.1 h2⟩
theorem same16_calls (x:Sn) (A1 A2:Option Addr) (c1 c2:Nat) (w:World) (h1:SW w A1 x.ws.length x.ws) (h2:SW w A2 x.ws.length x.ws) (hn:x.ws.length<=1099511627776) :
  Calls Tryz.prog 11 #[ofL (snC x A1 c1),ofL (snC x A2 c2)] w fun e w'=>e=.returned (.bool true)/\Fr (fun _=>False) w w':=by
 refine (F11.of _ _ w (Q:=fun v w'=>v=.bool true/\Fr (fun _=>False) w w') ?_).mono (fun e w' ⟨v,he,hv,h⟩=>⟨by rw [he,hv],h⟩)
 refine rec_new (fun b1 w2 f1 hb1 r1=>rec_new (fun b3 w4 f3 hb3 r3=>?_))
 have r1:=r1.fr f3 (fun h=>h)
 have f:=f1.trans1 f3
 refine ⟨A1,x.ws.length,c1,r1.cell (o:=0) rfl,A2,x.ws.length,c2,r3.cell (o:=0) rfl,(words_same A1 A2 x.ws.length c1 c2 x.ws w4 (h1.fr f) (h2.fr f) hn).mono ?_⟩
 rintro e w11 ⟨rfl,f11⟩
 have r1:=r1.fr f11 (fun h=>h)
 have r3:=r3.fr f11 (fun h=>h)
 refine ⟨_,rfl,vIf_t rfl ⟨_,r1.cell (o:=1) (v:=.int .u64 (x.sq:Nat)) rfl,_,r3.cell (o:=1) (v:=.int .u64 (x.sq:Nat)) rfl,vIf_t (by simp) ⟨_,r1.cell (o:=2) (v:=.int .i64 x.e) rfl,_,r3.cell (o:=2) (v:=.int .i64 x.e) rfl,vIf_t (by simp) ⟨_,r1.cell (o:=3) (v:=.bool x.s) rfl,_,r3.cell (o:=3) (v:=.bool x.s) rfl,vIf_t (by simp) ⟨_,r1.cell (o:=4) (v:=.int .i64 x.a) rfl,_,r3.cell (o:=4) (v:=.int .i64 x.a) rfl,vIf_t (by simp) ⟨_,r1.cell (o:=5) (v:=.int .i64 x.r) rfl,_,r3.cell (o:=5) (v:=.int .i64 x.r) rfl,?_,f.trans1 f11⟩⟩⟩⟩⟩⟩
 rw [show (x.r == x.r)=true from beq_self_eq_true _]
def daP (x:Rc):List UInt8:=if x.k=5 then x.d else if x.k=7 then stil ++ leB x.n.toNat 8 else leB x.n.toNat 4 ++ leB x.z.toNat 4
theorem daP_len {x:Rc} (h:x.d.length=32):(daP x).length<=32:=by
 unfold daP
 split
 ·omega
 ·split
  ·rw [List.length_append,leB_len]; show 8+8<=32; omega
  ·rw [List.length_append,leB_len,leB_len]; omega
set_option maxHeartbeats 1000000 in
theorem rdata_calls (x:Rc) (A:Option Addr) (n c:Nat) (w:World) (hd:x.d.length=32) (hk:5<=x.k/\x.k<=8) (hn:0<=x.n/\x.n < 4294967296) (hz:0<=x.z/\x.z < 4294967296) :
  Calls Tryz.prog 115 #[ofL (rcC x A n c)] w fun e w'=>∃ A' c',e=.returned (.slice A' (daP x).length c')/\RB w w' A' (daP x).length c' (daP x):=by
 refine (F115.of _ w (Q:=fun v w'=>∃ A' c',v=.slice A' (daP x).length c'/\RB w w' A' (daP x).length c' (daP x)) ?_).mono (fun e w' ⟨v,he,A',c',hv,h⟩=>⟨A',c',by rw [he,hv],h⟩)
 refine rec_new (fun b1 w2 f1 hb1 r1=>?_)
 have k12:∀ (u:World) (A1:Option Addr) (n1 c1:Nat) (l:List UInt8),Fr (fun _=>False) w2 u->RB w u A1 n1 c1 l->(x.k ≠ 7->l=daP x)->jnC (F115.k12 (fun v w'=>∃ A' c',v=.slice A' (daP x).length c'/\RB w w' A' (daP x).length c' (daP x))) ((b1,0),x.k,(A1,n1,c1),()) u:=by
  intro u A1 n1 c1 l fu hl hda
  refine jnC_mk (fun _=>vIf_mk (fun h7=>?_) (fun h7=>?_))
  ·have h7:x.k=7:=by simpa using h7
   refine rec_new (fun b39 u1 f39 hb39 r39=>mkS_mk r39 (fun u2 f2 hc=>⟨x.n,?_,?_⟩))
   ·exact f2.cell (f39.cell (fu.cell (r1.cell (o:=36) (rc_n hd A n c)) (fun h=>h)) (fun h=>h)) (fun h=>by have h:b1=b39:=h; have:=(r1.fr fu (fun h=>h)).lt; omega)
   ·have hu2:Fr (fun _=>False) u u2:=f39.trans f2 (fun _ _ h=>h) (fun k hk h=>by omega)
    have hsl:Sl u2 1 (some ⟨b39,0,none⟩) 8 (stil.map bv):=by
     refine ⟨rfl,fun _=>⟨b39,0,rfl,fun j v hj=>?_⟩⟩
     rw [hc]
     exact (rec_all r39) j v hj
    dsimp only
    rw [u64_id (by omega) (by omega)]
    have e8:x.n=((x.n.toNat:Nat):Int):=by omega
    rw [e8]
    refine (rputB_calls (some ⟨b39,0,none⟩) 8 8 stil x.n.toNat 8 u2 hsl (by omega) (by omega) (by omega)).mono ?_
    rintro e u3 ⟨A',c',rfl,hr⟩
    have hdp:daP x=stil ++ leB x.n.toNat 8:=by unfold daP; rw [if_neg (by omega),if_pos h7]
    have hl16:(daP x).length=8+8:=by rw [hdp,List.length_append,leB_len]; rfl
    refine ⟨A',_,c',rfl,A',c',?_,?_⟩
    ·rw [hl16]
    ·rw [hl16,hdp]
     exact (hr.le hu2).le hl.1
  ·have h7:¬ x.k=7:=by simpa using h7
   have:=hda h7
   subst this
   refine ⟨A1,c1,?_,?_⟩
   ·rw [hl.len]
   ·rw [hl.len]; exact hl
 have k11:∀ (t:Bool) (u:World) (A1:Option Addr) (n1 c1:Nat) (l:List UInt8),Fr (fun _=>False) w2 u->RB w u A1 n1 c1 l->(x.k=5->l=daP x)->(x.k ≠ 5->l=[]/\n1=0)->(t=true ↔ (x.k=6\/x.k=8))->jnC (F115.k11 (fun v w'=>∃ A' c',v=.slice A' (daP x).length c'/\RB w w' A' (daP x).length c' (daP x))) ((b1,0),x.k,(A1,n1,c1),t,()) u:=by
  intro t u A1 n1 c1 l fu hl h5 hn5 ht
  refine jnC_mk (fun _=>vIf_mk (fun g=>?_) (fun g=>k12 u A1 n1 c1 l fu hl (fun h7=>?_)))
  ·have hk68:=ht.1 g
   have fd:Fr (fun _=>False) u u.drew:=Fr.drew _ _
   have rd:=(r1.fr fu (fun h=>h)).fr fd (fun h=>h)
   obtain ⟨rfl,rfl⟩:=hn5 (by omega)
   refine ⟨x.n,rd.cell (o:=36) (rc_n hd A n c),x.z,rd.cell (o:=37) (rc_z hd A n c),?_⟩
   dsimp only
   rw [u64_id (by omega) (by omega),u64_id (by omega) (by omega)]
   have e8:x.n=((x.n.toNat:Nat):Int):=by omega
   have e9:x.z=((x.z.toNat:Nat):Int):=by omega
   rw [e8,e9]
   refine (rputB_calls A1 0 c1 [] x.n.toNat 4 u.drew (fd.sl hl.sl (fun _ _ _ h=>h)) (by omega) (by omega) (by omega)).mono ?_
   rintro e u3 ⟨A',c',rfl,hr⟩
   rw [List.nil_append] at hr
   refine ⟨A',_,c',rfl,kp_mk hr.1 rd.lt (fun h=>h) ?_⟩
   refine (rputB_calls A' (0+4) c' _ x.z.toNat 4 u3 hr.sl (by omega) (by omega) (by omega)).mono ?_
   rintro e u4 ⟨A2,c2,rfl,hr2⟩
   have hdp:daP x=leB x.n.toNat 4 ++ leB x.z.toNat 4:=by unfold daP; rw [if_neg (by omega),if_neg (by omega)]
   exact ⟨A2,_,c2,rfl,k12 u4 A2 _ c2 (leB x.n.toNat 4 ++ leB x.z.toNat 4) (((fu.trans1 fd).trans1 hr.1).trans1 hr2.1) (((hr2.le hr.1).le fd).le hl.1) (fun _=>hdp.symm)⟩
  ·have:¬ (x.k=6\/x.k=8):=fun q=>by rw [ht.2 q] at g; cases g
   exact h5 (by omega)
 have k10:∀ (u:World) (A1:Option Addr) (n1 c1:Nat) (l:List UInt8),Fr (fun _=>False) w2 u->RB w u A1 n1 c1 l->(x.k=5->l=daP x)->(x.k ≠ 5->l=[]/\n1=0)->jnC (F115.k10 (fun v w'=>∃ A' c',v=.slice A' (daP x).length c'/\RB w w' A' (daP x).length c' (daP x))) ((b1,0),x.k,(A1,n1,c1),()) u:=by
  intro u A1 n1 c1 l fu hl h5 hn5
  refine jnC_mk (fun _=>vIf_mk (fun g=>k11 true u A1 n1 c1 l fu hl h5 hn5 ?_) (fun g=>k11 _ u A1 n1 c1 l fu hl h5 hn5 ?_))
  ·have g:x.k=6:=by simpa using g
   exact ⟨fun _=>.inl g,fun _=>rfl⟩
  ·have g:¬ x.k=6:=by simpa using g
   rw [beq_iff_eq]
   exact ⟨fun q=>.inr q,fun q=>q.resolve_left g⟩
 have k8:∀ (u:World) (A1:Option Addr) (n1 c1:Nat) (l:List UInt8),Fr (fun _=>False) w2 u->RB w u A1 n1 c1 l->(x.k=5->l=daP x)->(x.k ≠ 5->l=[]/\n1=0)->jnC (F115.k8 (fun v w'=>∃ A' c',v=.slice A' (daP x).length c'/\RB w w' A' (daP x).length c' (daP x))) ((b1,0),x.k,(A1,n1,c1),()) u:=by
  intro u A1 n1 c1 l fu hl h5 hn5
  refine jnC_mk (fun _=>vIf_mk (fun g=>?_) (fun g=>vIf_mk (fun g=>?_) (fun g=>k10 u A1 n1 c1 l fu hl h5 hn5)))
  ·have g:x.k=1:=by simpa using g
   omega
  ·have g:x.k=2:=by simpa using g
   omega
 have k6:jnC (F115.k6 (fun v w'=>∃ A' c',v=.slice A' (daP x).length c'/\RB w w' A' (daP x).length c' (daP x))) ((b1,0),x.k,(none,0,0),()) w2:=by
  have hnil:RB w w2 none 0 0 []:=(RB.nil w).fr f1
  refine jnC_mk (fun _=>vIf_mk (fun g=>?_) (fun g=>vIf_mk (fun g=>?_) (fun g=>vIf_mk (fun g=>?_) (fun g=>vIf_mk (fun g=>?_) (fun g=>?_)))))
  ·have g:x.k=1:=by simpa using g
   omega
  ·have g:x.k=2:=by simpa using g
   omega
  ·have g:x.k=3:=by simpa using g
   omega
  ·have g:x.k=5:=by simpa using g
   have hs:Sl w2 1 (some ⟨b1,0+2,none⟩) 32 (x.d.map bv):=⟨by rw [List.length_map,hd],fun _=>⟨b1,0+2,rfl,r1.cells (o:=2) (fun j v hj=>rcC_d hd A n c j v hj)⟩⟩
   refine appB_mk (RB.nil w2) hs (by show 0+32<=1099511627776; omega) (fun A' c' w' hr=>k8 w' A' _ c' _ hr.1 (hr.le f1) (fun _=>?_) (fun h=>absurd g h))
   ·unfold daP
    rw [if_pos g]; rfl
  ·have g:¬ x.k=5:=by simpa using g
   exact k8 w2 none 0 0 [] (Fr.refl _ _) hnil (fun h=>absurd h g) (fun _=>⟨rfl,rfl⟩)
 refine ⟨x.k,r1.cell (o:=0) (rc_k _ _ _),vIf_mk (fun g=>?_) (fun g=>jnC_mk (fun _=>vIf_mk (fun g'=>?_) (fun _=>k6)))⟩
 ·have g:x.k=3:=by simpa using g
  omega
 ·have g':x.k=4:=by simpa using g'
  omega
abbrev mkR (x:Rc):List UInt8:=mkF x.k.toNat x.sq (daP x)
theorem rmk14_calls (x:Rc) (A:Option Addr) (n c:Nat) (w:World) (hd:x.d.length=32) (hk:5<=x.k/\x.k<=8) (hn:0<=x.n/\x.n < 4294967296) (hz:0<=x.z/\x.z < 4294967296) (hs:x.sq < 18446744073709551616) (hr:rgR x=0) (hnl:n=x.dat.length) (hm:x.nm.length<=255) :
  Calls Tryz.prog 71 #[ofL (rcC x A n c)] w fun e w'=>∃ A' c',e=.returned (.tuple #[.slice A' (mkR x).length c',.int .i64 0])/\RB w w' A' (mkR x).length c' (mkR x):=by
 refine (F71.of _ w (Q:=fun v w'=>∃ A' c',v=.tuple #[.slice A' (mkR x).length c',.int .i64 0]/\RB w w' A' (mkR x).length c' (mkR x)) ?_).mono (fun e w' ⟨v,he,A',c',hv,h⟩=>⟨A',c',by rw [he,hv],h⟩)
 refine rec_new (fun b1 w2 f1 hb1 r1=>⟨_,rcC_len hd _ _ _,rec_all r1,(rrgt_calls x A n c w2 hd hnl hm).mono ?_⟩)
 rintro e w4 ⟨rfl,f4⟩
 refine ⟨_,rfl,vIf_mk (fun g=>?_) (fun g=>?_)⟩
 ·rw [hr] at g; cases g
 have fd:Fr (fun _=>False) w4 w4.drew:=Fr.drew _ _
 have r4:=(r1.fr f4 (fun h=>h)).fr fd (fun h=>h)
 refine ⟨_,r4.cell (o:=0) (rc_k _ _ _),_,r4.cell (o:=1) (rc_sq _ _ _),_,rcC_len hd _ _ _,rec_all r4,(rdata_calls x A n c w4.drew hd hk hn hz).mono ?_⟩
 rintro e w14 ⟨A1,c1,rfl,h1⟩
 have hl:=daP_len hd
 have e8:x.k=((x.k.toNat:Nat):Int):=by omega
 refine ⟨A1,_,c1,rfl,kp_mk h1.1 r4.lt (fun h=>h) (kp_mk h1.1 r4.lt (fun h=>h) ?_)⟩
 rw [e8]
 refine (rmake_calls x.k.toNat x.sq A1 (daP x).length c1 (daP x) w14 h1.sl (by omega) (by omega) hs).mono ?_
 rintro e w19 ⟨A2,c2,rfl,h2⟩
 have hlm:(mkR x).length=21+(daP x).length:=mkF_len _ _ _
 exact ⟨A2,_,c2,rfl,A2,c2,by rw [hlm],by rw [hlm]; exact ((h2.le h1.1).le ((f1.trans1 f4).trans1 fd))⟩
def rc5q (q:Nat):Rc:=⟨5,q,z32,[],[],0,0⟩
def rc5:Rc:=rc5q 0
theorem rgR5:rgR rc5=0:=by decide +kernel
set_option maxHeartbeats 1000000 in
theorem wrong15_calls (b1:Nat) (w:World) (r:RecAt w b1 92 (rcC rc5 none 0 0)) :
  Calls Tryz.prog 116 #[.slice (some ⟨b1,0,none⟩) 1 1] w fun e w'=>e=.returned (.int .i64 0)/\Fr (fun _=>False) w w':=by
 refine (F116.of (some ⟨b1,0,none⟩) 1 1 w (Q:=fun v w'=>v=.int .i64 0/\Fr (fun _=>False) w w') ?_).mono (fun e w' ⟨v,he,hv,h⟩=>⟨by rw [he,hv],h⟩)
 have hk:=r.cell (o:=0) (rc_k (x:=rc5) none 0 0)
 refine vIf_f rfl (jnC_mk (loop_rule (fun s u=>Fr (fun _=>False) w u/\∃ i:Nat,i<=1/\s=((some ⟨b1,0,none⟩,1,1),(i:Int),())) (fun s _=>(1 - s.2.1).toNat) ?_ _ _ ⟨Fr.refl _ _,0,by omega,rfl⟩))
 rintro s u C ⟨hf,i,hi,rfl⟩ hC _
 refine vIf_mk (fun hlt=>?_) (fun hge=>jnC_mk (loop_rule (fun s u=>Fr (fun _=>False) w u/\∃ i:Nat,i<=1/\s=((some ⟨b1,0,none⟩,1,1),(i:Int),())) (fun s _=>(1 - s.2.1).toNat) ?_ _ _ ⟨hf,0,by omega,rfl⟩))
 ·have hlt:(i:Int) < 1:=of_decide_eq_true hlt
  obtain rfl:i=0:=by omega
  have c0:=hf.cell hk (fun h=>h)
  refine dr_mk (gd_mk rfl (gd_mk rfl ⟨5,c0,vIf_f rfl (dr_mk (gd_mk rfl (gd_mk rfl ⟨5,c0,vIf_f rfl (jnC_mk (hC _ _ ⟨hf,1,by omega,rfl⟩ ?_))⟩)))⟩))
  show (1 - (1:Int)).toNat < (1 - (0:Int)).toNat
  decide
 ·rintro s u C ⟨hf,i,hi,rfl⟩ hC _
  refine vIf_mk (fun hlt=>?_) (fun _=>⟨rfl,hf⟩)
  have hlt:(i:Int) < 1:=of_decide_eq_true hlt
  obtain rfl:i=0:=by omega
  refine dr_mk (gd_mk rfl (gd_mk rfl ⟨_,rcC_len z32_len _ _ _,rec_all (r.fr hf (fun h=>h)),(rrgt_calls rc5 none 0 0 u z32_len rfl (Nat.zero_le _)).mono ?_⟩))
  rintro e u2 ⟨rfl,f2⟩
  refine ⟨_,rfl,?_⟩
  rw [rgR5]
  refine vIf_f rfl (jnC_mk (hC _ _ ⟨hf.trans1 f2,1,by omega,rfl⟩ ?_))
  show (1 - (1:Int)).toNat < (1 - (0:Int)).toNat
  decide
def ba5 (q:Nat):List UInt8:=mkR (rc5q q) ++ mkR ⟨6,q+1,z32,[],[],1,53⟩
theorem rgR6:∀ q:Nat,rgR ⟨6,q,z32,[],[],1,53⟩=0:=fun q=>rfl
theorem rgR5q:∀ q:Nat,rgR (rc5q q)=0:=fun q=>rfl
set_option maxHeartbeats 2000000 in
theorem rmk15_calls (b1:Nat) (q:Nat) (w:World) (r:RecAt w b1 92 (rcC rc5 none 0 0)) (hq:q < 1000) :
  Calls Tryz.prog 72 #[.slice (some ⟨b1,0,none⟩) 1 1,.int .u64 (q:Nat)] w fun e w'=>∃ A' c',e=.returned (.tuple #[.slice A' (ba5 q).length c',.int .u64 ((q+2:Nat):Int),.int .i64 0])/\RB w w' A' (ba5 q).length c' (ba5 q):=by
 refine (F72.of (some ⟨b1,0,none⟩) 1 1 q w (Q:=fun v w'=>∃ A' c',v=.tuple #[.slice A' (ba5 q).length c',.int .u64 ((q+2:Nat):Int),.int .i64 0]/\RB w w' A' (ba5 q).length c' (ba5 q)) ?_).mono (fun e w' ⟨v,he,A',c',hv,h⟩=>⟨A',c',by rw [he,hv],h⟩)
 have hl5:(mkR (rc5q q)).length=53:=by
  rw [mkF_len]
  have hz:daP (rc5q q)=z32:=if_pos rfl
  rw [hz,z32_len]
 refine (wrong15_calls b1 w r).mono ?_
 rintro e w1 ⟨rfl,f1⟩
 have e1:IntKind.wrap .u64 ((q:Int)+IntKind.wrap .u64 ((1:Nat):Int))=((q+1:Nat):Int):=by rw [u64_id (n:=((1:Nat):Int)) (by omega) (by omega),u64_id (by omega) (by omega)]; omega
 have e2:IntKind.wrap .u64 (((q+1:Nat):Int)+1)=((q+2:Nat):Int):=by rw [u64_id (by omega) (by omega)]; omega
 refine ⟨0,rfl,vIf_f rfl ?_⟩
 dsimp only
 rw [e1,e2]
 refine vIf_f (decide_eq_false (by omega)) (jnC_mk (loop_rule (fun s u=>∃ (i:Nat) (A1:Option Addr) (c1:Nat) (l:List UInt8),s=((some ⟨b1,0,none⟩,1,1),(q:Int),(A1,l.length,c1),(i:Int),())/\RB w u A1 l.length c1 l/\(i=0/\l=[]\/i=1/\l=mkR (rc5q q))) (fun s _=>(1 - s.2.2.2.1).toNat) ?_ _ _ ⟨0,none,0,[],rfl,(RB.nil w).fr f1,.inl ⟨rfl,rfl⟩⟩))
 rintro s u C ⟨i,A1,c1,l,rfl,hl,hil⟩ hC _
 refine vIf_mk (fun hlt=>?_) (fun hge=>?_)
 ·have hlt:(i:Int) < 1:=of_decide_eq_true hlt
  obtain ⟨rfl,rfl⟩:i=0/\l=[]:=by
   rcases hil with h | h
   ·exact h
   ·omega
  refine dr_mk (gd_mk rfl (gd_mk rfl ⟨_,rcC_len z32_len _ _ _,rec_all (r.fr hl.1 (fun h=>h)),var_new (sz:=38) rfl (rcC_len z32_len _ _ _) (rcC_one _ _ _ _) (fun b10 u1 fu1 hb10 r10=>?_)⟩))
  have e0:IntKind.wrap .u64 ((q:Int)+IntKind.wrap .u64 ((0:Nat):Int))=(q:Int):=by rw [u64_id (n:=((0:Nat):Int)) (by omega) (by omega),u64_id (by omega) (by omega)]; omega
  show st u1 b10 (0+1) [Value.int .u64 (IntKind.wrap .u64 ((q:Int)+IntKind.wrap .u64 ((0:Nat):Int)))] _
  rw [e0]
  refine r10.st_mk (o:=1) (by rw [rcC_len z32_len]; show 1+1<=38; omega) (fun v hv=>by simp at hv; subst hv; rfl) (fun q10 g10=>?_)
  rw [rcC_sts] at q10
  have q10:RecAt _ b10 92 (rcC (rc5q q) none 0 0):=q10
  have su:=hl.1.size
  have hu2:=fr_var (hl.1.trans1 fu1) (by omega) g10
  refine ⟨_,rcC_len (x:=rc5q q) z32_len _ _ _,rec_all q10,(rmk14_calls (rc5q q) none 0 0 _ z32_len ⟨(show (5:Int)<=5 by decide),(show (5:Int)<=8 by decide)⟩ ⟨(show (0:Int)<=0 by decide),(show (0:Int) < 4294967296 by decide)⟩ ⟨(show (0:Int)<=0 by decide),(show (0:Int) < 4294967296 by decide)⟩ (by show q < _; omega) (rgR5q q) rfl (Nat.zero_le _)).mono ?_⟩
  rintro e u3 ⟨A3,c3,rfl,h3⟩
  have hl3:RB w u3 A1 0 c1 []:=by
   have hA:A1=none\/True:=.inr trivial
   refine ⟨hu2.trans1 h3.1,?_⟩
   exact h3.1.row (g10.row ((hl.fr fu1).2) (fun b hb e=>by have:=(hl.2.blt hb).2; omega)) (fun _ _ h=>h)
  refine ⟨A3,_,c3,0,rfl,appB_mk (n:=0) hl3 h3.sl (by rw [hl5]; show 0+53<=1099511627776; omega) (fun A' c' w' hr=>jnC_mk (hC _ _ ⟨1,A',c',mkR (rc5q q),?_,?_,.inr ⟨rfl,rfl⟩⟩ ?_))⟩
  ·show (_,_,(A',0+(mkR (rc5q q)).length,c'),_,())=_
   rw [Nat.zero_add]; rfl
  ·rw [List.nil_append,Nat.zero_add] at hr
   exact hr
  ·show (1 - (1:Int)).toNat < (1 - (0:Int)).toNat
   decide
 ·have hge:¬ (i:Int) < 1:=of_decide_eq_false hge
  obtain ⟨rfl,rfl⟩:i=1/\l=mkR (rc5q q):=by
   rcases hil with h | h
   ·omega
   ·exact h
  dsimp only
  rw [e1,hl5]
  rw [hl5] at hl
  refine (rmk14_calls ⟨6,q+1,z32,[],[],1,53⟩ none 0 0 u z32_len ⟨(show (5:Int)<=6 by decide),(show (6:Int)<=8 by decide)⟩ ⟨(show (0:Int)<=1 by decide),(show (1:Int) < 4294967296 by decide)⟩ ⟨(show (0:Int)<=53 by decide),(show (53:Int) < 4294967296 by decide)⟩ (by show q+1 < _; omega) (rgR6 (q+1)) rfl (Nat.zero_le _)).mono ?_
  rintro e u3 ⟨A3,c3,rfl,h3⟩
  have hlm:(mkR ⟨6,q+1,z32,[],[],1,53⟩).length<=100:=by rw [mkF_len]; have:=daP_len (x:=⟨6,q+1,z32,[],[],1,53⟩) z32_len; omega
  refine ⟨A3,_,c3,0,rfl,appB_mk (hl.fr h3.1) h3.sl (by omega) (fun A' c' w' hr=>⟨A',c',?_,?_⟩)⟩
  ·rw [e2]
   unfold ba5
   rw [List.length_append,hl5]
  ·unfold ba5
   rw [List.length_append,hl5]
   exact hr
def hd7:List UInt8:=mkR ⟨7,5,z32,[],[],2,0⟩
def ft8:List UInt8:=mkR ⟨8,8,z32,[],[],1,119⟩
def lvB:List UInt8:=hd7 ++ ba5 6 ++ ft8
theorem hd7_len:hd7.length=37:=by
 unfold hd7
 rw [mkF_len]
 decide +kernel
theorem ba5_len:(ba5 6).length=82:=by
 unfold ba5
 rw [List.length_append,mkF_len,mkF_len]
 decide +kernel
theorem ft8_len:ft8.length=29:=by
 unfold ft8
 rw [mkF_len]
 decide +kernel
theorem lvB_len:lvB.length=148:=by
 unfold lvB
 rw [List.length_append,List.length_append,hd7_len,ba5_len,ft8_len]
set_option maxHeartbeats 2000000 in
theorem build_calls (b1 b3:Nat) (w:World) (r:RecAt w b1 92 (rcC rc5 none 0 0)) (r3:RecAt w b3 93 [.slice (some ⟨b1,0,none⟩) 1 1]) :
  Calls Tryz.prog 36 #[.int .i64 2,.int .u64 5,.slice (some ⟨b3,0,none⟩) 1 1,.bool true] w fun e w'=>∃ A' c',e=.returned (.tuple #[.slice A' lvB.length c',.int .i64 0])/\RB w w' A' lvB.length c' lvB:=by
 refine (F36.of 2 5 (some ⟨b3,0,none⟩) 1 1 true w (Q:=fun v w'=>∃ A' c',v=.tuple #[.slice A' lvB.length c',.int .i64 0]/\RB w w' A' lvB.length c' lvB) ?_).mono (fun e w' ⟨v,he,A',c',hv,h⟩=>⟨A',c',by rw [he,hv],h⟩)
 refine (rmk14_calls ⟨7,5,z32,[],[],2,0⟩ none 0 0 w z32_len ⟨(show (5:Int)<=7 by decide),(show (7:Int)<=8 by decide)⟩ ⟨(show (0:Int)<=2 by decide),(show (2:Int) < 4294967296 by decide)⟩ ⟨(show (0:Int)<=0 by decide),(show (0:Int) < 4294967296 by decide)⟩ (show 5 < 18446744073709551616 by decide) rfl rfl (Nat.zero_le _)).mono ?_
 rintro e w1 ⟨A1,c1,rfl,h1⟩
 have h1:RB w w1 A1 hd7.length c1 hd7:=h1
 refine ⟨A1,_,c1,0,rfl,vIf_f rfl ?_⟩
 refine jnC_mk (loop_rule (fun s u=>∃ (A2:Option Addr) (c2:Nat) (l:List UInt8) (q i:Nat),s=((some ⟨b3,0,none⟩,1,1),true,(A2,l.length,c2),(q:Int),(i:Int),(i:Int),())/\RB w u A2 l.length c2 l/\(i=0/\q=6/\l=hd7\/i=1/\q=8/\l=hd7 ++ ba5 6)) (fun s _=>(1 - s.2.2.2.2.2.1).toNat) ?_ _ _ ⟨A1,c1,hd7,6,0,rfl,h1,.inl ⟨rfl,rfl,rfl⟩⟩)
 rintro s u C ⟨A2,c2,l,q,i,rfl,hl,hil⟩ hC _
 refine vIf_mk (fun hlt=>?_) (fun hge=>?_)
 ·have hlt:(i:Int) < 1:=of_decide_eq_true hlt
  obtain ⟨rfl,rfl,rfl⟩:i=0/\q=6/\l=hd7:=by
   rcases hil with h | h
   ·exact h
   ·omega
  refine dr_mk (gd_mk rfl (gd_mk rfl ⟨some ⟨b1,0,none⟩,1,1,(r3.fr hl.1 (fun h=>h)).cell (o:=0) rfl,(rmk15_calls b1 6 u (r.fr hl.1 (fun h=>h)) (by decide)).mono ?_⟩))
  rintro e u2 ⟨A3,c3,rfl,h3⟩
  refine ⟨A3,_,c3,_,_,rfl,vIf_f rfl (appB_mk (hl.fr h3.1) h3.sl (by show hd7.length+(ba5 6).length<=1099511627776; rw [hd7_len,ba5_len]; omega) (fun A4 c4 w4 hr=>dr_mk (gd_mk rfl (gd_mk rfl ⟨some ⟨b1,0,none⟩,1,1,(r3.fr hr.1 (fun h=>h)).cell (o:=0) rfl,jnC_mk (hC _ _ ⟨A4,c4,hd7 ++ ba5 6,8,1,?_,?_,.inr ⟨rfl,rfl,rfl⟩⟩ ?_)⟩))))⟩
  ·rw [List.length_append]; rfl
  ·rw [List.length_append]; exact hr
  ·show (1 - (1:Int)).toNat < (1 - (0:Int)).toNat
   decide
 ·have hge:¬ (i:Int) < 1:=of_decide_eq_false hge
  obtain ⟨rfl,rfl,rfl⟩:i=1/\q=8/\l=hd7 ++ ba5 6:=by
   rcases hil with h | h
   ·omega
   ·exact h
  have hll:(hd7 ++ ba5 6).length=119:=by rw [List.length_append,hd7_len,ba5_len]
  rw [hll] at hl
  refine vIf_t rfl ?_
  dsimp only
  rw [hll]
  refine (rmk14_calls ⟨8,8,z32,[],[],1,119⟩ none 0 0 u z32_len ⟨(show (5:Int)<=8 by decide),(show (8:Int)<=8 by decide)⟩ ⟨(show (0:Int)<=1 by decide),(show (1:Int) < 4294967296 by decide)⟩ ⟨(show (0:Int)<=119 by decide),(show (119:Int) < 4294967296 by decide)⟩ (show 8 < 18446744073709551616 by decide) rfl rfl (Nat.zero_le _)).mono ?_
  rintro e u2 ⟨A3,c3,rfl,h3⟩
  have h3:RB u u2 A3 ft8.length c3 ft8:=h3
  refine ⟨A3,_,c3,0,rfl,vIf_f rfl (appB_mk (hl.fr h3.1) h3.sl (by show 119+ft8.length<=_; rw [ft8_len]; omega) (fun A4 c4 w4 hr=>jnC_mk (fun _=>⟨A4,c4,?_,?_⟩)))⟩
  ·show Value.tuple #[Value.slice A4 (119+ft8.length) c4,_]=_
   rw [ft8_len,lvB_len]
  ·have e:119+(mkR ⟨8,8,z32,[],[],1,119⟩).length=lvB.length:=by
    show 119+ft8.length=_
    rw [ft8_len,lvB_len]
   rw [<- e]
   exact hr
theorem limits_calls (w:World):Calls Tryz.prog 5 #[] w fun e w'=>e=.returned (ofL [.int .i64 16777216,.int .i64 1000])/\Fr (fun _=>False) w w':=by
 refine (F5.of w (Q:=fun v w'=>v=ofL [.int .i64 16777216,.int .i64 1000]/\Fr (fun _=>False) w w') ?_).mono (fun e w' ⟨v,he,hv,h⟩=>⟨by rw [he,hv],h⟩)
 refine rec_new (fun b1 w2 f1 hb1 r1=>?_)
 exact ansN_mk (N:=2) (cs:=[.int .i64 16777216,.int .i64 1000]) (K:=fun a w1=>ofL a=ofL [.int .i64 16777216,.int .i64 1000]/\Fr (fun _=>False) w w1) r1 rfl rfl (fun v hv=>by
  simp only [List.mem_cons,List.not_mem_nil,or_false] at hv
  rcases hv with rfl | rfl <;> rfl) (fun w' g=>⟨rfl,fr_var f1 hb1 g⟩)
theorem dkS_of {d:Dk} {N:Nat} (hI:DkI d) (hB:DkB d N) (hN:N<=349525):DkS d :=
 ⟨by have:=hB.fo; unfold FoB; omega,hI.ino,fun id=>by have:=hB.p id; omega,hI⟩
def lvN:ByteArray:=⟨#[115,101,103,45,48,48,48,48,48,48,48,50]⟩
theorem lv_seg:segF 2=lvN:=by decide +kernel
theorem lv_hin:hinF 2 ≠ lvN:=by decide +kernel
theorem lv_disk:DiskP lvN:=by
 have h:∀ i:Fin 12,33<=byteAt lvN i.val/\byteAt lvN i.val<=126/\byteAt lvN i.val ≠ 47:=by decide +kernel
 have hs:lvN.size=12:=rfl
 exact ⟨fun i hi=>h ⟨i,by omega⟩,by omega,by omega⟩
theorem lv_lod:lodF 16777216 1000 [(lvN,lvB)]={ newD 16777216 1000 with last:=1,F:=⟨[(lvN,1)],[]⟩,f:=updF (fun _=>zI) 1 ⟨lvB,[]⟩ }:=by
 show lodS (newD 16777216 1000) (lvN,lvB)=_
 have hn:nowF (newD 16777216 1000).F=[]:=by rw [nowF_nil rfl]; rfl
 unfold lodS
 rw [if_neg]
 ·rfl
 ·rintro (h | h | h)
  ·have h:(findN lvN (nowF (newD 16777216 1000).F)).isSome=true:=h
   rw [hn] at h; cases h
  ·exact h lv_disk
  ·have h:lvB.length > 1048576:=h
   rw [lvB_len] at h; omega
theorem lv_look (s:ByteArray):lookD (loadD 16777216 1000 [(lvN,lvB)]) s=if s=lvN then (lvB,0) else ([],6):=by
 have hF:(loadD 16777216 1000 [(lvN,lvB)]).F=⟨nowF ⟨[(lvN,1)],[]⟩,[]⟩:=by unfold loadD; rw [lv_lod]
 have hdn:(loadD 16777216 1000 [(lvN,lvB)]).down=false:=by unfold loadD; rw [lv_lod]; rfl
 have hf:(loadD 16777216 1000 [(lvN,lvB)]).f=updF (fun _=>zI) 1 ⟨lvB,[]⟩:=by unfold loadD; rw [lv_lod]
 have e1:nowF (⟨[(lvN,1)],[]⟩:Fo)=lastN [(lvN,1)]:=nowF_nil rfl
 have e2:nowF (⟨lastN [(lvN,1)],[]⟩:Fo)=lastN (lastN [(lvN,1)]):=nowF_nil rfl
 have e3:findN s (nowF (loadD 16777216 1000 [(lvN,lvB)]).F)=findN s [(lvN,1)]:=by rw [hF,e1,e2,lastN_find,lastN_find]
 unfold lookD
 rw [hdn,if_neg (by decide),e3]
 by_cases h:s=lvN
 ·subst h
  rw [if_pos rfl]
  have e4:findN lvN [(lvN,1)]=some 1:=if_pos rfl
  rw [e4]
  show (nowI ((loadD 16777216 1000 [(lvN,lvB)]).f 1),(0:Int))=_
  rw [hf]
  rfl
 ·rw [if_neg h]
  have e4:findN s [(lvN,1)]=none:=by
   show (if lvN=s then _ else _)=_
   rw [if_neg (fun g=>h g.symm)]; rfl
  rw [e4]
theorem lv_scan:(scP lvB 2).s=true/\(scP lvB 2).ws.length=1/\(scP lvB 2).sq=8:=by decide +kernel
theorem lv_rp:rpP (loadD 16777216 1000 [(lvN,lvB)]) 2=(scP lvB 2,false,0):=by
 have h1:=lv_look (segF 2)
 have h2:=lv_look (hinF 2)
 rw [if_pos lv_seg] at h1
 rw [if_neg lv_hin] at h2
 unfold rpP
 rw [h1,h2]
 rw [if_neg (fun g=>g rfl),if_neg (fun g=>by have:=g.1; cases this)]
set_option maxHeartbeats 2000000 in
theorem lives31_calls (w:World) (hv:Nm8.VK w):Calls Tryz.prog 12 #[] w fun e w'=>e=.returned (.bool true)/\Fr (fun _=>False) w w':=by
 refine (F12.of w (Q:=fun v w'=>v=.bool true/\Fr (fun _=>False) w w') ?_).mono (fun e w' ⟨v,he,hv,h⟩=>⟨by rw [he,hv],h⟩)
 have lay:∀ (K:Nat->World->Prop),(∀ b w',Fr (fun _=>False) w w'->w.heap.size<=b->RecAt w' b 92 (rcC rc5 none 0 0)->K b w')->nw w (rcC rc5 none 0 0 ++ []) 92 K:=by
  intro K hK
  rw [List.append_nil]
  exact rec_new hK
 refine gd_mk rfl (lay _ (fun b1 w2 f1 hb1 r1=>rec_new (fun b3 w4 f3 hb3 r3=>?_)))
 refine (build_calls b1 b3 w4 (r1.fr f3 (fun h=>h)) r3).mono ?_
 rintro e w5 ⟨A7,c9,rfl,hB⟩
 refine ⟨A7,_,c9,_,rfl,(limits_calls w5).mono ?_⟩
 rintro e w11 ⟨rfl,f11⟩
 have f0:=((f1.trans1 f3).trans1 hB.1).trans1 f11
 refine ⟨_,rfl,gd_mk rfl (rec_new (fun b14 w15 f15 hb15 r15=>?_))⟩
 have hI:ISl w15 (some ⟨b14,0,none⟩) 1 [(lvN,lvB)]:=by
  refine ⟨[.string lvN,.slice A7 lvB.length c9],⟨rfl,fun _=>⟨b14,0,rfl,rec_all r15⟩⟩,rfl,fun i x hx=>?_⟩
  cases i with
  | zero =>
   cases hx
   exact ⟨A7,lvB.length,c9,rfl,(f11.trans1 f15).sl hB.sl (fun _ _ _ h=>h),hB.2.le⟩
  | succ i=>cases hx
 have hsm:∀ x ∈ [(lvN,lvB)],x.1.size<=1099511627775:=fun x hx=>by
  simp at hx; subst hx
  show (12:Nat)<=_
  omega
 have hdm:∀ x ∈ [(lvN,lvB)],x.2.length<=1099511627775:=fun x hx=>by
  simp at hx; subst hx
  show lvB.length<=_
  rw [lvB_len]; omega
 refine (Load_calls 16777216 1000 _ 1 1 [(lvN,lvB)] w15 hI (by omega) hsm hdm).mono ?_
 rintro e w16 ⟨f16,db,r,rfl,hD,_,_⟩
 have f016:=(f0.trans1 f15).trans1 f16
 refine ⟨_,rfl,(rpscan_calls db r _ 2 w16 hD (dkS_of load_I (load_B (by omega) (by omega)) (by show 1<=349525; omega)) (hv.fr f016)).mono ?_⟩
 rintro e w19 ⟨_,rfl,A,c,rfl,hr⟩
 rw [lv_rp] at hr ⊢
 obtain ⟨q1,q2,q3⟩:=lv_scan
 generalize scP lvB 2=X at q1 q2 q3 hr ⊢
 refine ⟨_,_,_,rfl,var_new (sz:=6) rfl rfl (snC_one _ _ _) (fun b24 w26 f26 hb26 r26=>vIf_t rfl (vIf_t rfl (vIf_t rfl (ld_b (r26.cell (o:=3) (v:=.bool X.s) rfl) (vIf_t q1 ⟨A,_,c,r26.cell (o:=0) rfl,vIf_mk (fun _=>⟨_,r26.cell (o:=1) (v:=.int .u64 (X.sq:Nat)) rfl,?_,(f016.trans1 hr.f).trans1 f26⟩) (fun h=>?_)⟩)))))⟩
 ·rw [q3]; rfl
 ·exfalso
  have h:(((X.ws.length:Nat):Int) == 1)=false:=h
  rw [q2] at h; cases h
theorem rpP_down {d:Dk} (h:d.down=true) (seg:Int):rpP d seg=(⟨[],0,0,false,0,0⟩,false,11):=by
 have hl:∀ s,lookD d s=([],11):=fun s=>by unfold lookD; rw [if_pos h]
 unfold rpP
 rw [hl,if_pos (by decide)]
theorem scG_len (b:List UInt8) (n:Int):∀ (f:Nat) (s:Sn),0<=s.e->(s.ws.length:Int)<=s.e->s.e<=(b.length:Int)->(scG b n f s).ws.length<=b.length
 | 0,s,h0,h1,h2=>by show s.ws.length<=_; omega
 | f+1,s,h0,h1,h2=>by
  unfold scG
  split
  ·split
   ·have hws:(ftP b s).1.ws=s.ws:=by
     unfold ftP
     split
     ·rfl
     ·split <;> rfl
    rw [hws]; omega
   ·split
    ·rename_i hb
     have hws:(btP b n s).1.ws=s.ws:=by
      unfold btP at hb ⊢
      by_cases g0:(baP n b s.e).2.2.2=0
      ·rw [if_neg (fun h=>h g0)] at hb ⊢
       by_cases g1:hdS (baP n b s.e).1<=s.sq
       ·rw [if_pos g1]
       ·rw [if_neg g1] at hb; cases hb
      ·rw [if_pos g0]
     rw [hws]; omega
    ·rename_i hb
     have hlt:=btP_lt (by simpa using hb)
     have hbk:=baP_in hlt.2.2
     have k3:=hbk.len
     have he:(btP b n s).1={ s with ws:=s.ws ++ (baP n b s.e).1,sq:=(baP n b s.e).2.2.1,e:=(baP n b s.e).2.1,a:=(baP n b s.e).2.1 }:=by
      unfold btP at hb ⊢
      rw [if_neg (fun h=>h hlt.2.2)] at hb ⊢
      by_cases g1:hdS (baP n b s.e).1<=s.sq
      ·rw [if_pos g1] at hb; exact absurd rfl hb
      ·rw [if_neg g1]
     refine scG_len b n f _ (by omega) ?_ hlt.2.1
     rw [he]
     show ((s.ws ++ (baP n b s.e).1).length:Int)<=(baP n b s.e).2.1
     rw [List.length_append]
     omega
  ·omega
theorem scP_len (b:List UInt8) (n:Int):(scP b n).ws.length<=b.length:=by
 unfold scP
 have hws:(bgP b n).ws=[]:=by
  unfold bgP
  split
  ·rfl
  ·split <;> rfl
 split
 ·rw [hws]; exact Nat.zero_le _
 ·rename_i h
  have h:(bgP b n).r=0:=Decidable.byContradiction h
  obtain ⟨g1,g2,g3,g4,g5⟩:=bgP_in h
  exact scG_len b n _ _ g2 (by rw [g1]; exact g2) g3
theorem hwL_le (n:Int):∀ (k:Nat) (r:RdS) (out:List Wo),(hwL n k r out).1.length<=out.length+k
 | 0,r,out=>Nat.le_refl _
 | k+1,r,out=>by
  unfold hwL
  split
  ·show out.length<=_; omega
  ·have:=hwL_le n k (wdH r n).2 (out ++ [(wdH r n).1])
   rw [List.length_append] at this
   have:_<=out.length+1+k:=this
   omega
theorem hrP_len (b:List UInt8) (n size:Int):(hrP b n size).1.length<=1048576:=by
 have hm:=nmP_rg (h3P b).2 (most:=1048576) (by omega)
 have hm:0<=(h4P b).1/\(h4P b).1<=1048576:=hm
 unfold hrP
 split
 ·exact Nat.zero_le _
 ·split
  ·exact Nat.zero_le _
  ·have:=hwL_le n (h4P b).1.toNat (h4P b).2 []
   have:_<=0+(h4P b).1.toNat:=this
   show (hwL n (h4P b).1.toNat (h4P b).2 []).1.length<=_
   omega
theorem rpP_len {d:Dk} (hS:DkS d) (seg:Int):(rpP d seg).1.ws.length<=1099511627776:=by
 have hl:=look_len hS.i (segF seg)
 unfold rpP
 split
 ·exact Nat.zero_le _
 ·split
  ·have:=hrP_len (lookD d (hinF seg)).1 seg ((lookD d (segF seg)).1.length:Int)
   show (hrP (lookD d (hinF seg)).1 seg ((lookD d (segF seg)).1.length:Int)).1.length<=_
   omega
  ·have:=scP_len (lookD d (segF seg)).1 seg
   show (scP (lookD d (segF seg)).1 seg).ws.length<=_
   omega
set_option maxHeartbeats 4000000 in
theorem scans_law (A1:Option Addr) (n1 c1:Nat) (fl:List Fl) (seg:Int) (off:Bool) (w:World) (hfl:ISl w A1 n1 fl) (hs:∀ x ∈ fl,x.1.size<=1099511627775) (hd:∀ x ∈ fl,x.2.length<=1099511627775) (hn:n1<=349524) (hv:Nm8.VK w) :
  Calls Tryz.prog 3 #[.slice A1 n1 c1,.int .i64 seg,.bool off] w fun e w'=>e=.returned (.bool true)/\Fr (fun _=>False) w w':=by
 refine (F3.of A1 n1 c1 seg off w (Q:=fun v w'=>v=.bool true/\Fr (fun _=>False) w w') ?_).mono (fun e w' ⟨v,he,hv,h⟩=>⟨by rw [he,hv],h⟩)
 have hfn:fl.length=n1:=by obtain ⟨_,_,h2,_⟩:=hfl; exact h2
 refine (limits_calls w).mono ?_
 rintro e w1 ⟨rfl,f1⟩
 refine ⟨_,rfl,(Load_calls 16777216 1000 A1 n1 c1 fl w1 (hfl.fr0 f1) (by omega) hs hd).mono ?_⟩
 rintro e w4 ⟨f4,db,r,rfl,h4,hdb,hr⟩
 have g4:=f1.trans1 f4
 refine ⟨_,rfl,(limits_calls w4).mono ?_⟩
 rintro e w7 ⟨rfl,f7⟩
 have g7:=g4.trans1 f7
 refine ⟨_,rfl,(rLoad_calls 16777216 1000 A1 n1 c1 fl w7 (hfl.fr0 g7) (by omega) hs hd).mono ?_⟩
 rintro e w10 ⟨f10,lo,rb,rfl,h10,hrb,hlo⟩
 have g10:=g7.trans1 f10
 have hI:DkI (loadD 16777216 1000 fl):=load_I
 have hB:DkB (loadD 16777216 1000 fl) n1:=by rw [<- hfn]; exact load_B (by omega) (by omega)
 have h4':DkAt w10 db r (loadD 16777216 1000 fl):=h4.fr0 (f7.trans1 f10)
 have s1:=f1.size
 have s4:=g4.size
 have s7:=f7.size
 have l4:=h4.lt
 have k6:∀ (u:World) (d1 d2:Dk),Fr (fun _=>False) w u->DkAt u db r d1->RkD u lo rb d2->DkS d1->DkS d2->rpP d1 seg=rpP d2 seg->jnC (F3.k6 (fun v w'=>v=.bool true/\Fr (fun _=>False) w w')) (seg,some ⟨db,0,none⟩,some ⟨rb,0,none⟩,()) u:=by
  intro u d1 d2 fu hD hR hS1 hS2 he
  refine jnC_mk (fun _=>(rpscan_calls db r d1 seg u hD hS1 (hv.fr fu)).mono ?_)
  rintro e w21 ⟨_,rfl,Aa,ca,rfl,ha⟩
  rw [he] at ha ⊢
  generalize hp:rpP d2 seg=p at ha ⊢
  refine ⟨_,_,_,rfl,var_new (sz:=6) rfl rfl (snC_one _ _ _) (fun b26 w28 f28 hb28 r28=>?_)⟩
  have g28:=ha.f.trans1 f28
  refine (rrscan_calls lo rb d2 seg w28 (RkAt.fr0 hR g28) hS2).mono ?_
  rintro e w29 ⟨_,rfl,Ab,cb,rfl,hb⟩
  rw [hp] at hb ⊢
  refine ⟨_,_,_,rfl,var_new (sz:=6) rfl rfl (snC_one _ _ _) (fun b34 w36 f36 hb36 r36=>?_)⟩
  have g36:=(fu.trans1 g28).trans1 (hb.f.trans1 f36)
  refine (rpscan_nil seg w36 (hv.fr g36)).mono ?_
  rintro e w37 ⟨f37,rfl⟩
  refine ⟨_,_,_,rfl,var_new (sz:=6) rfl rfl (snC_one _ _ _) (fun b42 w44 f44 hb44 r44=>?_)⟩
  have k1:=f36.trans1 (f37.trans1 f44)
  have k0:=(f28.trans1 hb.f).trans1 k1
  have hwl:p.1.ws.length<=1099511627776:=by
   rw [<- hp]
   exact rpP_len hS2 seg
  refine ⟨_,rfl,rec_all ((r28.fr hb.f (fun h=>h)).fr k1 (fun h=>h)),_,rfl,rec_all (r36.fr (f37.trans1 f44) (fun h=>h)),(same16_calls p.1 Aa Ab ca cb w44 (ha.sw.fr k0) (hb.sw.fr k1) hwl).mono ?_⟩
  rintro e w47 ⟨rfl,f47⟩
  have g47:=(g36.trans1 (f37.trans1 f44)).trans1 f47
  refine ⟨_,rfl,vIf_t rfl (vIf_t (by simp) (vIf_t (by simp) (vIf_t rfl ((lives31_calls w47 (hv.fr g47)).mono ?_))))⟩
  rintro e w50 ⟨rfl,f50⟩
  exact ⟨_,rfl,rfl,g47.trans1 f50⟩
 have hRl:=RkAt.lt h10
 have hdr:¬ DS db r rb:=by rintro (h | h) <;> omega
 have up:∀ {u v:World},Fr (fun _=>False) w u->Fr (DS db r) u v->Fr (fun _=>False) w v:=fun fu fv=>fu.trans fv (fun _ _ h=>h) (fun k hk h=>by rcases h with rfl | rfl <;> omega)
 have hS:=dkS_of hI hB (by omega)
 refine ⟨_,rfl,vIf_mk (fun _=>(Fuse_calls db r _ 0 w10 h4').mono ?_) (fun _=>k6 w10 _ _ g10 h4' h10 hS hS rfl)⟩
 rintro e w13 ⟨f13,rfl,h13⟩
 have hfu:fuseD (loadD 16777216 1000 fl) 0={ loadD 16777216 1000 fl with fu:=some 0 }:=rfl
 rw [hfu] at h13
 have hI2:DkI { loadD 16777216 1000 fl with fu:=some 0 }:=⟨hI.out,hI.rng,hI.ino,fun n hn=>by cases hn; omega⟩
 have hB2:DkB { loadD 16777216 1000 fl with fu:=some 0 } n1:=⟨hB.fo,hB.p,hB.last,hB.calls,fun n hn=>by cases hn; omega,hB.lb,hB.lf⟩
 refine ⟨rfl,(SyncDir_calls db r _ w13 n1 h13 hI2 hB2 (by omega)).mono ?_⟩
 rintro e w15 ⟨f15,rfl,h15⟩
 have hoff:powD { loadD 16777216 1000 fl with fu:=some 0 } sdD=({ loadD 16777216 1000 fl with fu:=some 0,down:=true },11):=by
  unfold powD
  rw [if_pos]
  unfold offD
  simp
 rw [hoff] at h15 ⊢
 have g15:=f13.trans1 f15
 have hR15:RkAt w15 lo rb (loadD 16777216 1000 fl) (KD (loadD 16777216 1000 fl)):=RkAt.fr h10 g15 hdr (fun k hk=>h4'.ds k hk) (by rintro k (rfl | rfl) <;> omega)
 obtain ⟨u1,v1,A9,n9,c9,lv9,hP⟩:=hR15
 refine ⟨_,rfl,dr_mk ?_⟩
 have hfuN:(loadD 16777216 1000 fl).fu=none:=(lod_L 16777216 1000 fl).st.2.1
 refine rk_setN (d':={ loadD 16777216 1000 fl with down:=true }) (lv':=lv9) hP rfl (by omega) rfl rfl hP.lv (fun w20 f20 hP20=>?_)
 have hR20:RkD w20 lo rb { loadD 16777216 1000 fl with down:=true }:=⟨u1,v1,A9,n9,c9,lv9,hP20⟩
 have g20:Fr (fun _=>False) w w20:=(up g10 g15).trans f20 (fun _ _ h=>h) (fun k hk h=>by omega)
 have h20:DkAt w20 db r { loadD 16777216 1000 fl with fu:=some 0,down:=true }:=h15.fr f20 (fun h=>hdr (.inl h.symm)) (fun h=>hdr (.inr h.symm)) (fun k hk=>by have hk:k=rb:=hk; subst hk; exact RkAt.alien ⟨u1,v1,A9,n9,c9,lv9,hP⟩)
 refine k6 w20 _ _ g20 h20 hR20 ⟨hS.fo,hS.i,hS.p,⟨hI.out,hI.rng,hI.ino,hI2.fu⟩⟩ ⟨hS.fo,hS.i,hS.p,⟨hI.out,hI.rng,hI.ino,hI.fu⟩⟩ ?_
 rw [rpP_down rfl,rpP_down rfl]
end Go.Proofs.YthcdionpeoobbaaGreatDoor
namespace Go.Proofs.YthcdionpeoobbaaGreatDoor
open Go.GV Go.ChangeShapes Go.WideShapes Go.ChangeAt Go.RowKit
theorem own:ownKnob Tryz.prog.godebug=none:=by kernel_rfl
theorem laid:laidOutB Tryz.prog=true:=by kernel_rfl
theorem small {H:Type} {l:List (DataW H)} (hk:Rows.uptoSmall H l=true):Rows.uptoBulkAll l<=1048576:=of_decide_eq_true hk
theorem one_le {H:Type} (d:DataW H):1<=Rows.uptoBulk d:=by
 cases d with
 | lit l=>cases l <;> simp [Rows.uptoBulk]
 | nil=>simp [Rows.uptoBulk]
 | ptr d=>simp [Rows.uptoBulk]
 | slice elems spare=>simp [Rows.uptoBulk]
 | agg parts=>simp [Rows.uptoBulk]
 | iface t d=>simp [Rows.uptoBulk]
 | map entries=>simp [Rows.uptoBulk]
 | held h=>simp [Rows.uptoBulk]
theorem part_le {H:Type} {d:DataW H} {l:List (DataW H)} (h:d ∈ l):Rows.uptoBulk d<=Rows.uptoBulkAll l:=by
 induction l with
 | nil=>cases h
 | cons x r ih =>
  simp only [Rows.uptoBulkAll]
  cases List.mem_cons.1 h with
  | inl e=>subst e; omega
  | inr e=>have:=ih e; omega
theorem part_at {H:Type} {d:DataW H} {l:List (DataW H)} {i:Nat} (h:l[i]?=some d):Rows.uptoBulk d<=Rows.uptoBulkAll l:=part_le (List.mem_of_getElem? h)
theorem length_le {H:Type} (l:List (DataW H)):l.length<=Rows.uptoBulkAll l:=by
 induction l with
 | nil=>simp [Rows.uptoBulkAll]
 | cons x r ih=>have:=one_le x; simp only [Rows.uptoBulkAll,List.length_cons]; omega
theorem bytesN {H:Type} {d:DataW H} {A:Option Addr} {n:Nat} (h:(d=.nil/\A=none/\n=0)\/∃ es sp,d=.slice es sp/\es.length=n):n<=Rows.uptoBulk d:=by
 rcases h with ⟨_,_,rfl⟩ | ⟨es,sp,rfl,h⟩
 ·omega
 ·have:=length_le es; simp only [Rows.uptoBulk]; omega
theorem strN {H:Type} (s:ByteArray):s.size<=Rows.uptoBulk (DataW.lit (H:=H) (.string s.data.toList)):=by
 simp only [Rows.uptoBulk]
 have e:s.data.toList.length=s.size:=by rw [Array.length_toList]; rfl
 omega
theorem cSt:Tryz.prog.cellsOf 9=1:=by kernel_rfl
theorem cU8:Tryz.prog.cellsOf 5=1:=by kernel_rfl
theorem cBy:Tryz.prog.cellsOf 52=1:=by kernel_rfl
theorem length_le_k {H:Type} {k:Nat}:∀ {l:List (DataW H)},(∀ d ∈ l,k<=Rows.uptoBulk d)->k * l.length<=Rows.uptoBulkAll l
 | [],_=>by simp
 | x :: r,h=>by
  have h1:=h x (List.mem_cons_self ..)
  have ih:=length_le_k (l:=r) (fun d hd=>h d (List.mem_cons_of_mem _ hd))
  simp only [Rows.uptoBulkAll,List.length_cons,Nat.mul_add]
  omega
theorem one2 {α:Type} {l:List α} (h:l.length=2):∃ a b,l=[a,b]:=by
 match l,h with
 | [a,b],_=>exact ⟨a,b,rfl⟩
theorem tr_rowP {H α:Type} {enc:TypeId×Value->H} {w:World} {fuel sz k:Nat} {t e:TypeId} {Pq:List Value->α->Prop} {Bq:α->Prop} {cs:List Value} {x:DataW H×List MemPlace} (ht:Tryz.prog.underlying t=some (.slice e)) (hc:Tryz.prog.cellsOf e=sz) (h0:sz ≠ 0)
  (hel:∀ {fuel:Nat} {cs:List Value} {x:DataW H×List MemPlace},TR enc Tryz.prog w fuel e cs x->Rows.uptoBulk x.1<=1048576->∃ y:α,Pq cs y/\Bq y/\k<=Rows.uptoBulk x.1) (h:TR enc Tryz.prog w fuel t cs x) (hsm:Rows.uptoBulk x.1<=1048576) :
  ∃ (A:Option Addr) (n c:Nat) (vs:List Value) (l:List α),cs=[Value.slice A n c]/\Sl w sz A n vs/\l.length=n/\Ech sz Pq vs l/\(∀ y ∈ l,Bq y)/\n<=c/\k * n+1<=Rows.uptoBulk x.1:=by
 obtain ⟨A,n,c,vss,hcs,h1,h2,h3,h4,h5,h6⟩:=tr_slice (P:=Tryz.prog) (e:=e) ht (by rw [hc]; exact h0) h
 rcases h6 with ⟨h7,rfl,rfl,rfl⟩ | ⟨es,sp,h7,h8,h9,h10⟩
 ·exact ⟨none,0,0,[],[],hcs,Sl.nil _ _ _,rfl,Ech.nil,(fun y hy=>by cases hy),Nat.le_refl _,by have:=one_le x.1; omega⟩
 ·have hsum:Rows.uptoBulkAll es<=1048576:=by rw [h7] at hsm; simp only [Rows.uptoBulk] at hsm; omega
  have each:∀ (i:Nat) (v:List Value),vss[i]?=some v->∃ y:α,Pq v y/\Bq y:=fun i v hi=>by
   obtain ⟨m,y,hy,hes⟩:=h10 i v hi
   have:=part_at hes
   obtain ⟨q,e,e',_⟩:=hel hy (by omega)
   exact ⟨q,e,e'⟩
  obtain ⟨r,hrl,hr⟩:=choose_list (R:=fun (i:Nat) v (y:α)=>Pq v y/\Bq y) vss each
  rw [hc] at h4 h5
  obtain ⟨f1,f2⟩:=flatten_get h4
  have hb:k * es.length<=Rows.uptoBulkAll es:=length_le_k (fun d hd=>by
   obtain ⟨i,hi⟩:=List.mem_iff_getElem?.1 hd
   have hil:=(List.getElem?_eq_some_iff.1 hi).1
   obtain ⟨m,y,hy,hey⟩:=h10 i _ (List.getElem?_eq_getElem (by omega))
   rw [hi] at hey
   injection hey with hey
   have hp:=part_at hi
   rw [hey] at hp ⊢
   exact (hel hy (by omega)).choose_spec.2.2)
  have back:∀ (i:Nat) (y:α),r[i]?=some y->∃ v,vss[i]?=some v/\Pq v y/\Bq y:=fun i y hy=>by
   have hil:=(List.getElem?_eq_some_iff.1 hy).1
   obtain ⟨y',hy',hp⟩:=hr i _ (List.getElem?_eq_getElem (by omega))
   rw [hy] at hy'
   injection hy' with hy'
   subst hy'
   exact ⟨_,List.getElem?_eq_getElem (by omega),hp⟩
  refine ⟨A,n,c,vss.flatten,r,hcs,h5,by omega,fun i y hy=>?_,fun y hy=>?_,h2,?_⟩
  ·obtain ⟨v,hv,hp,_⟩:=back i y hy
   have e2:chk sz vss.flatten i=v:=by
    have hvl:=h4 i v hv
    apply List.ext_getElem?
    intro j
    by_cases hj:j < sz
    ·rw [chk_get hj,f2 i v j hv hj]
    ·have hcl:(chk sz vss.flatten i).length<=sz:=by
      unfold chk
      rw [List.length_take]; omega
     rw [List.getElem?_eq_none (by omega),List.getElem?_eq_none (by omega)]
   rw [e2]; exact hp
  ·obtain ⟨i,hi⟩:=List.mem_iff_getElem?.1 hy
   obtain ⟨v,_,_,hb⟩:=back i y hi
   exact hb
  ·rw [h7]
   simp only [Rows.uptoBulk]
   have:k * n=k * es.length:=by rw [h9]
   omega
theorem cFl:Tryz.prog.cellsOf 54=2:=by kernel_rfl
structure FlB (x:Fl):Prop where
 nm:x.1.size<=1099511627775
 data:x.2.length<=1099511627775
set_option maxRecDepth 100000 in
theorem tr_fl {H:Type} {enc:TypeId×Value->H} {w:World} {fuel:Nat} {cs:List Value} {x:DataW H×List MemPlace} (h:TR enc Tryz.prog w fuel 54 cs x) (hsm:Rows.uptoBulk x.1<=1048576):∃ y:Fl,FlP w cs y/\FlB y/\3<=Rows.uptoBulk x.1:=by
 obtain ⟨hl,ds,hd,hdl,hf⟩:=tr_struct (P:=Tryz.prog) Tryz.underlying54 h
 rw [cFl] at hl
 obtain ⟨a,b,rfl⟩:=one2 hl
 obtain ⟨m0,y0,t0,b0⟩:=hf 0 _ rfl
 obtain ⟨m1,y1,t1,b1⟩:=hf 1 _ rfl
 have t0:TR enc Tryz.prog w m0 9 (([a,b].drop 0).take (Tryz.prog.cellsOf 9)) y0:=t0
 have t1:TR enc Tryz.prog w m1 52 (([a,b].drop 1).take (Tryz.prog.cellsOf 52)) y1:=t1
 rw [cSt] at t0
 rw [cBy] at t1
 have t0:TR enc Tryz.prog w m0 9 [a] y0:=t0
 have t1:TR enc Tryz.prog w m1 52 [b] y1:=t1
 obtain ⟨s0,e0,_,hx0⟩:=tr_string (P:=Tryz.prog) Tryz.underlying9 t0
 obtain ⟨B,nb,cb,l,e1,g1,g2,g3,g4⟩:=tr_bytes (P:=Tryz.prog) (e:=5) Tryz.underlying52 Tryz.underlying5 cU8 t1
 injection e0 with e0 _; injection e1 with e1 _
 subst e0; subst e1
 have hd2:2<=ds.length:=by rw [hdl]; decide
 have hln:=length_le ds
 have q0:=part_at b0
 have q1:=part_at b1
 rw [hx0] at q0
 have n0:=strN (H:=H) s0
 have n1:=bytesN g4
 have hbl:=by_n g1
 dsimp only at q0
 have hbd:Rows.uptoBulk x.1=Rows.uptoBulkAll ds+1:=by rw [hd]; simp only [Rows.uptoBulk]
 exact ⟨(s0,l),⟨B,nb,cb,rfl,g1,g2⟩,⟨by show s0.size<=_; omega,by show l.length<=_; omega⟩,by omega⟩
set_option maxRecDepth 100000 in
theorem open_fls {H:Type} {enc:TypeId×Value->H} {w:World} {v:Value} {d:DataW H} {ps:List MemPlace} (hv:Value.okWide Tryz.prog w .any 0 22 v) (h:DataW.Trod enc Tryz.prog w 0 (fun _=>true) true 22 v d ps) (hb:Rows.uptoBulk d<=1048576) :
  ∃ (A:Option Addr) (n c:Nat) (l:List Fl),v=.slice A n c/\ISl w A n l/\(∀ x ∈ l,FlB x)/\n<=c/\3 * n+1<=Rows.uptoBulk d:=by
 obtain ⟨fuel,ht⟩:=h
 obtain ⟨A,n,c,vs,l,e,h1,h2,h3,h4,h5,h6⟩:=tr_rowP (Bq:=FlB) (Pq:=FlP w) Tryz.underlying22 cFl (by decide) (fun h hs=>tr_fl h hs) ht hb
 exact ⟨A,n,c,l,slice_of_cells Tryz.underlying22 hv e,⟨vs,h1,h2,h3⟩,h4,h5,h6⟩
def laidL:List (String×DataW Unit):=Rows.replayScansUptoRow.laid
theorem laidL_eq : laidL = [("math/bits.deBruijn32tab", Rows.laid_math_bits_deBruijn32tab), ("math/bits.deBruijn64tab", Rows.laid_math_bits_deBruijn64tab), ("internal/strconv.uint64pow10", Rows.laid_internal_strconv_uint64pow10)] := rfl
theorem gTab : Tryz.prog.globalNamed "internal/strconv.uint64pow10" = some 1 := by kernel_rfl
theorem gTabType:(Tryz.prog.globals[1]?).map (·.type)=some 278:=by kernel_rfl
theorem cellsT:Tryz.prog.cellsOf 278=20:=by kernel_rfl
theorem cellsE:Tryz.prog.cellsOf 41=1:=by kernel_rfl
theorem vK {W:World} (h:laidMet Tryz.prog laidL W):Nm8.VK W:=by
 rw [laidL_eq] at h
 exact ⟨Lib.tabIs_of_head (rest:=_) gTab gTabType Tryz.underlying278 Tryz.underlying41 cellsE cellsT h.tail.tail⟩
noncomputable def laidWorld (os:Os):World :=
 let w0:=World.holding Tryz.prog os ⟨#[],#[],[]⟩
 { w0 with heap:=((w0.heap.modify 1 fun
   | .cells _ t frozen=>.cells #[.int .u64 1,.int .u64 10,.int .u64 100,.int .u64 1000,.int .u64 10000,.int .u64 100000,.int .u64 1000000,.int .u64 10000000,.int .u64 100000000,.int .u64 1000000000,.int .u64 10000000000,.int .u64 100000000000,.int .u64 1000000000000,.int .u64 10000000000000,.int .u64 100000000000000,.int .u64 1000000000000000,.int .u64 10000000000000000,.int .u64 100000000000000000,.int .u64 1000000000000000000,.int .u64 10000000000000000000] t frozen
   | o=>o).modify 2 fun
   | .cells _ t frozen=>.cells #[.int .u8 0,.int .u8 1,.int .u8 28,.int .u8 2,.int .u8 29,.int .u8 14,.int .u8 24,.int .u8 3,.int .u8 30,.int .u8 22,.int .u8 20,.int .u8 15,.int .u8 25,.int .u8 17,.int .u8 4,.int .u8 8,.int .u8 31,.int .u8 27,.int .u8 13,.int .u8 23,.int .u8 21,.int .u8 19,.int .u8 16,.int .u8 7,.int .u8 26,.int .u8 12,.int .u8 18,.int .u8 6,.int .u8 11,.int .u8 5,.int .u8 10,.int .u8 9] t frozen
   | o=>o).modify 3 fun
   | .cells _ t frozen=>.cells #[.int .u8 0,.int .u8 1,.int .u8 56,.int .u8 2,.int .u8 57,.int .u8 49,.int .u8 28,.int .u8 3,.int .u8 61,.int .u8 58,.int .u8 42,.int .u8 50,.int .u8 38,.int .u8 29,.int .u8 17,.int .u8 4,.int .u8 62,.int .u8 47,.int .u8 59,.int .u8 36,.int .u8 45,.int .u8 43,.int .u8 51,.int .u8 22,.int .u8 53,.int .u8 39,.int .u8 33,.int .u8 30,.int .u8 24,.int .u8 18,.int .u8 12,.int .u8 5,.int .u8 63,.int .u8 55,.int .u8 48,.int .u8 27,.int .u8 60,.int .u8 41,.int .u8 37,.int .u8 16,.int .u8 46,.int .u8 35,.int .u8 44,.int .u8 21,.int .u8 52,.int .u8 32,.int .u8 23,.int .u8 11,.int .u8 54,.int .u8 26,.int .u8 40,.int .u8 15,.int .u8 34,.int .u8 20,.int .u8 31,.int .u8 10,.int .u8 25,.int .u8 14,.int .u8 19,.int .u8 9,.int .u8 13,.int .u8 8,.int .u8 7,.int .u8 6] t frozen
   | o=>o }
end Go.Proofs.YthcdionpeoobbaaGreatDoor
