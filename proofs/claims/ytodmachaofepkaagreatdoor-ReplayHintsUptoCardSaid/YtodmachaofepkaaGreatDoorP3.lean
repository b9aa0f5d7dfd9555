import Derived.Test.YtodmachaofepkaaGreatDoorP2
set_option linter.unusedVariables false
set_option linter.unusedSimpArgs false
namespace Go.Proofs.YtodmachaofepkaaGreatDoor.StbNm
open Go.GV Go.RowKit Go.Stb
section
variable {β:Type} {enc:β->List Value} {cmp:β->β->Int}
theorem take_len {l:List (β×Nat)} {k:Nat} (h:k<=l.length):(l.take k).length=k:=by rw [List.length_take]; omega
theorem get_in {P X R:List (β×Nat)} {i j:Nat} {x:β×Nat} (hi:i=P.length+j) (hx:X[j]?=some x):(P ++ X ++ R)[i]?=some x:=by
 have hj:=(List.getElem?_eq_some_iff.1 hx).1
 subst hi
 rw [List.append_assoc,List.getElem?_append_right (by omega),List.getElem?_append_left (by omega),Nat.add_sub_cancel_left]; exact hx
set_option maxHeartbeats 1000000 in
theorem symMerge_calls (h0:Srt β enc cmp) (B:Nat) (A:Option Addr) (n c:Nat) (hn:n < 549755813888):∀ (K:Nat) (P X Y S:List (β×Nat)) (w:World),X.length+Y.length<=K->RS enc w B A n c (P ++ X ++ Y ++ S)->Sorted cmp X->Sorted cmp Y->befC X Y->X ≠ []->Y ≠ []->∀ (a m b:Int),a=((P.length:Nat):Int)->m=((P.length+X.length:Nat):Int)->b=((P.length+X.length+Y.length:Nat):Int) ->
  Calls Tryz.prog 147 #[.slice A n c,.int .i64 a,.int .i64 m,.int .i64 b,cf] w fun e w'=>e=.returned (.tuple #[])/\Mrg enc cmp w w' B A n c P X Y S
 | 0,P,X,Y,S,w,hK,_,_,_,_,hX,_,_,_,_,_,_,_=>absurd (List.length_eq_zero_iff.1 (by omega)) hX
 | K+1,P,X,Y,S,w,hK,h,sX,sY,hb,hX,hY,a,m,b,ha,hm,hbb=>by
  subst ha; subst hm; subst hbb
  have ih:=symMerge_calls h0 B A n c hn K
  refine (F147s.of A n c _ _ _ w (Q:=fun v w'=>v=.tuple #[]/\Mrg enc cmp w w' B A n c P X Y S) ?_).mono (fun e w' ⟨v,he,hv,h⟩=>⟨by rw [he,hv],h⟩)
  have hlen:=h.2
  simp only [List.length_append] at hlen
  have hX0:X.length ≠ 0:=fun h=>hX (List.length_eq_zero_iff.1 h)
  have hY0:Y.length ≠ 0:=fun h=>hY (List.length_eq_zero_iff.1 h)
  have eX:IntKind.wrap .i64 (((P.length+X.length:Nat):Int) - ((P.length:Nat):Int))=((X.length:Nat):Int):=by rw [es _ _ (by omega) (by omega),Nat.add_sub_cancel_left]
  have eY:IntKind.wrap .i64 (((P.length+X.length+Y.length:Nat):Int) - ((P.length+X.length:Nat):Int))=((Y.length:Nat):Int):=by rw [es _ _ (by omega) (by omega),Nat.add_sub_cancel_left]
  have eM:=em P.length (P.length+X.length+Y.length) (by omega) (by omega)
  unfold F147s.vc
  rw [eX,eY,eM]
  generalize hmid:(P.length+(P.length+X.length+Y.length)) / 2=mid at eM ⊢
  have eN:IntKind.wrap .i64 ((mid:Int)+((P.length+X.length:Nat):Int))=((mid+(P.length+X.length):Nat):Int):=ea _ _ (by omega) (by omega)
  rw [eN]
  generalize hN:mid+(P.length+X.length)=N at eN ⊢
  refine vIf_mk (fun h1=>?_) (fun h1=>vIf_mk (fun h2=>?_) (fun h2=>?_))
  ·have h1:X.length=1:=by
    have:((X.length:Nat):Int)=1:=by simpa using h1
    omega
   obtain ⟨x,rfl⟩:=List.length_eq_one_iff.1 h1
   refine jnC_mk ?_
   have:=merge_one h0 B A n c P Y S x w (by simpa using h) sY (fun y hy=>hb x (by simp) y hy) hn
   simpa using this
  ·have h2:Y.length=1:=by
    have:((Y.length:Nat):Int)=1:=by simpa using h2
    omega
   obtain ⟨y,rfl⟩:=List.length_eq_one_iff.1 h2
   refine jnC_mk ?_
   exact merge_last h0 B A n c P X S y w (by simpa using h) sX (fun x hx=>hb x hx y (by simp)) hn
  ·have h1:X.length ≠ 1:=fun h=>by rw [h] at h1; simp at h1
   have h2:Y.length ≠ 1:=fun h=>by rw [h] at h2; simp at h2
   have fin:∀ s0 r0:Nat,P.length<=s0->s0<=r0->r0<=P.length+X.length->r0<=mid->N<=s0+(P.length+X.length+Y.length)->(s0=P.length\/N=s0+(P.length+X.length+Y.length))->(r0=P.length+X.length\/r0=mid) ->
     jnC (F147s.k32 (fun v w'=>v=.tuple #[]/\Mrg enc cmp w w' B A n c P X Y S)) ((A,n,c),((P.length:Nat):Int),((P.length+X.length:Nat):Int),((P.length+X.length+Y.length:Nat):Int),(),(mid:Int),(N:Int),(s0:Int),(r0:Int),()) w:=by
    intro s0 r0 q1 q2 q3 q4 q5 q6 q7
    refine jnC_mk (fun _=>jnC_mk ?_)
    have eP:IntKind.wrap .i64 ((N:Int) - 1)=((N - 1:Nat):Int):=e1 _ (by omega) (by omega)
    dsimp only
    rw [eP]
    refine loop_rule (fun s u=>Fr (fun _=>False) w u/\∃ st r:Nat,s0<=st/\st<=r/\r<=r0/\(∀ c,s0<=c->c < st->∀ u v,X[c - P.length]?=some u->Y[N - 1 - c - (P.length+X.length)]?=some v->lt cmp u v)/\(∀ c,r<=c->c < r0->∀ u v,X[c - P.length]?=some u->Y[N - 1 - c - (P.length+X.length)]?=some v->lt cmp v u) /\
      s=((A,n,c),((P.length:Nat):Int),((P.length+X.length:Nat):Int),((P.length+X.length+Y.length:Nat):Int),(),(mid:Int),(N:Int),(st:Int),(r:Int),((N - 1:Nat):Int),()))
     (fun s _=>(s.2.2.2.2.2.2.2.2.1 - s.2.2.2.2.2.2.2.1).toNat) ?_ _ _ ⟨Fr.refl _ _,s0,r0,by omega,q2,by omega,fun c h1 h2=>by omega,fun c h1 h2=>by omega,rfl⟩
    rintro s u C ⟨hf,st,r,p1,p2,p3,hlo,hhi,rfl⟩ hC _
    have hru:=h.fr0 hf
    refine vIf_mk (fun hlt=>?_) (fun hge=>?_)
    ·have hlt2:(st:Int) < (r:Int):=of_decide_eq_true hlt
     have emm:=em st r (by omega) (by omega)
     generalize hcc:(st+r) / 2=cc at emm
     have epc:IntKind.wrap .i64 (((N - 1:Nat):Int) - (cc:Int))=((N - 1 - cc:Nat):Int):=es _ _ (by omega) (by omega)
     have gu:X[cc - P.length]?=some (X[cc - P.length]'(by omega)):=List.getElem?_eq_getElem (by omega)
     have gv:Y[N - 1 - cc - (P.length+X.length)]?=some (Y[N - 1 - cc - (P.length+X.length)]'(by omega)):=List.getElem?_eq_getElem (by omega)
     generalize X[cc - P.length]'(by omega)=x at gu
     generalize Y[N - 1 - cc - (P.length+X.length)]'(by omega)=y at gv
     have hbxy:=hb x (List.mem_of_getElem? gu) y (List.mem_of_getElem? gv)
     dsimp only
     rw [emm,epc]
     refine rs_rd h0 hru.drew (i:=N - 1 - cc) (x:=y) (get_in (P:=P ++ X) (X:=Y) (R:=S) (j:=N - 1 - cc - (P.length+X.length)) (by simp; omega) gv) rfl (rs_rd h0 hru.drew (i:=cc) (x:=x) (by
      have:P ++ X ++ Y ++ S=P ++ X ++ (Y ++ S):=by simp
      rw [this]; exact get_in (j:=cc - P.length) (by omega) gu) rfl ((h0.call y.1 x.1 u.drew).mono ?_))
     rintro q u2 ⟨rfl,f2⟩
     have hf2:Fr (fun _=>False) w u2:=(hf.trans1 (Fr.drew _ _)).trans1 f2
     refine ⟨_,rfl,vIf_mk (fun hc=>jnC_mk (hC _ _ ⟨hf2,cc+1,r,by omega,by omega,p3,fun d d1 d2 u v hu hv=>?_,hhi,by rw [ep _ (by omega)]⟩ ?_)) (fun hc=>jnC_mk (hC _ _ ⟨hf2,st,cc,p1,by omega,by omega,hlo,fun d d1 d2 u v hu hv=>?_,rfl⟩ ?_))⟩
     ·have hc:¬ cmp y.1 x.1 < 0:=by simpa using hc
      exact le_lt_le h0.ord sX sY hu gu (by omega) hv gv (by omega) (bef_no h0.ord hbxy hc)
     ·show ((r:Int) - IntKind.wrap .i64 ((cc:Int)+1)).toNat < ((r:Int) - (st:Int)).toNat
      rw [ep _ (by omega)]; omega
     ·have hc:cmp y.1 x.1 < 0:=by simpa using hc
      exact le_lt_le h0.ord sY sX hv gv (by omega) hu gu (by omega) (bef_yes h0.ord hbxy hc)
     ·show ((cc:Int) - (st:Int)).toNat < ((r:Int) - (st:Int)).toNat
      omega
    ·have hge2:¬ (st:Int) < (r:Int):=of_decide_eq_false hge
     have hst:r=st:=by omega
     subst hst
     clear hC
     have eE:IntKind.wrap .i64 ((N:Int) - (r:Int))=((N - r:Nat):Int):=es _ _ (by omega) (by omega)
     dsimp only
     rw [eE]
     have hXs:=List.take_append_drop (r - P.length) X
     have hYs:=List.take_append_drop (N - r - (P.length+X.length)) Y
     have lX1:(X.take (r - P.length)).length=r - P.length:=take_len (by omega)
     have lX2:(X.drop (r - P.length)).length=P.length+X.length - r:=by rw [List.length_drop]; omega
     have lY1:(Y.take (N - r - (P.length+X.length))).length=N - r - (P.length+X.length):=take_len (by omega)
     have lY2:(Y.drop (N - r - (P.length+X.length))).length=P.length+X.length+Y.length - (N - r):=by rw [List.length_drop]; omega
     have D1:∀ x ∈ X.take (r - P.length),∀ y ∈ Y.drop (N - r - (P.length+X.length)),lt cmp x y:=fun x hx y hy=>by
      obtain ⟨k,hk,hx⟩:=mem_take_at hx
      obtain ⟨l,hl,hy⟩:=mem_drop_at hy
      have hl2:=(List.getElem?_eq_some_iff.1 hy).1
      have hr0:s0 < r:=by
       rcases q6 with q6 | q6 <;> omega
      have gu:X[r - 1 - P.length]?=some (X[r - 1 - P.length]'(by omega)):=List.getElem?_eq_getElem (by omega)
      have gv:Y[N - 1 - (r - 1) - (P.length+X.length)]?=some (Y[N - 1 - (r - 1) - (P.length+X.length)]'(by omega)):=List.getElem?_eq_getElem (by omega)
      exact le_lt_le h0.ord sX sY hx gu (by omega) hy gv (by omega) (hlo (r - 1) (by omega) (by omega) _ _ gu gv)
     have D2:∀ y ∈ Y.take (N - r - (P.length+X.length)),∀ x ∈ X.drop (r - P.length),lt cmp y x:=fun y hy x hx=>by
      obtain ⟨k,hk,hx⟩:=mem_drop_at hx
      obtain ⟨l,hl,hy⟩:=mem_take_at hy
      have hk2:=(List.getElem?_eq_some_iff.1 hx).1
      have hr0:r < r0:=by
       rcases q7 with q7 | q7 <;> omega
      have gu:X[r - P.length]?=some (X[r - P.length]'(by omega)):=List.getElem?_eq_getElem (by omega)
      have gv:Y[N - 1 - r - (P.length+X.length)]?=some (Y[N - 1 - r - (P.length+X.length)]'(by omega)):=List.getElem?_eq_getElem (by omega)
      exact le_lt_le h0.ord sY sX hy gv (by omega) hx gu (by omega) (hhi r (by omega) (by omega) _ _ gu gv)
     have sX2:=sX
     have sY2:=sY
     rw [<- hXs] at sX2
     rw [<- hYs] at sY2
     obtain ⟨sA1,sA2,sA⟩:=sorted_of_app sX2
     obtain ⟨sB1,sB2,sB⟩:=sorted_of_app sY2
     have hb11:befC (X.take (r - P.length)) (Y.take (N - r - (P.length+X.length))):=fun x hx y hy=>hb x (List.mem_of_mem_take hx) y (List.mem_of_mem_take hy)
     have hb22:befC (X.drop (r - P.length)) (Y.drop (N - r - (P.length+X.length))):=fun x hx y hy=>hb x (List.mem_of_mem_drop hx) y (List.mem_of_mem_drop hy)
     have hru2:RS enc u B A n c (P ++ X.take (r - P.length) ++ X.drop (r - P.length) ++ Y.take (N - r - (P.length+X.length)) ++ (Y.drop (N - r - (P.length+X.length)) ++ S)):=by
      have:P ++ X.take (r - P.length) ++ X.drop (r - P.length) ++ Y.take (N - r - (P.length+X.length)) ++ (Y.drop (N - r - (P.length+X.length)) ++ S)=P ++ X ++ Y ++ S:=by
       simp only [List.append_assoc]
       rw [<- List.append_assoc (X.take (r - P.length)),hXs,<- List.append_assoc (Y.take (N - r - (P.length+X.length))),hYs]
      rw [this]; exact hru
     have hperm:(X.take (r - P.length) ++ Y.take (N - r - (P.length+X.length)) ++ (X.drop (r - P.length) ++ Y.drop (N - r - (P.length+X.length)))).Perm (X ++ Y):=by
      conv=>rhs; rw [<- hXs,<- hYs]
      simp only [List.append_assoc]
      exact (List.perm_append_comm_assoc _ _ _).append_left _
     generalize X.take (r - P.length)=A1 at lX1 D1 sA1 sA hb11 hru2 hperm hXs
     generalize X.drop (r - P.length)=A2 at lX2 D2 sA2 sA hb22 hru2 hperm hXs
     generalize Y.take (N - r - (P.length+X.length))=B1 at lY1 D2 sB1 sB hb11 hru2 hperm hYs
     generalize Y.drop (N - r - (P.length+X.length))=B2 at lY2 D1 sB2 sB hb22 hru2 hperm hYs
     have last:∀ (v:World) (M1 M2:List (β×Nat)),Fr (fun k=>blkOf A=some k) w v->M1.Perm (A1 ++ B1)->Sorted cmp M1->M2.Perm (A2 ++ B2)->Sorted cmp M2->RS enc v B A n c (P ++ M1 ++ M2 ++ S)->Value.tuple #[]=Value.tuple #[]/\Mrg enc cmp w v B A n c P X Y S:=by
      intro v M1 M2 fv m1 s1 m2 s2 hv
      refine ⟨rfl,fv,M1 ++ M2,(m1.append m2).trans hperm,sorted_app s1 s2 (fun x hx y hy=>?_),by simpa using hv⟩
      rcases List.mem_append.1 (m1.mem_iff.1 hx) with hx | hx <;> rcases List.mem_append.1 (m2.mem_iff.1 hy) with hy | hy
      ·exact sA x hx y hy
      ·exact D1 x hx y hy
      ·exact D2 x hx y hy
      ·exact sB x hx y hy
     have right:∀ (v:World) (M1:List (β×Nat)),Fr (fun k=>blkOf A=some k) w v->M1.Perm (A1 ++ B1)->Sorted cmp M1->RS enc v B A n c (P ++ M1 ++ (A2 ++ B2) ++ S) ->
       jnC (F147s.k43 (fun v w'=>v=.tuple #[]/\Mrg enc cmp w w' B A n c P X Y S)) ((A,n,c),((P.length+X.length+Y.length:Nat):Int),(),(mid:Int),((N - r:Nat):Int),()) v:=by
      intro v M1 fv m1 s1 hv
      have lM1:M1.length=mid - P.length:=by rw [m1.length_eq,List.length_append]; omega
      have k44:∀ bb:Bool,bb=decide (mid < N - r/\N - r < P.length+X.length+Y.length)->jnC (F147s.k44 (fun v w'=>v=.tuple #[]/\Mrg enc cmp w w' B A n c P X Y S)) ((A,n,c),((P.length+X.length+Y.length:Nat):Int),(),(mid:Int),((N - r:Nat):Int),bb,()) v:=by
       intro bb hbb
       refine jnC_mk (fun _=>vIf_mk (fun h1=>?_) (fun h1=>?_))
       ·have h1:bb=true:=h1
        rw [h1] at hbb
        have hh:=of_decide_eq_true hbb.symm
        refine (ih (P ++ M1) A2 B2 S v (by omega) (by simpa using hv) sA2 sB2 hb22 (fun h=>by rw [h] at lX2; simp at lX2; omega) (fun h=>by rw [h] at lY2; simp at lY2; omega) (mid:Int) ((N - r:Nat):Int) ((P.length+X.length+Y.length:Nat):Int) (by rw [List.length_append]; omega) (by rw [List.length_append]; omega) (by rw [List.length_append]; omega)).mono ?_
        rintro q v2 ⟨rfl,f2,M2,m2,s2,hv2⟩
        exact ⟨rfl,last v2 M1 M2 (fv.trans1 f2) m1 s1 m2 s2 (by simpa using hv2)⟩
       ·have h1:bb=false:=h1
        rw [h1] at hbb
        have hh:=of_decide_eq_false hbb.symm
        refine last v M1 (A2 ++ B2) fv m1 s1 (List.Perm.refl _) ?_ (by simpa using hv)
        rcases Nat.lt_or_ge mid (N - r) with hh2 | hh2
        ·have:B2=[]:=List.length_eq_zero_iff.1 (by omega)
         rw [this,List.append_nil]; exact sA2
        ·have:A2=[]:=List.length_eq_zero_iff.1 (by omega)
         rw [this,List.nil_append]; exact sB2
      refine jnC_mk (fun _=>vIf_mk (fun h1=>k44 _ ?_) (fun h1=>k44 _ ?_))
      ·have h1:(mid:Int) < ((N - r:Nat):Int):=of_decide_eq_true h1
       apply decide_eq_decide.2
       show ((N - r:Nat):Int) < ((P.length+X.length+Y.length:Nat):Int) ↔ _
       omega
      ·have h1:¬ (mid:Int) < ((N - r:Nat):Int):=of_decide_eq_false h1
       rw [decide_eq_false (fun h=>h1 (by omega))]
     have left:∀ (v:World),Fr (fun k=>blkOf A=some k) w v->RS enc v B A n c (P ++ (A1 ++ B1) ++ (A2 ++ B2) ++ S) ->
       jnC (F147s.k41 (fun v w'=>v=.tuple #[]/\Mrg enc cmp w w' B A n c P X Y S)) ((A,n,c),((P.length:Nat):Int),((P.length+X.length+Y.length:Nat):Int),(),(mid:Int),(r:Int),((N - r:Nat):Int),()) v:=by
      intro v fv hv
      have k42:∀ bb:Bool,bb=decide (P.length < r/\r < mid)->jnC (F147s.k42 (fun v w'=>v=.tuple #[]/\Mrg enc cmp w w' B A n c P X Y S)) ((A,n,c),((P.length:Nat):Int),((P.length+X.length+Y.length:Nat):Int),(),(mid:Int),(r:Int),((N - r:Nat):Int),bb,()) v:=by
       intro bb hbb
       refine jnC_mk (fun _=>vIf_mk (fun h1=>?_) (fun h1=>?_))
       ·have h1:bb=true:=h1
        rw [h1] at hbb
        have hh:=of_decide_eq_true hbb.symm
        refine (ih P A1 B1 (A2 ++ B2 ++ S) v (by omega) (by simpa using hv) sA1 sB1 hb11 (fun h=>by rw [h] at lX1; simp at lX1; omega) (fun h=>by rw [h] at lY1; simp at lY1; omega) ((P.length:Nat):Int) (r:Int) (mid:Int) rfl (by omega) (by omega)).mono ?_
        rintro q v2 ⟨rfl,f2,M1,m1,s1,hv2⟩
        exact ⟨rfl,right v2 M1 (fv.trans1 f2) m1 s1 (by simpa using hv2)⟩
       ·have h1:bb=false:=h1
        rw [h1] at hbb
        have hh:=of_decide_eq_false hbb.symm
        refine right v (A1 ++ B1) fv (List.Perm.refl _) ?_ hv
        rcases Nat.lt_or_ge P.length r with hh2 | hh2
        ·have:B1=[]:=List.length_eq_zero_iff.1 (by omega)
         rw [this,List.append_nil]; exact sA1
        ·have:A1=[]:=List.length_eq_zero_iff.1 (by omega)
         rw [this,List.nil_append]; exact sB1
      refine jnC_mk (fun _=>vIf_mk (fun h1=>k42 _ ?_) (fun h1=>k42 _ ?_))
      ·have h1:((P.length:Nat):Int) < (r:Int):=of_decide_eq_true h1
       apply decide_eq_decide.2
       show (r:Int) < (mid:Int) ↔ _
       omega
      ·have h1:¬ ((P.length:Nat):Int) < (r:Int):=of_decide_eq_false h1
       rw [decide_eq_false (fun h=>h1 (by omega))]
     have k40:∀ bb:Bool,bb=decide (r < P.length+X.length/\P.length+X.length < N - r)->jnC (F147s.k40 (fun v w'=>v=.tuple #[]/\Mrg enc cmp w w' B A n c P X Y S)) ((A,n,c),((P.length:Nat):Int),((P.length+X.length:Nat):Int),((P.length+X.length+Y.length:Nat):Int),(),(mid:Int),(r:Int),((N - r:Nat):Int),bb,()) u:=by
      intro bb hbb
      have fu:Fr (fun k=>blkOf A=some k) w u:=hf.mono (fun _ _ h=>h.elim)
      refine jnC_mk (fun _=>vIf_mk (fun h1=>?_) (fun h1=>?_))
      ·have h1:bb=true:=h1
       rw [h1] at hbb
       have hh:=of_decide_eq_true hbb.symm
       refine (rotate_calls (a:=(r:Int)) (m:=((P.length+X.length:Nat):Int)) (b:=((N - r:Nat):Int)) h0 B A n c (P ++ A1) A2 B1 (B2 ++ S) u hru2 (fun h=>by rw [h] at lX2; simp at lX2; omega) (fun h=>by rw [h] at lY1; simp at lY1; omega) hn (by rw [List.length_append]; omega) (by rw [List.length_append]; omega) (by rw [List.length_append]; omega)).mono ?_
       rintro q v ⟨rfl,f2,hv⟩
       exact ⟨rfl,left v (fu.trans1 f2) (by simpa using hv)⟩
      ·have h1:bb=false:=h1
       rw [h1] at hbb
       have hh:=of_decide_eq_false hbb.symm
       refine left u fu ?_
       rcases Nat.lt_or_ge r (P.length+X.length) with hh2 | hh2
       ·have:B1=[]:=List.length_eq_zero_iff.1 (by omega)
        rw [this] at hru2 ⊢
        simpa using hru2
       ·have:A2=[]:=List.length_eq_zero_iff.1 (by omega)
        rw [this] at hru2 ⊢
        simpa using hru2
     refine vIf_mk (fun h1=>k40 _ ?_) (fun h1=>k40 _ ?_)
     ·have h1:(r:Int) < ((P.length+X.length:Nat):Int):=of_decide_eq_true h1
      apply decide_eq_decide.2
      omega
     ·have h1:¬ (r:Int) < ((P.length+X.length:Nat):Int):=of_decide_eq_false h1
      rw [decide_eq_false (fun h=>h1 (by omega))]
   refine vIf_mk (fun h3=>?_) (fun h3=>?_)
   ·have h3:((P.length+X.length:Nat):Int) > (mid:Int):=of_decide_eq_true h3
    have eS:IntKind.wrap .i64 ((N:Int) - ((P.length+X.length+Y.length:Nat):Int))=((N - (P.length+X.length+Y.length):Nat):Int):=es _ _ (by omega) (by omega)
    rw [eS]
    exact fin _ _ (by omega) (by omega) (by omega) (by omega) (by omega) (.inr (by omega)) (.inr rfl)
   ·have h3:¬ ((P.length+X.length:Nat):Int) > (mid:Int):=of_decide_eq_false h3
    exact fin _ _ (by omega) (by omega) (by omega) (by omega) (by omega) (.inl rfl) (.inl rfl)
end
section
variable {β:Type} {enc:β->List Value} {cmp:β->β->Int}
def Srted (enc:β->List Value) (cmp:β->β->Int) (w w':World) (B:Nat) (A:Option Addr) (n c:Nat) (P X S:List (β×Nat)):Prop :=
 Fr (fun k=>blkOf A=some k) w w'/\∃ M,M.Perm X/\Sorted cmp M/\RS enc w' B A n c (P ++ M ++ S)
set_option maxHeartbeats 1000000 in
theorem insSort_calls (h0:Srt β enc cmp) (B:Nat) (A:Option Addr) (n c:Nat) (P X S:List (β×Nat)) (w:World) (h:RS enc w B A n c (P ++ X ++ S)) (hb:X.Pairwise bef) (hn:n < 549755813888) {a b:Int} (ha:a=((P.length:Nat):Int)) (hbb:b=((P.length+X.length:Nat):Int)) :
  Calls Tryz.prog 146 #[.slice A n c,.int .i64 a,.int .i64 b,cf] w fun e w'=>e=.returned (.tuple #[])/\Srted enc cmp w w' B A n c P X S:=by
 subst ha; subst hbb
 refine (F146s.of A n c _ _ w (Q:=fun v w'=>v=.tuple #[]/\Srted enc cmp w w' B A n c P X S) ?_).mono (fun e w' ⟨v,he,hv,h⟩=>⟨by rw [he,hv],h⟩)
 have hlen:=h.2
 simp only [List.length_append] at hlen
 by_cases hX0:X=[]
 ·subst hX0
  refine jnC_mk (loop_rule (fun s u=>u=w/\s=((A,n,c),((P.length:Nat):Int),((P.length+([]:List (β×Nat)).length:Nat):Int),(),((P.length+1:Nat):Int),())) (fun _ _=>0) ?_ _ _ ⟨rfl,by rw [ep _ (by omega)]⟩)
  rintro s u C ⟨rfl,rfl⟩ hC _
  refine vIf_f (decide_eq_false ?_) ⟨rfl,Fr.refl _ _,[],List.Perm.refl _,List.Pairwise.nil,h⟩
  show ¬ ((P.length+1:Nat):Int) < ((P.length+([]:List (β×Nat)).length:Nat):Int)
  simp only [List.length_nil]
  omega
 obtain ⟨x0,X0,rfl⟩:∃ x r,X=x :: r:=by
  cases X with
  | nil=>exact absurd rfl hX0
  | cons x r=>exact ⟨x,r,rfl⟩
 refine jnC_mk (loop_rule (fun s u=>Fr (fun k=>blkOf A=some k) w u/\∃ X1 M X2:List (β×Nat),X1 ++ X2=x0 :: X0/\M.Perm X1/\Sorted cmp M/\M ≠ []/\s=((A,n,c),((P.length:Nat):Int),((P.length+(x0 :: X0).length:Nat):Int),(),((P.length+M.length:Nat):Int),())/\RS enc u B A n c (P ++ M ++ X2 ++ S))
  (fun s _=>(P.length+(x0 :: X0).length - s.2.2.2.2.1).toNat) ?_ _ _ ⟨Fr.refl _ _,[x0],[x0],X0,rfl,List.Perm.refl _,List.pairwise_singleton _ _,by simp,by rw [ep _ (by omega)]; rfl,by simpa using h⟩)
 rintro s u C1 ⟨hf,X1,M,X2,hX,hM,sM,hM0,rfl,hr⟩ hC1 _
 have hXl:X1.length+X2.length=(x0 :: X0).length:=by rw [<- hX,List.length_append]
 have hMl:=hM.length_eq
 refine vIf_mk (fun hlt=>?_) (fun hge=>?_)
 ·have hlt2:((P.length+M.length:Nat):Int) < ((P.length+(x0 :: X0).length:Nat):Int):=of_decide_eq_true hlt
  obtain ⟨x,X2',rfl⟩:∃ x r,X2=x :: r:=by
   cases X2 with
   | nil=>simp at hXl hlt2; omega
   | cons x r=>exact ⟨x,r,rfl⟩
  simp only [List.length_cons] at hXl hlt2 hlen
  have hbx:∀ y ∈ M,bef y x:=fun y hy=>by
   rw [<- hX] at hb
   exact (List.pairwise_append.1 hb).2.2 y (hM.mem_iff.1 hy) x (List.mem_cons_self ..)
  have hM1:M.length ≠ 0:=fun h=>hM0 (List.length_eq_zero_iff.1 h)
  refine jnC_mk (loop_rule (fun s v=>Fr (fun k=>blkOf A=some k) w v/\∃ U V:List (β×Nat),U ++ V=M/\(∀ y ∈ V,lt cmp x y)/\s=((A,n,c),((P.length:Nat):Int),((P.length+(x0 :: X0).length:Nat):Int),(),((P.length+M.length:Nat):Int),((P.length+U.length:Nat):Int),())/\RS enc v B A n c (P ++ U ++ x :: V ++ X2' ++ S))
   (fun s _=>s.2.2.2.2.2.1.toNat) ?_ _ _ ⟨hf,M,[],by simp,by simp,rfl,by simpa using hr⟩)
  rintro s v C ⟨hfv,U,V,hUV,hVx,rfl,hrv⟩ hC _
  have hUVl:U.length+V.length=M.length:=by rw [<- hUV,List.length_append]
  have sUV:=sM
  rw [<- hUV] at sUV
  obtain ⟨sU,sV,sUV2⟩:=sorted_of_app sUV
  have next:∀ u2:World,Fr (fun k=>blkOf A=some k) w u2->RS enc u2 B A n c (P ++ U ++ x :: V ++ X2' ++ S)->(∀ y ∈ U,lt cmp y x)->C1 ((A,n,c),((P.length:Nat):Int),((P.length+(x0 :: X0).length:Nat):Int),(),IntKind.wrap .i64 (((P.length+M.length:Nat):Int)+1),()) u2:=by
   intro u2 f2 h2 hUx
   refine hC1 _ _ ⟨f2,X1 ++ [x],U ++ x :: V,X2',by rw [<- hX]; simp,?_,?_,by simp,?_,by simpa using h2⟩ ?_
   ·refine List.perm_middle.trans ?_
    rw [hUV]
    exact (hM.cons x).trans (List.perm_append_singleton _ _).symm
   ·refine sorted_app sU (List.pairwise_cons.2 ⟨hVx,sV⟩) (fun y hy z hz=>?_)
    rcases List.mem_cons.1 hz with rfl | hz
    ·exact hUx y hy
    ·exact sUV2 y hy z hz
   ·have:(U ++ x :: V).length=M.length+1:=by simp; omega
    rw [ep _ (by omega),this]; rfl
   ·show (((P.length:Nat):Int)+(((x0 :: X0).length:Nat):Int) - IntKind.wrap .i64 (((P.length+M.length:Nat):Int)+1)).toNat < (((P.length:Nat):Int)+(((x0 :: X0).length:Nat):Int) - ((P.length+M.length:Nat):Int)).toNat
    rw [ep _ (by omega),List.length_cons]; omega
  have hvd:=hrv.drew
  have fvd:Fr (fun k=>blkOf A=some k) w v.drew:=hfv.trans1 (Fr.drew _ _)
  refine vIf_mk (fun hj=>?_) (fun hj=>?_)
  ·have hj2:((P.length+U.length:Nat):Int) > ((P.length:Nat):Int):=of_decide_eq_true hj
   obtain ⟨U',z,rfl⟩:∃ U' z,U=U' ++ [z]:=by
    have hne:U ≠ []:=by intro h; subst h; simp at hj2
    exact ⟨U.dropLast,U.getLast hne,(List.dropLast_concat_getLast hne).symm⟩
   simp only [List.length_append,List.length_cons,List.length_nil] at hUVl hj2
   have l1:P ++ (U' ++ [z]) ++ x :: V ++ X2' ++ S=(P ++ U') ++ z :: (x :: V ++ X2' ++ S):=by simp
   have l2:P ++ (U' ++ [z]) ++ x :: V ++ X2' ++ S=(P ++ (U' ++ [z])) ++ x :: (V ++ X2' ++ S):=by simp
   have ek:IntKind.wrap .i64 (((P.length+(U' ++ [z]).length:Nat):Int) - 1)=((P.length+U'.length:Nat):Int):=by rw [e1 _ (by simp; omega) (by simp; omega)]; simp only [List.length_append,List.length_cons,List.length_nil]; omega
   have gx:=fun (t:World) (ht:RS enc t B A n c (P ++ (U' ++ [z]) ++ x :: V ++ X2' ++ S)) {K:List Value->Prop} (hK:K (enc x.1))=>rs_rd h0 ht (i:=P.length+(U' ++ [z]).length) (x:=x) (by rw [l2]; exact get_mid (by simp)) rfl hK
   have gz:=fun (t:World) (ht:RS enc t B A n c (P ++ (U' ++ [z]) ++ x :: V ++ X2' ++ S)) {K:List Value->Prop} (hK:K (enc z.1))=>rs_rd h0 ht (i:=P.length+U'.length) (x:=z) (by rw [l1]; exact get_mid (by simp)) ek hK
   refine gx _ hvd (gz _ hvd ((h0.call x.1 z.1 v.drew).mono ?_))
   rintro r v2 ⟨rfl,f2⟩
   have fv2:=fvd.trans1 (f2.mono (T:=fun k=>blkOf A=some k) (fun _ _ h=>h.elim))
   have hv2:=hvd.fr0 f2
   have hzM:z ∈ M:=by rw [<- hUV]; simp
   have hbz:=hbx z hzM
   refine ⟨_,rfl,vIf_mk (fun hc=>jnC_mk (fun _=>?_)) (fun hc=>jnC_mk (next v2 fv2 hv2 (fun y hy=>?_)))⟩
   ·have hxz:=bef_yes h0.ord hbz (of_decide_eq_true hc)
    have hv3:=hv2.drew
    refine gz _ hv3 (gx _ hv3 ?_)
    refine rs_swap h0 hv3 (i:=P.length+(U' ++ [z]).length) (j:=P.length+U'.length) (x:=x) (y:=z) (by simp; omega) (by omega) rfl ek (fun w' hr' f'=>jnC_mk (hC _ _ ⟨(fv2.trans1 (Fr.drew _ _)).trans1 f',U',z :: V,by rw [<- hUV]; simp,fun y hy=>?_,?_,?_⟩ ?_))
    ·rcases List.mem_cons.1 hy with rfl | hy
     ·exact hxz
     ·exact hVx y hy
    ·show (_,_,_,_,_,IntKind.wrap .i64 (((P.length+(U' ++ [z]).length:Nat):Int) - 1),())=_
     rw [ek]
    ·rw [l2,set_mid (by simp)] at hr'
     have l3:(P ++ (U' ++ [z])) ++ z :: (V ++ X2' ++ S)=(P ++ U') ++ z :: (z :: (V ++ X2' ++ S)):=by simp
     rw [l3,set_mid (by simp)] at hr'
     have l4:(P ++ U') ++ x :: (z :: (V ++ X2' ++ S))=P ++ U' ++ x :: (z :: V) ++ X2' ++ S:=by simp
     rw [l4] at hr'; exact hr'
    ·show (IntKind.wrap .i64 (((P.length+(U' ++ [z]).length:Nat):Int) - 1)).toNat < (((P.length+(U' ++ [z]).length:Nat):Int)).toNat
     rw [ek]; simp only [List.length_append,List.length_cons,List.length_nil]; omega
   ·have hzx:=bef_no h0.ord hbz (of_decide_eq_false hc)
    rcases List.mem_append.1 hy with hy | hy
    ·refine lt_trans h0.ord ?_ hzx
     exact (sorted_of_app sU).2.2 y hy z (by simp)
    ·simp at hy; subst hy; exact hzx
  ·have hj2:¬ ((P.length+U.length:Nat):Int) > ((P.length:Nat):Int):=of_decide_eq_false hj
   have hU:U=[]:=List.length_eq_zero_iff.1 (by omega)
   exact jnC_mk (next v.drew fvd hvd (fun y hy=>by rw [hU] at hy; cases hy))
 ·have hge2:¬ ((P.length+M.length:Nat):Int) < ((P.length+(x0 :: X0).length:Nat):Int):=of_decide_eq_false hge
  have hX2:X2=[]:=List.length_eq_zero_iff.1 (by omega)
  subst hX2
  rw [List.append_nil] at hX hr
  subst hX
  exact ⟨rfl,hf,M,hM,sM,hr⟩
structure Blk (cmp:β->β->Int) (k:Nat) (Fs:List (List (β×Nat))) (t:List (β×Nat)):Prop where
 len:∀ f ∈ Fs,f.length=k
 srt:∀ f ∈ Fs,Sorted cmp f
 tl:t.length < k
 ts:Sorted cmp t
 bf:(Fs ++ [t]).Pairwise befC
set_option maxHeartbeats 2000000 in
theorem stable_calls (h0:Srt β enc cmp) (B:Nat) (A:Option Addr) (n c:Nat) (X:List (β×Nat)) (w:World) (h:RS enc w B A n c X) (hb:X.Pairwise bef) (hn:n < 68719476736) :
  Calls Tryz.prog 137 #[.slice A n c,.int .i64 (n:Nat),cf] w fun e w'=>e=.returned (.tuple #[])/\Srted enc cmp w w' B A n c [] X []:=by
 refine (F137s.of A n c _ w (Q:=fun v w'=>v=.tuple #[]/\Srted enc cmp w w' B A n c [] X []) ?_).mono (fun e w' ⟨v,he,hv,h⟩=>⟨by rw [he,hv],h⟩)
 have hXl:=h.2
 have merges:∀ (u:World) (Fs:List (List (β×Nat))) (t:List (β×Nat)),Fr (fun k=>blkOf A=some k) w u->(Fs.flatten ++ t).Perm X->Blk cmp 20 Fs t->RS enc u B A n c (Fs.flatten ++ t) ->
   jnC (F137s.l7 (fun v w'=>v=.tuple #[]/\Srted enc cmp w w' B A n c [] X [])) ((A,n,c),(n:Int),(),20,()) u:=by
  intro u Fs t hf hp hB hr
  refine jnC_mk (loop_rule (fun s u=>Fr (fun k=>blkOf A=some k) w u/\∃ (k:Nat) (Fs:List (List (β×Nat))) (t:List (β×Nat)),20<=k/\k<=2 * n+20/\s=((A,n,c),(n:Int),(),(k:Int),())/\(Fs.flatten ++ t).Perm X/\Blk cmp k Fs t/\RS enc u B A n c (Fs.flatten ++ t))
   (fun s _=>(2 * (n:Int)+20 - s.2.2.2.1).toNat) ?_ _ _ ⟨hf,20,Fs,t,by omega,by omega,rfl,hp,hB,hr⟩)
  clear hr hB hp hf
  rintro s u C7 ⟨hf,k,Fs,t,hk1,hk2,rfl,hp,hB,hr⟩ hC7 _
  refine vIf_mk (fun hlt=>?_) (fun hge=>?_)
  ·have hlt2:(k:Int) < (n:Int):=of_decide_eq_true hlt
   have e2k:IntKind.wrap .i64 (2 * (k:Int))=((2 * k:Nat):Int):=by rw [i64_id (by omega) (by omega)]; omega
   have ek2:IntKind.wrap .i64 ((k:Int) * 2)=((2 * k:Nat):Int):=by rw [i64_id (by omega) (by omega)]; omega
   dsimp only
   rw [e2k]
   have done:∀ (v:World) (Ds:List (List (β×Nat))) (t':List (β×Nat)),Fr (fun k=>blkOf A=some k) w v->(Ds.flatten ++ t').Perm X->Blk cmp (2 * k) Ds t'->RS enc v B A n c (Ds.flatten ++ t')->C7 ((A,n,c),(n:Int),(),IntKind.wrap .i64 ((k:Int) * 2),()) v:=by
    intro v Ds t' fv hp' hB' hr'
    refine hC7 _ _ ⟨fv,2 * k,Ds,t',by omega,by omega,by rw [ek2],hp',hB',hr'⟩ ?_
    show (2 * (n:Int)+20 - IntKind.wrap .i64 ((k:Int) * 2)).toNat < (2 * (n:Int)+20 - (k:Int)).toNat
    rw [ek2]; omega
   refine jnC_mk (loop_rule (fun s v=>Fr (fun k=>blkOf A=some k) w v/\∃ (Ds Fs:List (List (β×Nat))),(Ds.flatten ++ (Fs.flatten ++ t)).Perm X/\(∀ d ∈ Ds,d.length=2 * k/\Sorted cmp d)/\(∀ f ∈ Fs,f.length=k/\Sorted cmp f)/\(Ds ++ (Fs ++ [t])).Pairwise befC/\s=((A,n,c),(n:Int),(),(k:Int),((Ds.flatten.length:Nat):Int),((Ds.flatten.length+2 * k:Nat):Int),())/\RS enc v B A n c (Ds.flatten ++ (Fs.flatten ++ t)))
    (fun s _=>((n:Int) - s.2.2.2.2.1).toNat) ?_ _ _ ⟨hf,[],Fs,by simpa using hp,by simp,fun f hf=>⟨hB.len f hf,hB.srt f hf⟩,hB.bf,by simp,by simpa using hr⟩)
   have ht:=hB.tl
   have hts:=hB.ts
   clear hr hB hp hf
   rintro s v C9 ⟨hf,Ds,Fs,hp,hD,hF,hbf,rfl,hr⟩ hC9 _
   have hl:=hr.2
   simp only [List.length_append] at hl
   have hFl:=flat_len (fun f hf=>(hF f hf).1)
   have eAk:IntKind.wrap .i64 (((Ds.flatten.length:Nat):Int)+(k:Int))=((Ds.flatten.length+k:Nat):Int):=ea _ _ (by omega) (by omega)
   refine vIf_mk (fun hlt=>?_) (fun hge=>?_)
   ·have hlt2:((Ds.flatten.length+2 * k:Nat):Int)<=(n:Int):=of_decide_eq_true hlt
    obtain ⟨f1,f2,Fs',rfl⟩:∃ f1 f2 r,Fs=f1 :: f2 :: r:=by
     match Fs,hFl with
     | [],hFl=>simp only [List.flatten_nil,List.length_nil] at hFl hl; omega
     | [f],hFl=>simp only [List.length_cons,List.length_nil] at hFl; omega
     | f1 :: f2 :: r,_=>exact ⟨f1,f2,r,rfl⟩
    have q1:=hF f1 (List.mem_cons_self ..)
    have q2:=hF f2 (List.mem_cons_of_mem _ (List.mem_cons_self ..))
    have hfl:Ds.flatten ++ ((f1 :: f2 :: Fs').flatten ++ t)=Ds.flatten ++ f1 ++ f2 ++ (Fs'.flatten ++ t):=by simp
    rw [hfl] at hr hp
    dsimp only
    rw [eAk]
    refine (symMerge_calls h0 B A n c (by omega) _ Ds.flatten f1 f2 (Fs'.flatten ++ t) v (Nat.le_refl _) hr q1.2 q2.2 (befC_two (Ds:=Ds) (R:=Fs' ++ [t]) (by simpa using hbf)) (fun h=>by rw [h] at q1; have:=q1.1; simp only [List.length_nil] at this; omega) (fun h=>by rw [h] at q2; have:=q2.1; simp only [List.length_nil] at this; omega) ((Ds.flatten.length:Nat):Int) ((Ds.flatten.length+k:Nat):Int) ((Ds.flatten.length+2 * k:Nat):Int) rfl (by rw [q1.1]) (by rw [q1.1,q2.1]; omega)).mono ?_
    rintro r v2 ⟨rfl,f',M,mM,sM,hr'⟩
    have lM:M.length=2 * k:=by rw [mM.length_eq,List.length_append,q1.1,q2.1]; omega
    have hfl2:Ds.flatten ++ M ++ (Fs'.flatten ++ t)=(Ds ++ [M]).flatten ++ (Fs'.flatten ++ t):=by simp
    rw [hfl2] at hr'
    have lD2:(Ds ++ [M]).flatten.length=Ds.flatten.length+2 * k:=by rw [List.flatten_append,List.flatten_cons,List.flatten_nil,List.append_nil,List.length_append,lM]
    refine ⟨rfl,jnC_mk (hC9 _ _ ⟨hf.trans1 f',Ds ++ [M],Fs',?_,fun d hd=>?_,fun f hf=>hF f (List.mem_cons_of_mem _ (List.mem_cons_of_mem _ hf)),?_,?_,hr'⟩ ?_)⟩
    ·rw [<- hfl2]
     refine List.Perm.trans ?_ hp
     simp only [List.append_assoc]
     exact (((mM.append_right _).trans (by simp)).append_left _)
    ·rcases List.mem_append.1 hd with hd | hd
     ·exact hD d hd
     ·simp at hd; subst hd; exact ⟨lM,sM⟩
    ·have:=befC_merge (Ds:=Ds) (R:=Fs' ++ [t]) (by simpa using hbf) mM
     simpa using this
    ·show (_,_,_,_,((Ds.flatten.length+2 * k:Nat):Int),IntKind.wrap .i64 (((Ds.flatten.length+2 * k:Nat):Int)+IntKind.wrap .i64 (2 * (k:Int))),())=_
     rw [e2k,ea _ _ (by omega) (by omega),lD2]
    ·show ((n:Int) - ((Ds.flatten.length+2 * k:Nat):Int)).toNat < ((n:Int) - ((Ds.flatten.length:Nat):Int)).toNat
     omega
   ·have hge2:¬ ((Ds.flatten.length+2 * k:Nat):Int)<=(n:Int):=of_decide_eq_false hge
    clear hC9
    dsimp only
    rw [eAk]
    have hFs:Fs.length<=1:=by
     rcases Nat.lt_or_ge Fs.length 2 with h' | h'
     ·omega
     ·have:2 * k<=Fs.length * k:=Nat.mul_le_mul_right _ h'
      omega
    match Fs,hFs with
    | [],_ =>
     simp only [List.flatten_nil,List.nil_append,List.length_nil] at hr hp hl hbf
     refine vIf_f (decide_eq_false (by omega)) (jnC_mk (done v Ds t hf hp ⟨fun d hd=>(hD d hd).1,fun d hd=>(hD d hd).2,by omega,hts,hbf⟩ hr))
    | [f],_ =>
     have q1:=hF f (List.mem_cons_self ..)
     simp only [List.flatten_cons,List.flatten_nil,List.append_nil] at hr hp hl
     have hbf2:(Ds ++ f :: t :: []).Pairwise befC:=by simpa using hbf
     refine vIf_mk (fun hm=>?_) (fun hm=>?_)
     ·have hm2:((Ds.flatten.length+k:Nat):Int) < (n:Int):=of_decide_eq_true hm
      have hr2:RS enc v B A n c (Ds.flatten ++ f ++ t ++ []):=by simpa using hr
      refine (symMerge_calls h0 B A n c (by omega) _ Ds.flatten f t [] v (Nat.le_refl _) hr2 q1.2 hts (befC_two hbf2) (fun h=>by rw [h] at q1; have:=q1.1; simp only [List.length_nil] at this; omega) (fun h=>by rw [h] at hl; simp only [List.length_nil] at hl; omega) ((Ds.flatten.length:Nat):Int) ((Ds.flatten.length+k:Nat):Int) (n:Int) rfl (by rw [q1.1]) (by omega)).mono ?_
      rintro r v2 ⟨rfl,f',M,mM,sM,hr'⟩
      have lM:M.length=k+t.length:=by rw [mM.length_eq,List.length_append,q1.1]
      refine ⟨rfl,jnC_mk (done v2 Ds M (hf.trans1 f') ((mM.append_left _).trans hp) ⟨fun d hd=>(hD d hd).1,fun d hd=>(hD d hd).2,by omega,sM,?_⟩ (by simpa using hr'))⟩
      exact befC_merge hbf2 mM
     ·have hm2:¬ ((Ds.flatten.length+k:Nat):Int) < (n:Int):=of_decide_eq_false hm
      have ht0:t=[]:=List.length_eq_zero_iff.1 (by omega)
      rw [ht0,List.append_nil] at hr hp
      refine jnC_mk (done v Ds f hf hp ⟨fun d hd=>(hD d hd).1,fun d hd=>(hD d hd).2,by omega,q1.2,?_⟩ hr)
      exact befC_merge hbf2 (by rw [ht0,List.append_nil])
  ·have hge2:¬ (k:Int) < (n:Int):=of_decide_eq_false hge
   have hl:=hr.2
   simp only [List.length_append] at hl
   have hFl:=flat_len hB.len
   have hFs:Fs.length<=1:=by
    rcases Nat.lt_or_ge Fs.length 2 with h' | h'
    ·omega
    ·have:2 * k<=Fs.length * k:=Nat.mul_le_mul_right _ h'
     omega
   match Fs,hFs with
   | [],_ =>
    simp only [List.flatten_nil,List.nil_append] at hr hp
    exact ⟨rfl,hf,t,hp,hB.ts,by simpa using hr⟩
   | [f],_ =>
    have q1:=hB.len f (List.mem_cons_self ..)
    have q2:=hB.srt f (List.mem_cons_self ..)
    simp only [List.flatten_cons,List.flatten_nil,List.append_nil] at hr hp hl
    have ht0:t=[]:=List.length_eq_zero_iff.1 (by omega)
    rw [ht0,List.append_nil] at hr hp
    exact ⟨rfl,hf,f,hp,q2,by simpa using hr⟩
 refine jnC_mk (loop_rule (fun s u=>Fr (fun k=>blkOf A=some k) w u/\∃ (X1 X2:List (β×Nat)) (Fs:List (List (β×Nat))),X1 ++ X2=X/\Fs.flatten.Perm X1/\(∀ f ∈ Fs,f.length=20/\Sorted cmp f)/\Fs.Pairwise befC/\s=((A,n,c),(n:Int),(),20,((Fs.flatten.length:Nat):Int),((Fs.flatten.length+20:Nat):Int),())/\RS enc u B A n c (Fs.flatten ++ X2))
  (fun s _=>((n:Int) - s.2.2.2.2.1).toNat) ?_ _ _ ⟨Fr.refl _ _,[],X,[],rfl,List.Perm.refl _,by simp,List.Pairwise.nil,rfl,by simpa using h⟩)
 rintro s u C ⟨hf,X1,X2,Fs,hX,hp,hF,hbf,rfl,hr⟩ hC _
 have hl:=hr.2
 simp only [List.length_append] at hl
 rw [<- hX] at hb
 obtain ⟨b1,b2,b3⟩:=List.pairwise_append.1 hb
 refine vIf_mk (fun hlt=>?_) (fun hge=>?_)
 ·have hlt2:((Fs.flatten.length+20:Nat):Int)<=(n:Int):=of_decide_eq_true hlt
  have hX2:=List.take_append_drop 20 X2
  have lY:(X2.take 20).length=20:=take_len (by omega)
  have b4:=b2
  rw [<- hX2] at b4
  obtain ⟨b5,b6,b7⟩:=List.pairwise_append.1 b4
  have hr2:RS enc u B A n c (Fs.flatten ++ X2.take 20 ++ X2.drop 20):=by
   rw [List.append_assoc,hX2]; exact hr
  refine (insSort_calls h0 B A n c Fs.flatten (X2.take 20) (X2.drop 20) u hr2 b5 (by omega) rfl (by rw [lY])).mono ?_
  rintro r u2 ⟨rfl,f2,M,mM,sM,hr3⟩
  have lM:M.length=20:=by rw [mM.length_eq,lY]
  have lF:(Fs ++ [M]).flatten.length=Fs.flatten.length+20:=by rw [List.flatten_append,List.flatten_cons,List.flatten_nil,List.append_nil,List.length_append,lM]
  refine ⟨rfl,jnC_mk (hC _ _ ⟨hf.trans1 f2,X1 ++ X2.take 20,X2.drop 20,Fs ++ [M],by rw [List.append_assoc,hX2,hX],?_,fun f hf=>?_,?_,?_,by simpa using hr3⟩ ?_)⟩
  ·rw [List.flatten_append,List.flatten_cons,List.flatten_nil,List.append_nil]
   exact hp.append mM
  ·rcases List.mem_append.1 hf with hf | hf
   ·exact hF f hf
   ·simp at hf; subst hf; exact ⟨lM,sM⟩
  ·refine List.pairwise_append.2 ⟨hbf,List.pairwise_singleton _ _,fun f hf m hm x hx y hy=>?_⟩
   simp at hm; subst hm
   exact b3 x (hp.mem_iff.1 (List.mem_flatten.2 ⟨f,hf,hx⟩)) y (List.mem_of_mem_take (mM.mem_iff.1 hy))
  ·show (_,_,_,_,((Fs.flatten.length+20:Nat):Int),IntKind.wrap .i64 (((Fs.flatten.length+20:Nat):Int)+20),())=_
   rw [lF,i64_id (by omega) (by omega)]; congr 6
  ·show ((n:Int) - ((Fs.flatten.length+20:Nat):Int)).toNat < ((n:Int) - ((Fs.flatten.length:Nat):Int)).toNat
   omega
 ·have hge2:¬ ((Fs.flatten.length+20:Nat):Int)<=(n:Int):=of_decide_eq_false hge
  refine (insSort_calls h0 B A n c Fs.flatten X2 [] u (by simpa using hr) b2 (by omega) rfl (by show (n:Int)=_; omega)).mono ?_
  rintro r u2 ⟨rfl,f2,M,mM,sM,hr3⟩
  refine ⟨rfl,merges u2 Fs M (hf.trans1 f2) ?_ ⟨fun f hf=>(hF f hf).1,fun f hf=>(hF f hf).2,by rw [mM.length_eq]; omega,sM,?_⟩ (by simpa using hr3)⟩
  ·rw [<- hX]; exact hp.append mM
  ·refine List.pairwise_append.2 ⟨hbf,List.pairwise_singleton _ _,fun f hf m hm x hx y hy=>?_⟩
   simp at hm; subst hm
   exact b3 x (hp.mem_iff.1 (List.mem_flatten.2 ⟨f,hf,hx⟩)) y (mM.mem_iff.1 hy)
theorem sortStable_calls (h0:Srt β enc cmp) (B:Nat) (A:Option Addr) (n c:Nat) (X:List β) (w:World) (h:Row w B 80 2 A n c (flt enc X)) (hl:X.length=n) (hn:n < 68719476736) :
  Calls Tryz.prog 117 #[.slice A n c,cf] w fun e w'=>e=.returned (.tuple #[])/\Fr (fun k=>blkOf A=some k) w w'/\Row w' B 80 2 A n c (flt enc (stab cmp X)):=by
 refine (F117s.of A n c w (Q:=fun v w'=>v=.tuple #[]/\Fr (fun k=>blkOf A=some k) w w'/\Row w' B 80 2 A n c (flt enc (stab cmp X))) ?_).mono (fun e w' ⟨v,he,hv,h⟩=>⟨by rw [he,hv],h⟩)
 have hflt:∀ l:List (β×Nat),flt (encT enc) l=flt enc (l.map (·.1)):=fun l=>by
  unfold flt
  rw [List.map_map]
  rfl
 have hR:RS enc w B A n c (tagL X):=⟨by rw [hflt,tagL_fst]; exact h,by simp [tagL,hl]⟩
 have hb:(tagL X).Pairwise bef:=by
  unfold tagL bef
  rw [List.pairwise_iff_getElem]
  intro i j hi hj hij
  simp
  omega
 refine (stable_calls h0 B A n c (tagL X) w hR hb hn).mono ?_
 rintro r w2 ⟨rfl,f,M,mM,sM,hr⟩
 refine ⟨rfl,rfl,f,?_⟩
 have h1:=hr.1
 rw [List.nil_append,List.append_nil,hflt,stab_of h0.ord sM mM] at h1
 exact h1
end
end Go.Proofs.YtodmachaofepkaaGreatDoor.StbNm
namespace Go.Proofs.YtodmachaofepkaaGreatDoor
open Go.GV Go.RowKit Go.Lib Go.Stb
abbrev Nm:=ByteArray×Int
def encN (x:Nm):List Value:=[.string x.1,.int .i64 x.2]
theorem encN_o:EncO Nm encN 2:=⟨fun _=>rfl,fun x v hv=>by simp [encN] at hv; rcases hv with rfl | rfl <;> rfl⟩
def cmpM (a b:Nm):Int:=cmpN a.1 b.1
theorem cmpM_ord:OrdC cmpM:=⟨fun a b=>cmpN_anti _ _,fun a b c h1 h2=>by
 have:=cmp_trans a.1.data.toList b.1.data.toList c.1.data.toList h1 h2
 exact this⟩
def findN (s:ByteArray):List Nm->Option Int
 | []=>none
 | x :: r=>if x.1=s then some x.2 else findN s r
theorem findN_app (s:ByteArray):∀ a b:List Nm,findN s (a ++ b)=(findN s a).or (findN s b)
 | [],b=>by simp [findN]
 | x :: r,b=>by
  rw [List.cons_append,findN,findN,findN_app s r b]
  split <;> simp
theorem findN_none {s:ByteArray}:∀ {l:List Nm},(∀ x ∈ l,x.1 ≠ s)->findN s l=none
 | [],_=>rfl
 | x :: r,h=>by rw [findN,if_neg (h x (List.mem_cons_self ..)),findN_none (fun y hy=>h y (List.mem_cons_of_mem _ hy))]
theorem findN_mem {s:ByteArray} {i:Int}:∀ {l:List Nm},findN s l=some i->(s,i) ∈ l
 | [],h=>by simp [findN] at h
 | x :: r,h=>by
  rw [findN] at h
  split at h
  ·rename_i hx
   injection h with h
   rw [<- hx,<- h]; exact List.mem_cons_self ..
  ·exact List.mem_cons_of_mem _ (findN_mem h)
def AscN (l:List Nm):Prop:=l.Pairwise (fun a b=>cmpN a.1 b.1 < 0)
theorem cmp_ne {a b:ByteArray} (h:cmpN a b < 0):a ≠ b:=fun e=>by rw [e,cmpN_self] at h; omega
theorem cmp_gt {a b:ByteArray} (h:cmpN a b < 0):¬ cmpN b a < 0:=by have:=cmpN_anti a b; omega
theorem ascN_ext:∀ {a b:List Nm},AscN a->AscN b->(∀ s,findN s a=findN s b)->a=b
 | [],[],_,_,_=>rfl
 | [],y :: b,_,_,h=>by have:=h y.1; simp [findN] at this
 | x :: a,[],_,_,h=>by have:=h x.1; simp [findN] at this
 | x :: a,y :: b,ha,hb,h=>by
  have ca:=List.pairwise_cons.1 ha
  have cb:=List.pairwise_cons.1 hb
  have key:∀ {x y:Nm} {a b:List Nm},(∀ z ∈ b,cmpN y.1 z.1 < 0)->(findN x.1 (x :: a)=findN x.1 (y :: b))->x.1=y.1\/cmpN y.1 x.1 < 0:=by
   intro x y a b hy hf
   rw [findN,if_pos rfl] at hf
   rcases List.mem_cons.1 (findN_mem hf.symm) with h1 | h1
   ·left; rw [<- h1]
   ·right; exact hy _ h1
  have h1:=key cb.1 (h x.1)
  have h2:=key ca.1 (h y.1).symm
  have hxy:x.1=y.1:=by
   rcases h1 with h1 | h1
   ·exact h1
   ·rcases h2 with h2 | h2
    ·exact h2.symm
    ·exact absurd h2 (cmp_gt h1)
  have h3:=h x.1
  rw [findN,findN,if_pos rfl,if_pos hxy.symm] at h3
  injection h3 with h3
  have hx:x=y:=Prod.ext hxy h3
  subst hx
  rw [ascN_ext ca.2 cb.2 (fun s=>by
   have h4:=h s
   rw [findN,findN] at h4
   by_cases hs:x.1=s
   ·rw [findN_none (fun z hz=>fun e=>cmp_ne (ca.1 z hz) (by rw [hs,e])),findN_none (fun z hz=>fun e=>cmp_ne (cb.1 z hz) (by rw [hs,e]))]
   ·rw [if_neg hs,if_neg hs] at h4; exact h4)]
def putN (x:Nm):List Nm->List Nm
 | []=>[x]
 | y :: r=>if cmpN x.1 y.1 < 0 then x :: y :: r else if x.1=y.1 then x :: r else y :: putN x r
theorem putN_find (s:ByteArray) (x:Nm):∀ l,findN s (putN x l)=if x.1=s then some x.2 else findN s l
 | []=>by simp [putN,findN]
 | y :: r=>by
  have ih:=putN_find s x r
  rw [putN]
  split
  ·rw [findN]
  ·split
   ·rename_i h1 h2
    rw [findN]
    by_cases h3:x.1=s
    ·rw [if_pos h3,if_pos h3]
    ·rw [if_neg h3,if_neg h3,findN,if_neg (by rw [<- h2]; exact h3)]
   ·rename_i h1 h2
    rw [findN,ih,findN]
    by_cases h3:x.1=s
    ·rw [if_pos h3,if_neg (by rw [<- h3]; exact fun e=>h2 e.symm),if_pos h3]
    ·rw [if_neg h3,if_neg h3]
theorem putN_mem {x z:Nm}:∀ {l},z ∈ putN x l->z=x\/z ∈ l
 | [],h=>by simp [putN] at h; exact .inl h
 | y :: r,h=>by
  rw [putN] at h
  split at h
  ·exact List.mem_cons.1 h
  ·split at h
   ·rcases List.mem_cons.1 h with h | h
    ·exact .inl h
    ·exact .inr (List.mem_cons_of_mem _ h)
   ·rcases List.mem_cons.1 h with h | h
    ·exact .inr (by rw [h]; exact List.mem_cons_self ..)
    ·rcases putN_mem h with h | h
     ·exact .inl h
     ·exact .inr (List.mem_cons_of_mem _ h)
theorem putN_asc (x:Nm):∀ {l},AscN l->AscN (putN x l)
 | [],_=>List.pairwise_singleton _ _
 | y :: r,h=>by
  have c:=List.pairwise_cons.1 h
  rw [putN]
  split
  ·rename_i h1
   refine List.pairwise_cons.2 ⟨fun z hz=>?_,h⟩
   rcases List.mem_cons.1 hz with rfl | hz
   ·exact h1
   ·exact cmpN_trans h1 (c.1 z hz)
  ·split
   ·rename_i h1 h2
    refine List.pairwise_cons.2 ⟨fun z hz=>?_,c.2⟩
    rw [h2]; exact c.1 z hz
   ·rename_i h1 h2
    refine List.pairwise_cons.2 ⟨fun z hz=>?_,putN_asc x c.2⟩
    rcases putN_mem hz with rfl | hz
    ·have:=cmpN_anti z.1 y.1
     have h3:cmpN z.1 y.1 ≠ 0:=fun e=>h2 ((cmpN_zero _ _).1 e)
     omega
    ·exact c.1 z hz
theorem putN_len (x:Nm):∀ l,(putN x l).length<=l.length+1
 | []=>by simp [putN]
 | y :: r=>by
  have:=putN_len x r
  rw [putN]
  split
  ·simp
  ·split <;> simp <;> omega
theorem putN_lt {x:Nm}:∀ {l:List Nm},(∀ z ∈ l,cmpN x.1 z.1 < 0)->putN x l=x :: l
 | [],_=>rfl
 | y :: r,h=>by rw [putN,if_pos (h y (List.mem_cons_self ..))]
theorem putN_app {x:Nm}:∀ {U:List Nm} (V:List Nm),(∀ z ∈ U,cmpN z.1 x.1 < 0)->putN x (U ++ V)=U ++ putN x V
 | [],V,_=>rfl
 | y :: r,V,h=>by
  have h1:=h y (List.mem_cons_self ..)
  rw [List.cons_append,putN,if_neg (cmp_gt h1),if_neg (fun e=>cmp_ne h1 e.symm),putN_app V (fun z hz=>h z (List.mem_cons_of_mem _ hz))]
  rfl
def woN (s:ByteArray) (l:List Nm):List Nm:=l.filter (fun y=>decide (y.1 ≠ s))
theorem woN_asc (s:ByteArray) {l:List Nm} (h:AscN l):AscN (woN s l):=h.sublist (List.filter_sublist ..)
theorem woN_len (s:ByteArray) (l:List Nm):(woN s l).length<=l.length:=List.length_filter_le _ _
theorem woN_id {s:ByteArray} {l:List Nm} (h:∀ x ∈ l,x.1 ≠ s):woN s l=l:=List.filter_eq_self.2 (fun x hx=>by simpa using h x hx)
def PlN (s:ByteArray) (i:Nat) (l:List Nm):Prop:=i<=l.length/\(∀ x ∈ l.take i,cmpN x.1 s < 0)/\∀ x ∈ l.drop i,¬ cmpN x.1 s < 0
def isN (s:ByteArray) (i:Nat) (l:List Nm):Bool:=match l[i]? with | some x=>decide (x.1=s) | none=>false
theorem isN_at {s:ByteArray} {i:Nat} {l:List Nm} (h:isN s i l=true):∃ x,l[i]?=some x/\x.1=s:=by
 unfold isN at h
 split at h
 ·rename_i x hx; exact ⟨x,hx,of_decide_eq_true h⟩
 ·cases h
theorem drop_at {α:Type} {l:List α} {i:Nat} {x:α} (h:l[i]?=some x):l.drop i=x :: l.drop (i+1):=by
 obtain ⟨h1,rfl⟩:=List.getElem?_eq_some_iff.1 h
 exact List.drop_eq_getElem_cons h1
theorem pl_gt {s:ByteArray} {i:Nat} {l:List Nm} (hp:PlN s i l) (ha:AscN l) (hi:isN s i l=false):∀ x ∈ l.drop i,cmpN s x.1 < 0:=by
 intro x hx
 have h1:=hp.2.2 x hx
 cases hd:l.drop i with
 | nil=>rw [hd] at hx; cases hx
 | cons y r =>
  have hy:l[i]?=some y:=by
   have:=congrArg (·[0]?) hd
   simpa using this
  have hne:y.1 ≠ s:=by
   unfold isN at hi
   rw [hy] at hi
   exact of_decide_eq_false hi
  have hyl:=hp.2.2 y (by rw [hd]; exact List.mem_cons_self ..)
  have h0:cmpN y.1 s ≠ 0:=fun e=>hne ((cmpN_zero _ _).1 e)
  have hsy:cmpN s y.1 < 0:=by have:=cmpN_anti y.1 s; omega
  rw [hd] at hx
  rcases List.mem_cons.1 hx with rfl | hx
  ·exact hsy
  ·have hsub:AscN (y :: r):=by rw [<- hd]; exact ha.sublist (List.drop_sublist _ _)
   exact cmpN_trans hsy ((List.pairwise_cons.1 hsub).1 x hx)
theorem put_in {s:ByteArray} {v:Int} {i:Nat} {l:List Nm} {x:Nm} (hp:PlN s i l) (hx:l[i]?=some x) (hs:x.1=s):putN (s,v) l=l.set i (s,v):=by
 have hi:=(List.getElem?_eq_some_iff.1 hx).1
 conv=>lhs; rw [<- List.take_append_drop i l]
 rw [putN_app _ hp.2.1,drop_at hx,putN,if_neg (by show ¬ cmpN s x.1 < 0; rw [hs,cmpN_self]; omega),if_pos hs.symm,List.set_eq_take_append_cons_drop,if_pos hi]
theorem put_out {s:ByteArray} {v:Int} {i:Nat} {l:List Nm} (hp:PlN s i l) (ha:AscN l) (hi:isN s i l=false):putN (s,v) l=l.take i ++ (s,v) :: l.drop i:=by
 conv=>lhs; rw [<- List.take_append_drop i l]
 rw [putN_app _ hp.2.1,putN_lt (pl_gt hp ha hi)]
theorem wo_in {s:ByteArray} {i:Nat} {l:List Nm} {x:Nm} (hp:PlN s i l) (ha:AscN l) (hx:l[i]?=some x) (hs:x.1=s):woN s l=l.take i ++ l.drop (i+1):=by
 have hd:=drop_at hx
 conv=>lhs; rw [<- List.take_append_drop i l,hd]
 unfold woN
 rw [List.filter_append,List.filter_cons_of_neg (by simpa using hs)]
 have hsub:AscN (x :: l.drop (i+1)):=by rw [<- hd]; exact ha.sublist (List.drop_sublist _ _)
 congr 1
 ·exact woN_id (fun z hz=>cmp_ne (hp.2.1 z hz))
 ·exact woN_id (fun z hz e=>cmp_ne ((List.pairwise_cons.1 hsub).1 z hz) (by rw [hs,e]))
theorem wo_out {s:ByteArray} {i:Nat} {l:List Nm} (hp:PlN s i l) (ha:AscN l) (hi:isN s i l=false):woN s l=l/\findN s l=none:=by
 have h:∀ z ∈ l,z.1 ≠ s:=by
  intro z hz
  rw [<- List.take_append_drop i l] at hz
  rcases List.mem_append.1 hz with hz | hz
  ·exact cmp_ne (hp.2.1 z hz)
  ·exact fun e=>cmp_ne (pl_gt hp ha hi z hz) e.symm
 exact ⟨woN_id h,findN_none h⟩
theorem find_in {s:ByteArray} {i:Nat} {l:List Nm} {x:Nm} (hp:PlN s i l) (hx:l[i]?=some x) (hs:x.1=s):findN s l=some x.2:=by
 rw [<- List.take_append_drop i l,drop_at hx,findN_app,findN_none (fun z hz=>cmp_ne (hp.2.1 z hz)),findN,if_pos hs]
 rfl
def lastN (l:List Nm):List Nm:=l.foldr putN []
theorem lastN_asc:∀ l,AscN (lastN l)
 | []=>List.Pairwise.nil
 | x :: r=>putN_asc x (lastN_asc r)
theorem lastN_find (s:ByteArray):∀ l,findN s (lastN l)=findN s l
 | []=>rfl
 | x :: r=>by
  show findN s (putN x (lastN r))=_
  rw [putN_find,lastN_find s r,findN]
theorem lastN_len:∀ l,(lastN l).length<=l.length
 | []=>Nat.le_refl _
 | x :: r=>by
  have:=lastN_len r
  have h2:=putN_len x (lastN r)
  show (putN x (lastN r)).length<=_
  rw [List.length_cons]; omega
def cptN (r:List Nm):Nat->List Nm
 | 0=>[]
 | n+1=>cptN r n ++ (if n ≠ 0/\(r[n]?).map (·.1)=(r[n - 1]?).map (·.1) then [] else r[n]?.toList)
theorem cptN_sub (r:List Nm):∀ n d,d ∈ cptN r n->d ∈ r.take n
 | 0,d,h=>by simp [cptN] at h
 | n+1,d,h=>by
  rw [cptN] at h
  rw [List.take_add_one]
  rcases List.mem_append.1 h with h | h
  ·exact List.mem_append_left _ (cptN_sub r n d h)
  ·split at h
   ·cases h
   ·exact List.mem_append_right _ h
theorem cptN_find (s:ByteArray) (r:List Nm):∀ n,findN s (cptN r n)=findN s (r.take n)
 | 0=>by simp [cptN]
 | n+1=>by
  rw [cptN,List.take_add_one,findN_app,findN_app,cptN_find s r n]
  split
  ·rename_i h
   obtain ⟨h0,h⟩:=h
   cases hn:r[n]? with
   | none=>rfl
   | some x =>
    rw [hn] at h
    cases hp:r[n - 1]? with
    | none=>rw [hp] at h; cases h
    | some y =>
     rw [hp] at h
     simp at h
     rw [Option.toList_some]
     by_cases hs:x.1=s
     ·cases hf:findN s (r.take n) with
      | some v=>rfl
      | none =>
       exfalso
       have:r.take n=r.take (n - 1) ++ [y]:=by
        conv=>lhs; rw [show n=(n - 1)+1 by omega,List.take_add_one,hp]
        rfl
       rw [this,findN_app,findN,if_pos (by rw [<- h]; exact hs)] at hf
       cases h5:findN s (r.take (n - 1)) <;> rw [h5] at hf <;> cases hf
     ·have:findN s [x]=none:=by rw [findN,if_neg hs]; rfl
      rw [this]; rfl
  ·rfl
theorem cptN_asc {r:List Nm} (h:r.Pairwise (fun a b=>cmpM a b<=0)):∀ n,n<=r.length->AscN (cptN r n)
 | 0,_=>List.Pairwise.nil
 | n+1,hn=>by
  have ih:=cptN_asc h n (by omega)
  rw [cptN]
  by_cases hc:n ≠ 0/\(r[n]?).map (·.1)=(r[n - 1]?).map (·.1)
  ·rw [if_pos hc,List.append_nil]; exact ih
  ·rw [if_neg hc,List.getElem?_eq_getElem (by omega)]
   refine List.pairwise_append.2 ⟨ih,by simp,fun a ha b hb=>?_⟩
   simp at hb
   subst hb
   have ha':=cptN_sub r n a ha
   obtain ⟨i,hi,hai⟩:=List.mem_iff_getElem.1 ha'
   rw [List.length_take] at hi
   rw [List.getElem_take] at hai
   have hn0:n ≠ 0:=by omega
   have hprev:(r[n - 1]'(by omega)).1 ≠ (r[n]'(by omega)).1:=by
    intro he
    apply hc
    refine ⟨hn0,?_⟩
    rw [List.getElem?_eq_getElem (by omega),List.getElem?_eq_getElem (by omega),Option.map_some,Option.map_some,he]
   have hp:=List.pairwise_iff_getElem.1 h
   have h2:=hp (n - 1) n (by omega) (by omega) (by omega)
   have h2':cmpN (r[n - 1]'(by omega)).1 (r[n]'(by omega)).1 < 0:=by
    have h3:cmpN (r[n - 1]'(by omega)).1 (r[n]'(by omega)).1<=0:=h2
    have h4:cmpN (r[n - 1]'(by omega)).1 (r[n]'(by omega)).1 ≠ 0:=fun e=>hprev ((cmpN_zero _ _).1 e)
    omega
   subst hai
   by_cases hin:i=n - 1
   ·subst hin; exact h2'
   ·have h3:cmpM (r[i]'(by omega)) (r[n - 1]'(by omega))<=0:=hp i (n - 1) (by omega) (by omega) (by omega)
    exact cmpM_ord.le_lt (b:=r[n - 1]'(by omega)) h3 h2'
theorem ins_find (s:ByteArray) (x:Nm):∀ {a:List Nm},a.Pairwise (fun a b=>cmpM a b<=0)->findN s (ins cmpM x a)=(findN s a).or (if x.1=s then some x.2 else none)
 | [],_=>by simp [ins,findN]
 | y :: r,h=>by
  have c:=List.pairwise_cons.1 h
  rw [ins]
  split
  ·rename_i h1
   rw [findN]
   by_cases hs:x.1=s
   ·rw [if_pos hs,if_pos hs,findN_none (l:=y :: r)]
    ·rfl
    ·intro z hz
     have hxz:cmpM x z < 0:=by
      rcases List.mem_cons.1 hz with rfl | hz
      ·exact h1
      ·exact cmpM_ord.lt_le h1 (c.1 z hz)
     rw [<- hs]
     exact fun e=>cmp_ne (a:=x.1) (b:=z.1) hxz e.symm
   ·rw [if_neg hs,if_neg hs]; simp
  ·rw [findN,ins_find s x c.2,findN]
   split <;> simp
theorem stab_weak (l:List Nm):(stab cmpM l).Pairwise (fun a b=>cmpM a b<=0):=by
 obtain ⟨m,h1,h2,h3⟩:=stab_spec cmpM_ord l
 rw [<- h3,List.pairwise_map]
 exact h1.imp (fun h=>by rcases h with h | h <;> omega)
theorem stab_find (s:ByteArray) (l:List Nm):findN s (stab cmpM l)=findN s l :=
 snoc_ind (P:=fun l=>findN s (stab cmpM l)=findN s l) rfl (fun l x ih=>by rw [stab_snoc,ins_find s x (stab_weak l),ih,findN_app]; rfl) l
theorem last_eq (l:List Nm):cptN (stab cmpM l) l.length=lastN l:=by
 refine ascN_ext (cptN_asc (stab_weak l) _ (by rw [stab_len]; exact Nat.le_refl _)) (lastN_asc l) (fun s=>?_)
 rw [cptN_find,List.take_of_length_le (by rw [stab_len]; exact Nat.le_refl _),stab_find,lastN_find]
structure Ch where
 k:Int
 nm:ByteArray
 to:ByteArray
 id:Int
def encC (c:Ch):List Value:=[.int .i64 c.k,.string c.nm,.string c.to,.int .i64 c.id]
theorem encC_o:EncO Ch encC 4:=⟨fun _=>rfl,fun x v hv=>by simp [encC] at hv; rcases hv with rfl | rfl | rfl | rfl <;> rfl⟩
def stepN (l:List Nm) (c:Ch):List Nm :=
 if c.k=1 then putN (c.nm,c.id) l
 else if c.k=2 then (match findN c.nm l with | some id=>putN (c.to,id) (woN c.nm l) | none=>l)
 else if c.k=3 then woN c.nm l else l
theorem stepN_asc (c:Ch) {l:List Nm} (h:AscN l):AscN (stepN l c):=by
 unfold stepN
 split
 ·exact putN_asc _ h
 ·split
  ·split
   ·exact putN_asc _ (woN_asc _ h)
   ·exact h
  ·split
   ·exact woN_asc _ h
   ·exact h
theorem stepN_len (c:Ch) (l:List Nm):(stepN l c).length<=l.length+1:=by
 unfold stepN
 split
 ·exact putN_len _ _
 ·split
  ·split
   ·have:=putN_len (c.to,‹Int›) (woN c.nm l)
    have:=woN_len c.nm l
    omega
   ·omega
  ·split
   ·have:=woN_len c.nm l; omega
   ·omega
def behN (L:List Nm) (P:List Ch):List Nm:=P.foldl stepN (lastN L)
theorem behN_snoc (L:List Nm) (P:List Ch) (c:Ch):behN L (P ++ [c])=stepN (behN L P) c:=by unfold behN; rw [List.foldl_append]; rfl
theorem behN_step {L:List Nm} {P:List Ch} {i:Nat} {c:Ch} (h:P[i]?=some c):behN L (P.take (i+1))=stepN (behN L (P.take i)) c:=by
 rw [List.take_add_one,h,Option.toList_some,behN_snoc]
theorem behN_asc (L:List Nm) (P:List Ch):AscN (behN L P):=snoc_ind (P:=fun P=>AscN (behN L P)) (lastN_asc L) (fun l x ih=>by rw [behN_snoc]; exact stepN_asc _ ih) P
theorem behN_len (L:List Nm) (P:List Ch):(behN L P).length<=L.length+P.length:=snoc_ind (P:=fun P=>(behN L P).length<=L.length+P.length) (lastN_len L) (fun l x ih=>by
 have:=stepN_len x (behN L l)
 rw [behN_snoc,List.length_append,List.length_singleton]; omega) P
def NRow (w:World) (B:Nat) (A:Option Addr) (n c:Nat) (l:List Nm):Prop:=Row w B 80 2 A n c (flt encN l)/\l.length=n
def NSl (w:World) (A:Option Addr) (n:Nat) (l:List Nm):Prop:=Sl w 2 A n (flt encN l)/\l.length=n
theorem NRow.sl {w:World} {B:Nat} {A:Option Addr} {n c:Nat} {l:List Nm} (h:NRow w B A n c l):NSl w A n l:=⟨h.1.sl,h.2⟩
theorem NRow.fr0 {w w':World} {B:Nat} {A:Option Addr} {n c:Nat} {l:List Nm} (h:NRow w B A n c l) (f:Fr (fun _=>False) w w'):NRow w' B A n c l:=⟨f.row h.1 (fun _ _ h=>h),h.2⟩
theorem NSl.fr0 {w w':World} {A:Option Addr} {n:Nat} {l:List Nm} (h:NSl w A n l) (f:Fr (fun _=>False) w w'):NSl w' A n l:=⟨f.sl h.1 (fun _ _ _ h=>h),h.2⟩
theorem n_rd {w:World} {A:Option Addr} {n:Nat} {l:List Nm} (h:NSl w A n l) {i:Nat} {x:Nm} (hi:l[i]?=some x) {ii:Int} (hii:ii=(i:Int)) {K:List Value->Prop} (hK:K (encN x)) :
  dr A fun b o=>gd (decide (0<=ii)) (gd (decide (ii < ((n:Nat):Int))) (ldA 2 w b (o+ii.toNat * 2) K)) :=
 el_rd h.1 (fun x _=>rfl) hi hii h.2 (fun b o hA hc=>⟨encN x,rfl,hc,hK⟩)
theorem n_rdI {w:World} {A:Option Addr} {n:Nat} {l:List Nm} (h:NSl w A n l) {i:Nat} {x:Nm} (hi:l[i]?=some x) {ii:Int} (hii:ii=(i:Int)) {K:Int->Prop} (hK:K x.2) :
  dr A fun b o=>gd (decide (0<=ii)) (gd (decide (ii < ((n:Nat):Int))) (ldI .i64 w b ((o+ii.toNat * 2)+1) K)) :=
 el_rd h.1 (fun x _=>rfl) hi hii h.2 (fun b o hA hc=>⟨x.2,hc 1 _ rfl,hK⟩)
theorem byName_calls (x:Nm) (s:ByteArray) (w:World) :
  Calls Tryz.prog 44 #[ofL (encN x),.string s] w fun e w'=>e=.returned (.int .i64 (cmpN x.1 s))/\Fr (fun _=>False) w w':=by
 refine (F44.of _ s w (Q:=fun v w'=>v=.int .i64 (cmpN x.1 s)/\Fr (fun _=>False) w w') ?_).mono (fun e w' ⟨v,he,hv,h⟩=>⟨by rw [he,hv],h⟩)
 refine nw_mk ?_
 have f1:Fr (fun _=>False) w (w.alloc (.cells (encN x).toArray 80)):=Fr.alloc _ _ _
 have r1:=RecAt.new w (encN x) 80
 generalize w.alloc (.cells (encN x).toArray 80)=w1 at f1 r1 ⊢
 refine ⟨x.1,r1.cell rfl,(strcmp_calls x.1 s w1).mono ?_⟩
 rintro r w2 ⟨rfl,rfl⟩
 exact ⟨_,rfl,rfl,f1⟩
theorem two_new (x y:Nm) (w:World) {K:Nat->Nat->World->Prop} (hK:∀ b1 b2 w',Fr (fun _=>False) w w'->RecAt w' b1 80 (encN x)->RecAt w' b2 80 (encN y)->K b1 b2 w'):nw w (encN x) 80 fun b1 w1=>nw w1 (encN y) 80 fun b2 w2=>K b1 b2 w2:=by
 refine nw_mk (nw_mk ?_)
 have f1:Fr (fun _=>False) w (w.alloc (.cells (encN x).toArray 80)):=Fr.alloc _ _ _
 have r1:=RecAt.new w (encN x) 80
 generalize w.alloc (.cells (encN x).toArray 80)=w1 at f1 r1 ⊢
 have f2:Fr (fun _=>False) w1 (w1.alloc (.cells (encN y).toArray 80)):=Fr.alloc _ _ _
 exact hK _ _ _ (f1.trans1 f2) (r1.fr f2 (fun h=>h)) (RecAt.new w1 (encN y) 80)
theorem lcmp_calls (x y:Nm) (w:World) :
  Calls Tryz.prog 118 #[ofL (encN x),ofL (encN y)] w fun e w'=>e=.returned (.int .i64 (cmpM x y))/\Fr (fun _=>False) w w':=by
 refine (F118.of _ _ w (Q:=fun v w'=>v=.int .i64 (cmpM x y)/\Fr (fun _=>False) w w') ?_).mono (fun e w' ⟨v,he,hv,h⟩=>⟨by rw [he,hv],h⟩)
 refine two_new x y w (fun b1 b2 w1 f r1 r2=>⟨x.1,r1.cell rfl,y.1,r2.cell rfl,(strcmp_calls x.1 y.1 w1).mono ?_⟩)
 rintro r w2 ⟨rfl,rfl⟩
 exact ⟨_,rfl,rfl,f⟩
theorem leq_calls (x y:Nm) (w:World) :
  Calls Tryz.prog 120 #[ofL (encN x),ofL (encN y)] w fun e w'=>e=.returned (.bool (decide (x.1=y.1)))/\Fr (fun _=>False) w w':=by
 refine (F120.of _ _ w (Q:=fun v w'=>v=.bool (decide (x.1=y.1))/\Fr (fun _=>False) w w') ?_).mono (fun e w' ⟨v,he,hv,h⟩=>⟨by rw [he,hv],h⟩)
 refine two_new x y w (fun b1 b2 w1 f r1 r2=>⟨x.1,r1.cell rfl,y.1,r2.cell rfl,?_,f⟩)
 rw [neq]
theorem lsrt:StbNm.Srt Nm encN cmpM:=⟨fun _=>rfl,encN_o.one,cmpM_ord,lcmp_calls⟩
theorem mem_take_lt {α:Type} {l:List α} {i:Nat} {x:α} (h:x ∈ l.take i):∃ j,j < i/\l[j]?=some x:=by
 obtain ⟨j,hj⟩:=List.mem_iff_getElem?.1 h
 rw [List.getElem?_take] at hj
 split at hj
 ·exact ⟨j,by assumption,hj⟩
 ·cases hj
theorem mem_drop_ge {α:Type} {l:List α} {i:Nat} {x:α} (h:x ∈ l.drop i):∃ j,i<=j/\l[j]?=some x:=by
 obtain ⟨j,hj⟩:=List.mem_iff_getElem?.1 h
 rw [List.getElem?_drop] at hj
 exact ⟨i+j,by omega,hj⟩
theorem asc_lt {l:List Nm} (h:AscN l) {i j:Nat} {x y:Nm} (hi:l[i]?=some x) (hj:l[j]?=some y) (hij:i < j):cmpN x.1 y.1 < 0:=by
 obtain ⟨h1,rfl⟩:=List.getElem?_eq_some_iff.1 hi
 obtain ⟨h2,rfl⟩:=List.getElem?_eq_some_iff.1 hj
 exact (List.pairwise_iff_getElem.1 h) i j h1 h2 hij
theorem bsN_calls (A:Option Addr) (n c:Nat) (l:List Nm) (nm:ByteArray) (w:World) (h:NSl w A n l) (ha:AscN l) (hn:n<=17179869184) :
  Calls Tryz.prog 43 #[.slice A n c,.string nm,.func (.func 44) #[] #[]] w fun e w'=>Fr (fun _=>False) w w'/\∃ i:Nat,e=.returned (.tuple #[.int .i64 i,.bool (isN nm i l)])/\PlN nm i l:=by
 refine (F43s.of A n c nm w (Q:=fun v w'=>Fr (fun _=>False) w w'/\∃ i:Nat,v=.tuple #[.int .i64 i,.bool (isN nm i l)]/\PlN nm i l) ?_).mono (fun e w' ⟨v,he,hf,i,hv,h⟩=>⟨hf,i,by rw [he,hv],h⟩)
 have hl:=h.2
 refine jnC_mk (loop_rule (fun s u=>Fr (fun _=>False) w u/\∃ i j:Nat,i<=j/\j<=n/\s=((A,n,c),nm,(),(n:Int),(i:Int),(j:Int),())/\(∀ x ∈ l.take i,cmpN x.1 nm < 0)/\∀ x ∈ l.drop j,¬ cmpN x.1 nm < 0)
  (fun s _=>(s.2.2.2.2.2.1 - s.2.2.2.2.1).toNat) ?_ _ _ ⟨Fr.refl _ _,0,n,by omega,by omega,rfl,by simp,by rw [List.drop_of_length_le (by omega)]; intro x hx; cases hx⟩)
 rintro s u C ⟨hf,i,j,hij,hjn,rfl,hlo,hhi⟩ hC _
 refine vIf_mk (fun hlt=>?_) (fun hge=>?_)
 ·have hlt2:(i:Int) < (j:Int):=of_decide_eq_true hlt
  have em:IntKind.wrap .i64 (Int.fdiv (IntKind.wrap .u64 (IntKind.wrap .i64 ((i:Int)+(j:Int)))) (2 ^ 1))=(((i+j) / 2:Nat):Int):=by
   rw [i64_id (n:=(i:Int)+(j:Int)) (by omega) (by omega),IntKind.wrap_u64,Int.fdiv_eq_ediv_of_nonneg _ (by decide),i64_id (by omega) (by omega)]; omega
  have gi:l[(i+j) / 2]?=some (l[(i+j) / 2]'(by omega)):=List.getElem?_eq_getElem (by omega)
  generalize l[(i+j) / 2]'(by omega)=x at gi
  dsimp only
  rw [em]
  refine n_rd (h.fr0 hf) gi rfl ((byName_calls x nm u).mono ?_)
  rintro r u2 ⟨rfl,f2⟩
  refine ⟨_,rfl,vIf_mk (fun h1=>jnC_mk (hC _ _ ⟨hf.trans1 f2,(i+j) / 2+1,j,by omega,hjn,by rw [ei _ (by omega)],fun y hy=>?_,hhi⟩ ?_)) (fun h1=>jnC_mk (hC _ _ ⟨hf.trans1 f2,i,(i+j) / 2,by omega,by omega,rfl,hlo,fun y hy=>?_⟩ ?_))⟩
  ·have h1:=of_decide_eq_true h1
   obtain ⟨q,hq,hy⟩:=mem_take_lt hy
   by_cases hqm:q=(i+j) / 2
   ·rw [hqm] at hy; rw [gi] at hy; injection hy with hy; subst hy; exact h1
   ·exact cmpN_trans (asc_lt ha hy gi (by omega)) h1
  ·show ((j:Int) - IntKind.wrap .i64 ((((i+j) / 2:Nat):Int)+1)).toNat < ((j:Int) - (i:Int)).toNat
   rw [ei _ (by omega)]; omega
  ·have h1:=of_decide_eq_false h1
   obtain ⟨q,hq,hy⟩:=mem_drop_ge hy
   by_cases hqm:q=(i+j) / 2
   ·rw [hqm] at hy; rw [gi] at hy; injection hy with hy; subst hy; exact h1
   ·intro h2
    exact h1 (cmpN_trans (asc_lt ha gi hy (by omega)) h2)
  ·show ((((i+j) / 2:Nat):Int) - (i:Int)).toNat < ((j:Int) - (i:Int)).toNat
   omega
 ·have hge2:¬ (i:Int) < (j:Int):=of_decide_eq_false hge
  have hij2:i=j:=by omega
  subst hij2
  have hpl:PlN nm i l:=⟨by omega,hlo,hhi⟩
  refine vIf_mk (fun h1=>?_) (fun h1=>?_)
  ·have h1:(i:Int) < (n:Int):=of_decide_eq_true h1
   have gi:l[i]?=some (l[i]'(by omega)):=List.getElem?_eq_getElem (by omega)
   generalize l[i]'(by omega)=x at gi
   refine n_rd (h.fr0 hf) gi rfl ((byName_calls x nm u).mono ?_)
   rintro r u2 ⟨rfl,f2⟩
   refine ⟨_,rfl,hf.trans1 f2,i,?_,hpl⟩
   have:isN nm i l=(cmpN x.1 nm == 0):=by
    unfold isN
    rw [gi,Bool.eq_iff_iff,decide_eq_true_iff,beq_iff_eq]
    exact (cmpN_zero _ _).symm
   rw [this]
  ·have h1:¬ (i:Int) < (n:Int):=of_decide_eq_false h1
   refine ⟨hf,i,?_,hpl⟩
   have:isN nm i l=false:=by
    unfold isN
    rw [List.getElem?_eq_none (by omega)]
   rw [this]
theorem row_clearN {w:World} {B:Nat} {b n c k:Nat} {P:List Nm} {K:World->Prop} (hr:NRow w B (some ⟨b,0,none⟩) n c P) (hk:k < n)
  (hK:∀ w',NRow w' B (some ⟨b,0,none⟩) k c (P.take k)->Fr (fun j=>j=b) w w'->K w'):dr (slA (some (⟨b,0,none⟩:Addr)) c k 2) fun b o=>st w b o (zeros (n - k) [.string (⟨#[]⟩:ByteArray),.int .i64 0]) K:=by
 have hle:=hr.1.le
 have hPl:=hr.2
 have hzl:(zeros (n - k) [Value.string (⟨#[]⟩:ByteArray),.int .i64 0]).length=(n - k) * 2:=by rw [zeros_length]; rfl
 have hpt:=row_putG (o':=k * 2) (us:=zeros (n - k) [Value.string (⟨#[]⟩:ByteArray),.int .i64 0]) (K:=K) hr.1 (by omega) (by rw [hzl]; omega) (zeros_one (by simp; exact ⟨rfl,rfl⟩)) (fun w6 hr6 f6=>hK w6 ⟨?_,by rw [List.length_take]; omega⟩ (f6.mono (fun j _ hj=>by simpa [blkOf] using hj.symm)))
 ·rw [slS (by omega),<- Nat.zero_add (k * 2)]
  exact hpt
 ·have h7:=row_cutG hr6 (k:=k) (by omega)
  have e:(splice (flt encN P) (k * 2) (zeros (n - k) [Value.string (⟨#[]⟩:ByteArray),.int .i64 0])).take (k * 2)=flt encN (P.take k):=by
   rw [<- encN_o.ft P (by omega)]
   unfold splice
   rw [List.append_assoc,List.take_append_of_le_length (by rw [List.length_take,encN_o.fl]; omega),List.take_take,Nat.min_self]
  rw [e] at h7
  exact h7
set_option maxHeartbeats 1000000 in
theorem compactN_calls (B:Nat) (A:Option Addr) (c:Nat) (r:List Nm) (n:Nat) (w:World) (h:NRow w B A n c r) (hn:n<=1099511627775) :
  Calls Tryz.prog 119 #[.slice A n c,.func (.func 120) #[] #[]] w fun e' w'=>e'=.returned (.slice A (cptN r n).length c)/\Fr (fun k=>blkOf A=some k) w w'/\NRow w' B A (cptN r n).length c (cptN r n):=by
 refine (F119s.of A n c w (Q:=fun v w'=>v=.slice A (cptN r n).length c/\Fr (fun k=>blkOf A=some k) w w'/\NRow w' B A (cptN r n).length c (cptN r n)) ?_).mono (fun e w' ⟨v,he,hv,h⟩=>⟨by rw [he,hv],h⟩)
 have hrl:=h.2
 have whole:∀ i,i<=n->cptN r i=r.take i->i=n->∀ u,Fr (fun k=>blkOf A=some k) w u->NRow u B A n c r->(Value.slice A n c=.slice A (cptN r n).length c/\Fr (fun k=>blkOf A=some k) w u/\NRow u B A (cptN r n).length c (cptN r n)):=by
  intro i hi hc he u hf hr
  subst he
  rw [hc,List.take_of_length_le (by omega),hrl]
  exact ⟨rfl,hf,hr⟩
 have one:1<=n->cptN r 1=r.take 1:=fun _=>by simp [cptN,List.take_one,List.head?_eq_getElem?]
 refine vIf_mk (fun h2=>?_) (fun h2=>jnC_mk ?_)
 ·have h2:(n:Int) < 2:=of_decide_eq_true h2
  refine whole n (Nat.le_refl _) ?_ rfl w (Fr.refl _ _) h
  match n,h2,one with
  | 0,_,_=>rfl
  | 1,_,one=>exact one (Nat.le_refl _)
  | n+2,h2,_=>omega
 have h2:¬ (n:Int) < 2:=of_decide_eq_false h2
 have hle:=h.1.le
 obtain ⟨b,hA⟩:∃ b,A=some ⟨b,0,none⟩:=by
  rcases h.1.at_ with ⟨_,h0,_⟩ | ⟨b,_,hA,_⟩
  ·omega
  ·exact ⟨b,hA⟩
 subst hA
 refine loop_rule (fun s u=>Fr (fun k=>blkOf (some (⟨b,0,none⟩:Addr))=some k) w u/\NRow u B (some ⟨b,0,none⟩) n c r/\∃ i:Nat,1<=i/\i<=n/\s=((some ⟨b,0,none⟩,n,c),(),(i:Int),())/\cptN r i=r.take i)
  (fun s _=>(n - s.2.2.1).toNat) ?_ _ _ ⟨Fr.refl _ _,h,1,by omega,by omega,rfl,one (by omega)⟩
 rintro s u C4 ⟨hf,hr,i,hi1,hi,rfl,hc⟩ hC4 _
 refine vIf_mk (fun hlt=>?_) (fun hge=>?_)
 ·have hlt2:(i:Int) < (n:Int):=of_decide_eq_true hlt
  have hrd:=hr.fr0 (Fr.drew (fun _=>False) u)
  have ei1:IntKind.wrap .i64 ((i:Int) - 1)=((i - 1:Nat):Int):=by rw [i64_id (by omega) (by omega)]; omega
  have gi:r[i]?=some (r[i]'(by omega)):=List.getElem?_eq_getElem (by omega)
  have gp:r[i - 1]?=some (r[i - 1]'(by omega)):=List.getElem?_eq_getElem (by omega)
  generalize r[i]'(by omega)=x at gi
  generalize r[i - 1]'(by omega)=y at gp
  dsimp only
  rw [ei1]
  refine n_rd hrd.sl gi rfl (n_rd hrd.sl gp rfl ((leq_calls x y u.drew).mono ?_))
  rintro e1 u1 ⟨rfl,f1⟩
  have hr1:=hrd.fr0 f1
  have hf1:Fr (fun k=>blkOf (some (⟨b,0,none⟩:Addr))=some k) w u1:=(hf.trans1 (Fr.drew _ _)).trans1 (f1.mono (fun _ _ h=>h.elim))
  refine ⟨_,rfl,vIf_mk (fun he=>?_) (fun hne=>?_)⟩
  ·have he:x.1=y.1:=of_decide_eq_true he
   have hsame:cptN r (i+1)=r.take i:=by
    rw [cptN,if_pos ⟨by omega,by rw [gi,gp,Option.map_some,Option.map_some,he]⟩,List.append_nil,hc]
   refine gd_mk (decide_eq_true (by omega)) (gd_mk (decide_eq_true (by omega)) (jnC_mk ?_))
   rw [Int.toNat_natCast]
   have hsl:slA (some (⟨b,0,none⟩:Addr)) c i 2=some ⟨b,i * 2,none⟩:=slS (by omega)
   rw [hsl]
   refine loop_rule (fun s u=>Fr (fun k=>blkOf (some (⟨b,0,none⟩:Addr))=some k) w u/\∃ (j:Nat) (P:List Nm),1<=j/\i+j<=n/\P.length=n/\NRow u B (some ⟨b,0,none⟩) n c P/\(cptN r (i+j)).length < i+j/\P.take (cptN r (i+j)).length=cptN r (i+j)/\P.drop (cptN r (i+j)).length=r.drop (cptN r (i+j)).length /\
     s=((some ⟨b,0,none⟩,n,c),(),(((cptN r (i+j)).length:Nat):Int),(some ⟨b,i * 2,none⟩,n - i,c - i),(j:Int),()))
    (fun s _=>(n - s.2.2.2.2.1).toNat) ?_ _ _ ⟨hf1,1,r,by omega,by omega,hrl,hr1,?_,?_,?_,?_⟩
   rotate_left
   ·rw [hsame,List.length_take]; omega
   ·rw [hsame,List.length_take,Nat.min_eq_left (by omega)]
   ·rfl
   ·rw [hsame,List.length_take,Nat.min_eq_left (by omega)]; rfl
   clear hC4 hf hr hrd hr1 hf1 f1 gi gp he hlt hlt2 ei1
   rintro s u C9 ⟨hf,j,P,hj1,hjn,hPl,hr,hk,htk,hdp,rfl⟩ hC9 _
   generalize hkk:(cptN r (i+j)).length=k at hk htk hdp
   have hrd:=hr.fr0 (Fr.drew (fun _=>False) u)
   have hget:∀ q,k<=q->P[q]?=r[q]?:=by
    intro q hq
    have h1:(P.drop k)[q - k]?=(r.drop k)[q - k]?:=by rw [hdp]
    rw [List.getElem?_drop,List.getElem?_drop,show k+(q - k)=q by omega] at h1
    exact h1
   have tail:∀ v,NRow v B (some ⟨b,0,none⟩) n c P->NSl v (some (⟨b,i * 2,none⟩:Addr)) (n - i) (P.drop i):=by
    intro v hv
    have:=hv.1.tailS (k:=i) (by omega)
    rw [hsl,encN_o.fd P (by omega)] at this
    exact ⟨this,by rw [List.length_drop]; omega⟩
   refine vIf_mk (fun hlt=>?_) (fun hge=>?_)
   ·have hlt3:(j:Int) < ((n - i:Nat):Int):=of_decide_eq_true hlt
    have ej:IntKind.wrap .i64 ((j:Int) - 1)=((j - 1:Nat):Int):=by rw [i64_id (by omega) (by omega)]; omega
    have gi:r[i+j]?=some (r[i+j]'(by omega)):=List.getElem?_eq_getElem (by omega)
    have gp:r[i+j - 1]?=some (r[i+j - 1]'(by omega)):=List.getElem?_eq_getElem (by omega)
    generalize r[i+j]'(by omega)=x at gi
    generalize r[i+j - 1]'(by omega)=y at gp
    have ti:(P.drop i)[j]?=some x:=by rw [List.getElem?_drop,hget _ (by omega),gi]
    have tp:(P.drop i)[j - 1]?=some y:=by rw [List.getElem?_drop,show i+(j - 1)=i+j - 1 by omega,hget _ (by omega),gp]
    dsimp only
    rw [ej]
    refine n_rd (tail _ hrd) ti rfl (n_rd (tail _ hrd) tp rfl ((leq_calls x y u.drew).mono ?_))
    rintro e1 u1 ⟨rfl,f1⟩
    have hr1:=hrd.fr0 f1
    have hf1:Fr (fun k=>blkOf (some (⟨b,0,none⟩:Addr))=some k) w u1:=(hf.trans1 (Fr.drew _ _)).trans1 (f1.mono (fun _ _ h=>h.elim))
    have enext:IntKind.wrap .i64 ((j:Int)+1)=((j+1:Nat):Int):=by rw [i64_id (by omega) (by omega)]; rfl
    have hmeas:((n:Int) - IntKind.wrap .i64 ((j:Int)+1)).toNat < ((n:Int) - (j:Int)).toNat:=by rw [enext]; omega
    refine ⟨_,rfl,vIf_mk (fun hne=>?_) (fun he=>?_)⟩
    ·have hne2:¬ x.1=y.1:=by simpa using hne
     have hnx:cptN r (i+(j+1))=cptN r (i+j) ++ [x]:=by
      rw [<- Nat.add_assoc,cptN,if_neg,gi,Option.toList_some]
      rintro ⟨_,h'⟩
      rw [gi,gp] at h'
      exact hne2 (Option.some.inj h')
     refine n_rd (tail _ hr1) ti rfl ?_
     refine el_put (enc:=encN) hr1.1 (fun _ _=>rfl) hr1.2 (i:=k) (by omega) rfl (y:=x) rfl (encN_o.one x) (fun u2 hr2 f2=>jnC_mk (hC9 _ _ ⟨hf1.trans1 f2,j+1,P.set k x,by omega,by omega,by simpa using hPl,⟨hr2,by simpa using hPl⟩,?_,?_,?_,?_⟩ hmeas))
     ·rw [hnx,List.length_append,hkk]; simp; omega
     ·rw [hnx,List.length_append,hkk]
      show (P.set k _).take (k+1)=_
      rw [List.take_add_one,List.getElem?_set_self (by omega),Option.toList_some,List.take_set_of_le (Nat.le_refl k),htk]
     ·rw [hnx,List.length_append,hkk]
      show (P.set k _).drop (k+1)=r.drop (k+1)
      rw [List.drop_set_of_lt (by omega)]
      have h3:=congrArg (List.drop 1) hdp
      rw [List.drop_drop,List.drop_drop] at h3
      exact h3
     ·rw [hnx,List.length_append,hkk,enext]
      show (_,_,IntKind.wrap .i64 ((k:Int)+1),_,_,())=_
      rw [i64_id (by omega) (by omega)]; rfl
    ·have he2:x.1=y.1:=by simpa using he
     have hnx:cptN r (i+(j+1))=cptN r (i+j):=by
      rw [<- Nat.add_assoc,cptN,if_pos ⟨by omega,by rw [gi,gp,Option.map_some,Option.map_some,he2]⟩,List.append_nil]
     exact jnC_mk (hC9 _ _ ⟨hf1,j+1,P,by omega,by omega,hPl,hr1,by rw [hnx,hkk]; omega,by rw [hnx,hkk]; exact htk,by rw [hnx,hkk]; exact hdp,by rw [hnx,hkk,enext]⟩ hmeas)
   ·have hge3:¬ (j:Int) < ((n - i:Nat):Int):=of_decide_eq_false hge
    have hij:i+j=n:=by omega
    rw [hij] at hkk htk
    dsimp only
    simp only [Int.toNat_natCast]
    refine gd_mk (decide_eq_true (by omega)) (gd_mk (decide_eq_true (by omega)) (vIf_f (by simp; omega) ?_))
    refine row_clearN hr (by omega) (fun u2 hr2 f2=>jnC_mk (fun _=>?_))
    refine gd_mk (decide_eq_true (by show (0:Int)<=(k:Int); omega)) (gd_mk (decide_eq_true (by show (k:Int)<=(c:Int); omega)) ⟨?_,hf.trans1 (f2.mono (fun q _ hq=>by subst hq; rfl)),?_⟩)
    ·show Value.slice (slA (some ⟨b,0,none⟩) c 0 2) ((k:Int).toNat) c=_
     rw [Int.toNat_natCast,hkk,sl0]
    ·rw [hkk]
     rw [htk] at hr2
     exact hr2
  ·have hne2:¬ x.1=y.1:=of_decide_eq_false hne
   refine jnC_mk (hC4 _ _ ⟨hf1,hr1,i+1,by omega,by omega,?_,?_⟩ ?_)
   ·show (_,_,IntKind.wrap .i64 ((i:Int)+1),())=_
    rw [i64_id (by omega) (by omega)]; rfl
   ·rw [cptN,if_neg,hc,List.take_add_one]
    rintro ⟨_,h'⟩
    rw [gi,gp] at h'
    exact hne2 (Option.some.inj h')
   ·show ((n:Int) - IntKind.wrap .i64 ((i:Int)+1)).toNat < ((n:Int) - (i:Int)).toNat
    rw [i64_id (by omega) (by omega)]; omega
 ·have hge2:¬ (i:Int) < (n:Int):=of_decide_eq_false hge
  exact whole i hi hc (by omega) u hf hr
theorem fr_own {S:Nat->Prop} {w u v:World} {A:Option Addr} {b:Nat} (f:Fr (fun _=>False) w u) (hb:∀ k,blkOf A=some k->b<=k) (hw:w.heap.size<=b) (g:Fr (fun k=>blkOf A=some k) u v):Fr S w v :=
 f.trans g (fun _ _ h=>h.elim) (fun k hk h=>by have:=hb k h; omega)
theorem lasts_calls (A:Option Addr) (n c:Nat) (L:List Nm) (p:Value) (w:World) (h:NSl w A n L) (hn:n<=1073741824) :
  Calls Tryz.prog 95 #[ofL [.slice A n c,p]] w fun e w'=>Fr (fun _=>False) w w'/\∃ A' c',e=.returned (.slice A' (lastN L).length c')/\NRow w' w.heap.size A' (lastN L).length c' (lastN L):=by
 refine (F95.of _ w (Q:=fun v w'=>Fr (fun _=>False) w w'/\∃ A' c',v=.slice A' (lastN L).length c'/\NRow w' w.heap.size A' (lastN L).length c' (lastN L)) ?_).mono (fun e w' ⟨v,he,hf,A',c',hv,h⟩=>⟨hf,A',c',by rw [he,hv],h⟩)
 refine nw_mk ?_
 have f1:Fr (fun _=>False) w (w.alloc (.cells [Value.slice A n c,p].toArray 74)):=Fr.alloc _ _ _
 have r1:=RecAt.new w [Value.slice A n c,p] 74
 generalize w.alloc (.cells [Value.slice A n c,p].toArray 74)=w1 at f1 r1 ⊢
 have hsz:=f1.size
 refine ⟨A,n,c,r1.cell rfl,(ClnNm.clone_calls A n c _ w1 (h.fr0 f1).1 (encN_o.fo L) hn).mono ?_⟩
 rintro r w2 ⟨f2,A2,c2,rfl,h2⟩
 refine ⟨_,_,_,rfl,(StbNm.sortStable_calls lsrt w1.heap.size A2 n c2 L w2 h2 h.2 (by omega)).mono ?_⟩
 rintro r w3 ⟨rfl,f3,h3⟩
 refine ⟨rfl,(compactN_calls w1.heap.size A2 c2 (stab cmpM L) n w3 ⟨h3,by rw [stab_len]; exact h.2⟩ (by omega)).mono ?_⟩
 have hc:cptN (stab cmpM L) n=lastN L:=by rw [<- h.2]; exact last_eq L
 rw [hc]
 rintro r w4 ⟨rfl,f4,h4⟩
 have hA2:∀ k,blkOf A2=some k->w1.heap.size<=k:=fun k hk=>(h2.blt hk).1
 refine ⟨_,_,_,rfl,fr_own (f1.trans1 f2) hA2 (by omega) (f3.trans1 f4),A2,c2,rfl,⟨?_,h4.2⟩⟩
 exact row_low hsz h4.1
theorem set_calls (B:Nat) (A:Option Addr) (n c:Nat) (l:List Nm) (s:ByteArray) (v:Int) (w:World) (h:NRow w B A n c l) (ha:AscN l) (hB:B<=w.heap.size) (hn:n<=1073741824) :
  Calls Tryz.prog 121 #[.slice A n c,.string s,.int .i64 v] w fun e w'=>Fr (fun k=>blkOf A=some k) w w'/\∃ A' c',e=.returned (.slice A' (putN (s,v) l).length c')/\NRow w' B A' (putN (s,v) l).length c' (putN (s,v) l):=by
 refine (F121.of A n c s v w (Q:=fun v' w'=>Fr (fun k=>blkOf A=some k) w w'/\∃ A' c',v'=.slice A' (putN (s,v) l).length c'/\NRow w' B A' (putN (s,v) l).length c' (putN (s,v) l)) ?_).mono (fun e w' ⟨v,he,hf,A',c',hv,h⟩=>⟨hf,A',c',by rw [he,hv],h⟩)
 refine (bsN_calls A n c l s w h.sl ha (by omega)).mono ?_
 rintro r w2 ⟨f2,i,rfl,hp⟩
 have h2:=h.fr0 f2
 have hin:=hp.1
 have hl:=h.2
 refine ⟨_,_,rfl,vIf_mk (fun hi=>?_) (fun hi=>?_)⟩
 ·obtain ⟨x,hx,hs⟩:=isN_at hi
  have hil:=(List.getElem?_eq_some_iff.1 hx).1
  have hpt:=row_putG (o':=i * 2+1) (us:=[Value.int .i64 v]) (K:=fun w'=>Fr (fun k=>blkOf A=some k) w w'/\∃ A' c',Value.slice A n c=.slice A' (putN (s,v) l).length c'/\NRow w' B A' (putN (s,v) l).length c' (putN (s,v) l)) h2.1 (by omega) (by simp; omega) (by simp; rfl) (fun w6 hr6 f6=>?_)
  ·rw [dr_iff] at hpt
   obtain ⟨b,o,hA,hpt⟩:=hpt
   rw [hA]
   refine dr_mk (gd_mk (decide_eq_true (by omega)) (gd_mk (decide_eq_true (by omega)) ?_))
   rw [Int.toNat_natCast,<- hA]
   exact hpt
  ·rw [put_in hp hx hs,List.length_set,hl]
   refine ⟨(f2.mono (fun _ _ h=>h.elim)).trans1 f6,A,c,rfl,?_,by rw [List.length_set,hl]⟩
   have e:splice (flt encN l) (i * 2+1) [Value.int .i64 v]=flt encN (l.set i (s,v)):=by
    rw [<- flt_set (enc:=encN) (sz:=2) (fun _ _=>rfl) (by omega) rfl]
    apply List.ext_getElem?
    intro j
    have hfl:=encN_o.fl l
    rw [splice_get (by simp; omega),splice_get (by show i * 2+2<=_; omega)]
    have g0:(flt encN l)[i * 2]?=some (.string s):=by
     have:=flt_get (enc:=encN) (sz:=2) (fun _ _=>rfl) hx 0 (by omega)
     rw [Nat.add_zero] at this
     rw [this,<- hs]; rfl
    by_cases h1:j < i * 2
    ·rw [if_pos (by omega),if_pos h1]
    ·by_cases h2:j=i * 2
     ·subst h2
      rw [if_pos (by omega),if_neg (by omega),if_pos (by show i * 2 < i * 2+2; omega),g0,Nat.sub_self]; rfl
     ·rw [if_neg (by omega),if_neg h1]
      by_cases h3:j=i * 2+1
      ·subst h3
       rw [if_pos (by simp),if_pos (by show i * 2+1 < i * 2+2; omega),Nat.sub_self,show i * 2+1 - i * 2=1 by omega]; rfl
      ·rw [if_neg (by simp; omega),if_neg (by show ¬ j < i * 2+2; omega)]
   rw [<- e]
   exact hr6
 ·refine gd_mk rfl (nw_mk ?_)
  have f3:Fr (fun _=>False) w2 (w2.alloc (.cells (encN (s,v)).toArray 80)):=Fr.alloc _ _ _
  have r3:=RecAt.new w2 (encN (s,v)) 80
  show Calls _ _ _ (w2.alloc (.cells (encN (s,v)).toArray 80)) _
  have hA2:blkOf A ≠ some w2.heap.size:=fun e=>by have:=(h2.1.blt e).2; omega
  generalize hb3:w2.heap.size=b3 at r3 hA2 ⊢
  generalize w2.alloc (.cells (encN (s,v)).toArray 80)=w3 at f3 r3 ⊢
  have h3:=h2.fr0 f3
  refine (InsNm.insert_calls encN_o B A n c i l (s,v) b3 w3 h3.1 hl (by omega) r3 hA2 (by have:=f2.size; have:=f3.size; omega) hn).mono ?_
  rintro r w4 ⟨A4,c4,rfl,f4,h4,_⟩
  have hi:isN s i l=false:=hi
  rw [<- put_out hp ha hi] at h4
  have hlen:(putN (s,v) l).length=n+1:=by rw [put_out hp ha hi]; simp; omega
  rw [hlen]
  exact ⟨_,_,_,rfl,((f2.trans1 f3).mono (fun _ _ h=>h.elim)).trans1 f4,A4,c4,rfl,h4,hlen⟩
theorem cut_calls (B:Nat) (A:Option Addr) (n c:Nat) (l:List Nm) (s:ByteArray) (w:World) (h:NRow w B A n c l) (ha:AscN l) (hn:n<=1073741824) :
  Calls Tryz.prog 122 #[.slice A n c,.string s] w fun e w'=>Fr (fun k=>blkOf A=some k) w w'/\e=.returned (.tuple #[.slice A (woN s l).length c,.int .i64 ((findN s l).getD 0),.bool (findN s l).isSome])/\NRow w' B A (woN s l).length c (woN s l)/\(findN s l=none->Fr (fun _=>False) w w'):=by
 refine (F122.of A n c s w (Q:=fun v' w'=>Fr (fun k=>blkOf A=some k) w w'/\v'=.tuple #[.slice A (woN s l).length c,.int .i64 ((findN s l).getD 0),.bool (findN s l).isSome]/\NRow w' B A (woN s l).length c (woN s l)/\(findN s l=none->Fr (fun _=>False) w w')) ?_).mono (fun e w' ⟨v,he,hf,hv,h⟩=>⟨hf,by rw [he,hv],h⟩)
 refine (bsN_calls A n c l s w h.sl ha (by omega)).mono ?_
 rintro r w2 ⟨f2,i,rfl,hp⟩
 have h2:=h.fr0 f2
 have hin:=hp.1
 have hl:=h.2
 refine ⟨_,_,rfl,vIf_mk (fun hi=>?_) (fun hi=>?_)⟩
 ·have hi:isN s i l=false:=by simpa using hi
  obtain ⟨e1,e2⟩:=wo_out hp ha hi
  rw [e1,e2,hl]
  exact ⟨f2.mono (fun _ _ h=>h.elim),rfl,h2,fun _=>f2⟩
 ·have hi:isN s i l=true:=by simpa using hi
  obtain ⟨x,hx,hs⟩:=isN_at hi
  have hil:=(List.getElem?_eq_some_iff.1 hx).1
  refine n_rdI h2.sl hx rfl ((DelNm.delete_calls encN_o B A n c i l w2 h2.1 hl (by omega) hn (ei i (by omega))).mono ?_)
  rintro r w3 ⟨rfl,f3,h3⟩
  have e1:=wo_in hp ha hx hs
  have e2:=find_in hp hx hs
  rw [<- e1] at h3
  have hlen:(woN s l).length=n - 1:=by rw [e1]; simp; omega
  rw [hlen,e2]
  exact ⟨_,_,_,rfl,(f2.mono (fun _ _ h=>h.elim)).trans1 f3,rfl,⟨h3,hlen⟩,fun h=>by cases h⟩
theorem step_calls (B:Nat) (A:Option Addr) (n c:Nat) (l:List Nm) (x:Ch) (w:World) (h:NRow w B A n c l) (ha:AscN l) (hB:B<=w.heap.size) (hn:n<=1073741823) :
  Calls Tryz.prog 96 #[.slice A n c,ofL (encC x)] w fun e w'=>Fr (fun k=>blkOf A=some k) w w'/\∃ A' c',e=.returned (.slice A' (stepN l x).length c')/\NRow w' B A' (stepN l x).length c' (stepN l x):=by
 refine (F96.of A n c _ w (Q:=fun v' w'=>Fr (fun k=>blkOf A=some k) w w'/\∃ A' c',v'=.slice A' (stepN l x).length c'/\NRow w' B A' (stepN l x).length c' (stepN l x)) ?_).mono (fun e w' ⟨v,he,hf,A',c',hv,h⟩=>⟨hf,A',c',by rw [he,hv],h⟩)
 refine nw_mk ?_
 have f1:Fr (fun _=>False) w (w.alloc (.cells (encC x).toArray 178)):=Fr.alloc _ _ _
 have r1:=RecAt.new w (encC x) 178
 have hb1:∀ k,blkOf A=some k->k ≠ w.heap.size:=fun k hk e=>by have:=(h.1.blt hk).2; omega
 generalize w.heap.size=b1 at r1 hb1 ⊢
 generalize w.alloc (.cells (encC x).toArray 178)=w1 at f1 r1 ⊢
 have f1':Fr (fun k=>blkOf A=some k) w w1:=f1.mono (fun _ _ h=>h.elim)
 have h1:=h.fr0 f1
 have hB1:B<=w1.heap.size:=by have:=f1.size; omega
 have hl:=h.2
 refine ⟨x.k,r1.cell rfl,vIf_mk (fun hk=>?_) (fun hk=>vIf_mk (fun hk3=>?_) (fun hk3=>vIf_mk (fun hk2=>?_) (fun hk2=>?_)))⟩
 ·have hk:x.k=1:=by simpa using hk
  have e:stepN l x=putN (x.nm,x.id) l:=if_pos hk
  rw [e]
  refine ⟨x.nm,r1.cell rfl,x.id,r1.cell rfl,(set_calls B A n c l x.nm x.id w1 h1 ha hB1 (by omega)).mono ?_⟩
  rintro r w2 ⟨f2,A2,c2,rfl,h2⟩
  exact ⟨_,_,_,rfl,f1'.trans1 f2,A2,c2,rfl,h2⟩
 ·have hk:¬ x.k=1:=by simpa using hk
  have hk3:x.k=3:=by simpa using hk3
  have e:stepN l x=woN x.nm l:=by unfold stepN; rw [if_neg hk,if_neg (by omega),if_pos hk3]
  rw [e]
  refine ⟨x.nm,r1.cell rfl,(cut_calls B A n c l x.nm w1 h1 ha (by omega)).mono ?_⟩
  rintro r w2 ⟨f2,rfl,h2,_⟩
  exact ⟨_,_,_,_,_,rfl,f1'.trans1 f2,A,c,rfl,h2⟩
 ·have hk:¬ x.k=1:=by simpa using hk
  have hk2:x.k=2:=by simpa using hk2
  refine ⟨x.nm,r1.cell rfl,(cut_calls B A n c l x.nm w1 h1 ha (by omega)).mono ?_⟩
  rintro r w2 ⟨f2,rfl,h2,hno⟩
  refine ⟨_,_,_,_,_,rfl,vIf_mk (fun hi=>?_) (fun hi=>?_)⟩
  ·cases hf:findN x.nm l with
   | none=>rw [hf] at hi; cases hi
   | some id =>
    have e:stepN l x=putN (x.to,id) (woN x.nm l):=by unfold stepN; rw [if_neg hk,if_pos hk2,hf]
    rw [e]
    have hwl:=woN_len x.nm l
    refine ⟨x.to,(r1.fr f2 (fun e=>hb1 _ e rfl)).cell rfl,(set_calls B A _ c _ x.to id w2 h2 (woN_asc _ ha) (by have:=f2.size; omega) (by omega)).mono ?_⟩
    rintro r w3 ⟨f3,A3,c3,rfl,h3⟩
    exact ⟨_,_,_,rfl,(f1'.trans1 f2).trans1 f3,A3,c3,rfl,h3⟩
  ·cases hf:findN x.nm l with
   | some id=>rw [hf] at hi; cases hi
   | none =>
    have e:stepN l x=l:=by unfold stepN; rw [if_neg hk,if_pos hk2,hf]
    rw [e,hl]
    exact ⟨f1'.trans1 f2,A,c,rfl,h1.fr0 (hno hf)⟩
 ·have hk:¬ x.k=1:=by simpa using hk
  have hk3:¬ x.k=3:=by simpa using hk3
  have hk2:¬ x.k=2:=by simpa using hk2
  have e:stepN l x=l:=by unfold stepN; rw [if_neg hk,if_neg hk2,if_neg hk3]
  rw [e,hl]
  exact ⟨f1',A,c,rfl,h1⟩
structure Fo where
 L:List Nm
 P:List Ch
def CSl (w:World) (A:Option Addr) (n:Nat) (l:List Ch):Prop:=Sl w 4 A n (flt encC l)/\l.length=n
theorem CSl.fr0 {w w':World} {A:Option Addr} {n:Nat} {l:List Ch} (h:CSl w A n l) (f:Fr (fun _=>False) w w'):CSl w' A n l:=⟨f.sl h.1 (fun _ _ _ h=>h),h.2⟩
theorem c_rd {w:World} {A:Option Addr} {n:Nat} {l:List Ch} (h:CSl w A n l) {i:Nat} {x:Ch} (hi:l[i]?=some x) {ii:Int} (hii:ii=(i:Int)) {K:List Value->Prop} (hK:K (encC x)) :
  dr A fun b o=>gd (decide (0<=ii)) (gd (decide (ii < ((n:Nat):Int))) (ldA 4 w b (o+ii.toNat * 4) K)) :=
 el_rd h.1 (fun x _=>rfl) hi hii h.2 (fun b o hA hc=>⟨encC x,rfl,hc,hK⟩)
def FoAt (w:World) (cs:List Value) (F:Fo):Prop:=∃ A n c A' n' c',cs=[.slice A n c,.slice A' n' c']/\NSl w A n F.L/\CSl w A' n' F.P/\n'<=c'
theorem FoAt.fr0 {w w':World} {cs:List Value} {F:Fo} (h:FoAt w cs F) (f:Fr (fun _=>False) w w'):FoAt w' cs F:=by
 obtain ⟨A,n,c,A',n',c',e,h1,h2,h3⟩:=h
 exact ⟨A,n,c,A',n',c',e,h1.fr0 f,h2.fr0 f,h3⟩
theorem FoAt.len {w:World} {cs:List Value} {F:Fo} (h:FoAt w cs F):cs.length=2:=by
 obtain ⟨A,n,c,A',n',c',e,h1,h2,h3⟩:=h
 rw [e]; rfl
theorem ch_var {w:World} {x:Ch} {K:Nat->World->Prop} (hK:∀ b w',Fr (fun _=>False) w w'->RecAt w' b 178 (encC x)->K b w') :
  nw w Z178 178 fun b w1=>gd ((encC x).length == 4) (st w1 b 0 (encC x) fun w2=>K b w2):=by
 refine nw_mk (gd_mk rfl ?_)
 have f1:Fr (fun _=>False) w (w.alloc (.cells Z178.toArray 178)):=Fr.alloc _ _ _
 have r1:=RecAt.new w Z178 178
 generalize hb:w.heap.size=b at r1 ⊢
 generalize w.alloc (.cells Z178.toArray 178)=w1 at f1 r1 ⊢
 refine r1.st_mk (o:=0) (by show 0+4<=4; omega) (encC_o.one x) (fun r2 f2=>hK _ _ (f1.trans f2 (fun _ _ h=>h) (fun k hk h=>by omega)) ?_)
 have e:splice Z178 0 (encC x)=encC x:=splice_full rfl
 rw [e] at r2
 exact r2
def cnt (n:Int) (P:List Ch):Nat:=if n < 0 then 0 else min n.toNat P.length
theorem cnt_le (n:Int) (P:List Ch):cnt n P<=P.length:=by unfold cnt; split <;> omega
theorem cnt_eq (n:Int) (P:List Ch) (m:Nat) (hm:P.length=m):(if 0 < (if ((m:Nat):Int) < n then ((m:Nat):Int) else n) then (if ((m:Nat):Int) < n then ((m:Nat):Int) else n) else 0)=((cnt n P:Nat):Int):=by
 subst hm
 unfold cnt
 (repeat' split) <;> omega
def behF (F:Fo) (n:Int):List Nm:=behN F.L (F.P.take (cnt n F.P))
theorem behF_asc (F:Fo) (n:Int):AscN (behF F n):=behN_asc _ _
theorem behF_len (F:Fo) (n:Int):(behF F n).length<=F.L.length+F.P.length:=by
 have:=behN_len F.L (F.P.take (cnt n F.P))
 have h2:(F.P.take (cnt n F.P)).length<=F.P.length:=by rw [List.length_take]; omega
 unfold behF; omega
theorem sl_cut0 {w:World} {sz:Nat} {A:Option Addr} {n k c:Nat} {vs:List Value} (h:Sl w sz A n vs) (hk:k<=n):Sl w sz (slA A c 0 sz) k (vs.take (k * sz)):=by
 have h2:=h.headS hk
 refine ⟨h2.1,fun h0=>?_⟩
 obtain ⟨b,o,hA,hc⟩:=h2.2 h0
 refine ⟨b,o,?_,hc⟩
 rw [hA]
 unfold slA
 split
 ·rfl
 ·rw [Option.map_some,add_none,Nat.zero_mul]; rfl
def FoB (F:Fo):Prop:=F.L.length+F.P.length<=349525
set_option maxHeartbeats 1000000 in
theorem beh_calls (cs:List Value) (F:Fo) (n:Int) (w:World) (h:FoAt w cs F) (hb:FoB F) :
  Calls Tryz.prog 70 #[ofL cs,.int .i64 n] w fun e w'=>Fr (fun _=>False) w w'/\∃ A' c',e=.returned (.slice A' (behF F n).length c')/\NRow w' w.heap.size A' (behF F n).length c' (behF F n):=by
 refine (F70.of cs n w (Q:=fun v' w'=>Fr (fun _=>False) w w'/\∃ A' c',v'=.slice A' (behF F n).length c'/\NRow w' w.heap.size A' (behF F n).length c' (behF F n)) ?_).mono (fun e w' ⟨v,he,hf,A',c',hv,h⟩=>⟨hf,A',c',by rw [he,hv],h⟩)
 obtain ⟨A,m,c,A',m',c',rfl,hL,hP,hPc⟩:=h
 have hb:F.L.length+F.P.length<=349525:=hb
 have hLl:=hL.2
 have hPl:=hP.2
 refine nw_mk ?_
 have f1:Fr (fun _=>False) w (w.alloc (.cells [Value.slice A m c,.slice A' m' c'].toArray 74)):=Fr.alloc _ _ _
 have r1:=RecAt.new w [Value.slice A m c,.slice A' m' c'] 74
 generalize w.alloc (.cells [Value.slice A m c,.slice A' m' c'].toArray 74)=w1 at f1 r1 ⊢
 refine ⟨[Value.slice A m c,.slice A' m' c'],rfl,r1.cells (fun j v hj=>by simpa using hj),(lasts_calls A m c F.L _ w1 (hL.fr0 f1) (by omega)).mono ?_⟩
 rintro r w2 ⟨f2,A2,c2,rfl,h2⟩
 have r2:=r1.fr f2 (fun h=>h)
 refine ⟨_,_,_,rfl,A',m',c',r2.cell rfl,A',m',c',r2.cell rfl,?_⟩
 have hk:=cnt_le n F.P
 dsimp only
 simp only [cnt_eq n F.P m' hPl]
 generalize hkk:cnt n F.P=k at hk ⊢
 refine gd_mk (decide_eq_true (by omega)) (gd_mk (decide_eq_true (by omega)) (jnC_mk ?_))
 simp only [Int.toNat_natCast]
 have hPk:CSl w1 (slA A' c' 0 4) k (F.P.take k):=by
  have:=sl_cut0 (c:=c') (hP.fr0 f1).1 (k:=k) (by omega)
  rw [encC_o.ft F.P hk] at this
  exact ⟨this,by rw [List.length_take]; omega⟩
 refine loop_rule (fun s u=>Fr (fun _=>False) w1 u/\∃ (i:Nat) (A2:Option Addr) (c2:Nat),i<=k/\s=((A2,(behN F.L (F.P.take i)).length,c2),(slA A' c' 0 4,k,c'),(k:Int),(i:Int),())/\NRow u w1.heap.size A2 (behN F.L (F.P.take i)).length c2 (behN F.L (F.P.take i)))
  (fun s _=>(k - s.2.2.2.1).toNat) ?_ _ _ ⟨f2,0,A2,c2,by omega,rfl,h2⟩
 rintro s u C ⟨hf,i,A3,c3,hi,rfl,h3⟩ hC _
 refine vIf_mk (fun hlt=>?_) (fun hge=>?_)
 ·have hlt2:(i:Int) < (k:Int):=of_decide_eq_true hlt
  have gi:F.P[i]?=some (F.P[i]'(by omega)):=List.getElem?_eq_getElem (by omega)
  generalize F.P[i]'(by omega)=x at gi
  have hst:=behN_step (L:=F.L) gi
  have hbl:=behN_len F.L (F.P.take i)
  have htl:(F.P.take i).length<=F.P.length:=by rw [List.length_take]; omega
  refine c_rd (hPk.fr0 hf) (x:=x) (by rw [List.getElem?_take,if_pos (by omega)]; exact gi) rfl (ch_var (fun b u2 g2 r2=>⟨encC x,rfl,r2.cells (fun j v hj=>by simpa using hj),?_⟩))
  refine (step_calls w1.heap.size A3 _ c3 _ x u2 (h3.fr0 g2) (behN_asc _ _) (by have:=hf.size; have:=g2.size; omega) (by omega)).mono ?_
  rintro r u3 ⟨g3,A4,c4,rfl,h4⟩
  rw [<- hst] at h4 ⊢
  refine ⟨_,_,_,rfl,jnC_mk (hC _ _ ⟨fr_own (hf.trans1 g2) (fun q hq=>(h3.1.blt hq).1) (Nat.le_refl _) g3,i+1,A4,c4,by omega,by rw [ei i (by omega)],h4⟩ ?_)⟩
  show ((k:Int) - IntKind.wrap .i64 ((i:Int)+1)).toNat < ((k:Int) - (i:Int)).toNat
  rw [ei i (by omega)]; omega
 ·have hge2:¬ (i:Int) < (k:Int):=of_decide_eq_false hge
  have hik:i=k:=by omega
  subst hik
  have e:behF F n=behN F.L (F.P.take i):=by unfold behF; rw [hkk]
  rw [e]
  exact ⟨f1.trans1 hf,A3,c3,rfl,row_low f1.size h3.1,h3.2⟩
end Go.Proofs.YtodmachaofepkaaGreatDoor
namespace Go.Proofs.YtodmachaofepkaaGreatDoor
open Go.GV Go.RowKit Go.Lib
theorem nil_iff (s:ByteArray):(s.toList == (⟨#[]⟩:ByteArray).toList)=decide (s.size=0):=by
 rw [ByteArray.toList_eq,ByteArray.toList_eq]
 have h:s.size=s.data.toList.length:=by rw [Array.length_toList]; rfl
 rw [h]
 cases hl:s.data.toList with
 | nil=>rfl
 | cons a r=>simp
def DiskP (s:ByteArray):Prop:=(∀ i,i < s.size->33<=byteAt s i/\byteAt s i<=126/\byteAt s i ≠ 47)/\1<=s.size/\s.size<=32
theorem disk_calls (s:ByteArray) (w:World) (hs:s.size<=1099511627775) :
  Calls Tryz.prog 21 #[.string s] w fun e w'=>(∃ t,e=.returned (.bool t)/\(t=true ↔ DiskP s))/\w'=w:=by
 refine (F21.of s w (Q:=fun v w'=>(∃ t,v=.bool t/\(t=true ↔ DiskP s))/\w'=w) ?_).mono (fun e w' ⟨v,he,⟨t,hv,h⟩,h'⟩=>⟨⟨t,by rw [he,hv],h⟩,h'⟩)
 have no:∀ u:World,u=w->¬ DiskP s->(∃ t,Value.bool false=.bool t/\(t=true ↔ DiskP s))/\u=w:=fun u hu h=>⟨⟨false,rfl,⟨(fun h=>by cases h),fun h'=>absurd h' h⟩⟩,hu⟩
 refine vIf_mk (fun h0=>no w rfl ?_) (fun h0=>vIf_mk (fun h32=>no w rfl ?_) (fun h32=>jnC_mk (fun _=>jnC_mk ?_)))
 ·rw [nil_iff] at h0
  have:=of_decide_eq_true h0
  intro h
  have:=h.2.1
  omega
 ·have h32:=of_decide_eq_true h32
  intro h
  have:=h.2.2
  omega
 ·rw [nil_iff] at h0
  have h0:=of_decide_eq_false h0
  have h32:=of_decide_eq_false h32
  refine loop_rule (fun p v=>v=w/\∃ i:Nat,i<=s.size/\p=(s,(s.size:Int),(i:Int),())/\∀ j,j < i->33<=byteAt s j/\byteAt s j<=126/\byteAt s j ≠ 47) (fun p _=>(s.size - p.2.2.1).toNat) ?_ _ _ ⟨rfl,0,by omega,rfl,fun j hj=>by omega⟩
  rintro p v C ⟨rfl,i,hi,rfl,hall⟩ hC _
  refine vIf_mk (fun hlt=>?_) (fun hge=>?_)
  ·have hlt2:(i:Int) < (s.size:Int):=of_decide_eq_true hlt
   refine gd_mk (decide_eq_true (by show (0:Int)<=(i:Int); omega)) (gd_mk hlt (vIf_mk (fun h1=>no v rfl ?_) (fun h1=>vIf_mk (fun h2=>no v rfl ?_) (fun h2=>vIf_mk (fun h3=>no v rfl ?_) (fun h3=>?_)))))
   ·have h1:byteAt s i < 33:=of_decide_eq_true h1
    intro h; have:=h.1 i (by omega); omega
   ·have h2:byteAt s i > 126:=of_decide_eq_true h2
    intro h; have:=h.1 i (by omega); omega
   ·have h3:byteAt s i=47:=by simpa using h3
    intro h; have:=h.1 i (by omega); omega
   ·have h1:¬ byteAt s i < 33:=of_decide_eq_false h1
    have h2:¬ byteAt s i > 126:=of_decide_eq_false h2
    have h3:byteAt s i ≠ 47:=by simpa using h3
    refine jnC_mk (hC _ _ ⟨rfl,i+1,by omega,by rw [ei i (by omega)],fun j hj=>?_⟩ ?_)
    ·by_cases hji:j=i
     ·subst hji; exact ⟨by omega,by omega,h3⟩
     ·exact hall j (by omega)
    ·show ((s.size:Int) - IntKind.wrap .i64 ((i:Int)+1)).toNat < ((s.size:Int) - (i:Int)).toNat
     rw [ei i (by omega)]; omega
  ·have hge2:¬ (i:Int) < (s.size:Int):=of_decide_eq_false hge
   exact ⟨⟨true,rfl,⟨fun _=>⟨fun j hj=>hall j (by omega),by omega,by omega⟩,fun _=>rfl⟩⟩,rfl⟩
end Go.Proofs.YtodmachaofepkaaGreatDoor
namespace Go.Proofs.YtodmachaofepkaaGreatDoor
open Go.GV Go.RowKit Go.Lib Go.Stb
def nowF (F:Fo):List Nm:=behF F (F.P.length:Nat)
theorem nowF_asc (F:Fo):AscN (nowF F):=behF_asc _ _
theorem nowF_len (F:Fo):(nowF F).length<=F.L.length+F.P.length:=behF_len _ _
theorem fo_new {w:World} {cs:List Value} {K:Nat->World->Prop} (hK:∀ b w',Fr (fun _=>False) w w'->w.heap.size<=b->RecAt w' b 74 cs->K b w'):nw w cs 74 K :=
 nw_mk (hK _ _ (Fr.alloc _ _ _) (Nat.le_refl _) (RecAt.new w cs 74))
theorem rec_rd {w:World} {b:Nat} {e:TypeId} {cs:List Value} (h:RecAt w b e cs):cellsAt w b 0 cs:=h.cells (fun j v hj=>by simpa using hj)
theorem fo_st {w:World} {b:Nat} {e:TypeId} {cs y:List Value} (h:RecAt w b e cs) (hy:y.length=cs.length) (ho:∀ v ∈ y,v.oneCell'=true) {K:World->Prop} (hK:∀ w',Fr (fun k=>k=b) w w'->RecAt w' b e y->K w'):st w b 0 y K :=
 h.st_mk (o:=0) (by omega) ho (fun r2 f2=>hK _ f2 (by rw [splice_full hy] at r2; exact r2))
theorem now_calls (cs:List Value) (F:Fo) (w:World) (h:FoAt w cs F) (hb:FoB F) :
  Calls Tryz.prog 42 #[ofL cs] w fun e w'=>Fr (fun _=>False) w w'/\∃ A' c',e=.returned (.slice A' (nowF F).length c')/\NRow w' w.heap.size A' (nowF F).length c' (nowF F):=by
 refine (F42.of cs w (Q:=fun v w'=>Fr (fun _=>False) w w'/\∃ A' c',v=.slice A' (nowF F).length c'/\NRow w' w.heap.size A' (nowF F).length c' (nowF F)) ?_).mono (fun e w' ⟨v,he,hf,A',c',hv,h⟩=>⟨hf,A',c',by rw [he,hv],h⟩)
 refine fo_new (fun b w1 f1 _ r1=>⟨cs,h.len,rec_rd r1,?_⟩)
 have h1:=h.fr0 f1
 obtain ⟨A,m,c,A',m',c',rfl,hL,hP,hPc⟩:=h
 refine ⟨A',m',c',r1.cell rfl,(beh_calls _ F _ w1 h1 hb).mono ?_⟩
 rintro r w2 ⟨f2,A2,c2,rfl,h2⟩
 have e:behF F ((m':Nat):Int)=nowF F:=by unfold nowF; rw [hP.2]
 rw [e] at h2 ⊢
 exact ⟨_,_,_,rfl,f1.trans1 f2,A2,c2,rfl,row_low f1.size h2.1,h2.2⟩
theorem find_calls (cs:List Value) (F:Fo) (s:ByteArray) (w:World) (h:FoAt w cs F) (hb:FoB F) :
  Calls Tryz.prog 20 #[ofL cs,.string s] w fun e w'=>e=.returned (.tuple #[.int .i64 ((findN s (nowF F)).getD 0),.bool (findN s (nowF F)).isSome])/\Fr (fun _=>False) w w':=by
 refine (F20.of cs s w (Q:=fun v w'=>v=.tuple #[.int .i64 ((findN s (nowF F)).getD 0),.bool (findN s (nowF F)).isSome]/\Fr (fun _=>False) w w') ?_).mono (fun e w' ⟨v,he,hv,h⟩=>⟨by rw [he,hv],h⟩)
 have hnl:=nowF_len F
 have hb':F.L.length+F.P.length<=349525:=hb
 refine fo_new (fun b w1 f1 _ r1=>⟨cs,h.len,rec_rd r1,(now_calls cs F w1 (h.fr0 f1) hb).mono ?_⟩)
 rintro r w2 ⟨f2,A2,c2,rfl,h2⟩
 refine ⟨_,_,_,rfl,(bsN_calls A2 _ c2 _ s w2 h2.sl (nowF_asc F) (by omega)).mono ?_⟩
 rintro r w3 ⟨f3,i,rfl,hp⟩
 have f:=(f1.trans1 f2).trans1 f3
 refine ⟨_,_,rfl,vIf_mk (fun hi=>?_) (fun hi=>?_)⟩
 ·have hi:isN s i (nowF F)=false:=by simpa using hi
  rw [(wo_out hp (nowF_asc F) hi).2]
  exact ⟨rfl,f⟩
 ·have hi:isN s i (nowF F)=true:=by simpa using hi
  obtain ⟨x,hx,hs⟩:=isN_at hi
  refine n_rdI (h2.sl.fr0 f3) hx rfl ?_
  rw [find_in hp hx hs]
  exact ⟨rfl,f⟩
theorem oneP {A A':Option Addr} {n c n' c':Nat}:∀ v ∈ [Value.slice A n c] ++ ([Value.slice A' n' c'] ++ []),v.oneCell'=true:=by
 intro v hv
 simp at hv
 rcases hv with rfl | rfl <;> rfl
theorem fo_of {w:World} {B:Nat} {A:Option Addr} {c:Nat} {l:List Nm} (h:NRow w B A l.length c l):FoAt w [.slice A l.length c,.slice none 0 0] ⟨l,[]⟩ :=
 ⟨A,_,c,none,0,0,rfl,h.sl,⟨Sl.nil _ _ _,rfl⟩,Nat.le_refl _⟩
theorem sync_calls (cs:List Value) (F:Fo) (w:World) (h:FoAt w cs F) (hb:FoB F) :
  Calls Tryz.prog 23 #[ofL cs] w fun e w'=>Fr (fun _=>False) w w'/\∃ cs',e=.returned (ofL cs')/\FoAt w' cs' ⟨nowF F,[]⟩:=by
 refine (F23.of cs w (Q:=fun v w'=>Fr (fun _=>False) w w'/\∃ cs',v=ofL cs'/\FoAt w' cs' ⟨nowF F,[]⟩) ?_).mono (fun e w' ⟨v,he,hf,cs',hv,h⟩=>⟨hf,cs',by rw [he,hv],h⟩)
 refine fo_new (fun b w1 f1 _ r1=>fo_new (fun b3 w2 f2 hb3 r3=>⟨cs,h.len,rec_rd (r1.fr f2 (fun h=>h)),(now_calls cs F w2 (h.fr0 (f1.trans1 f2)) hb).mono ?_⟩))
 rintro r w3 ⟨f3,A3,c3,rfl,h3⟩
 have hs1:=f1.size
 have hs2:=f2.size
 have hlt:=r3.lt
 refine ⟨_,_,_,rfl,gd_mk rfl (fo_st (r3.fr f3 (fun h=>h)) (by rfl) oneP (fun w4 f4 r4=>⟨_,rfl,rec_rd r4,?_,_,rfl,?_⟩))⟩
 ·exact ((f1.trans1 f2).trans1 f3).trans f4 (fun _ _ h=>h) (fun k hk h=>by omega)
 ·exact fo_of (B:=w2.heap.size) ⟨f4.row h3.1 (fun k hk h=>by have:=(h3.1.blt hk).1; omega),h3.2⟩
end Go.Proofs.YtodmachaofepkaaGreatDoor
namespace Go.Proofs.YtodmachaofepkaaGreatDoor
open Go.GV Go.RowKit Go.Lib
def addS (n:Int) (s:List Int×Bool) (x:Int):List Int×Bool :=
 if !s.2 && decide (n<=x) then ((if n < x then s.1 ++ [n] else s.1) ++ [x],true) else (s.1 ++ [x],s.2)
def addI (l:List Int) (n:Int):List Int :=
 if (l.foldl (addS n) ([],false)).2 then (l.foldl (addS n) ([],false)).1 else (l.foldl (addS n) ([],false)).1 ++ [n]
def addR (n:Int):List Int->List Int
 | []=>[n]
 | x :: xs=>if n<=x then (if n < x then n :: x :: xs else x :: xs) else x :: addR n xs
theorem addS_done (n:Int):∀ (l o:List Int),l.foldl (addS n) (o,true)=(o ++ l,true)
 | [],o=>by simp
 | x :: xs,o=>by
  show xs.foldl (addS n) (addS n (o,true) x)=_
  have:addS n (o,true) x=(o ++ [x],true):=by simp [addS]
  rw [this,addS_done n xs (o ++ [x])]
  simp
theorem addS_fold (n:Int):∀ (l o:List Int),(if (l.foldl (addS n) (o,false)).2 then (l.foldl (addS n) (o,false)).1 else (l.foldl (addS n) (o,false)).1 ++ [n])=o ++ addR n l
 | [],o=>by simp [addR]
 | x :: xs,o=>by
  show (if (xs.foldl (addS n) (addS n (o,false) x)).2 then (xs.foldl (addS n) (addS n (o,false) x)).1 else (xs.foldl (addS n) (addS n (o,false) x)).1 ++ [n])=_
  unfold addR
  by_cases h:n<=x
  ·have e:addS n (o,false) x=((if n < x then o ++ [n] else o) ++ [x],true):=by simp [addS,h]
   rw [e,addS_done]
   rw [if_pos rfl,if_pos h]
   by_cases h2:n < x
   ·rw [if_pos h2,if_pos h2]; simp
   ·rw [if_neg h2,if_neg h2]; simp
  ·have e:addS n (o,false) x=(o ++ [x],false):=by simp [addS,h]
   rw [e,addS_fold n xs (o ++ [x]),if_neg h]
   simp
theorem addI_eq (l:List Int) (n:Int):addI l n=addR n l:=addS_fold n l []
theorem addR_mem (n:Int):∀ (l:List Int) (y:Int),y ∈ addR n l ↔ y=n\/y ∈ l
 | [],y=>by simp [addR]
 | x :: xs,y=>by
  unfold addR
  by_cases h:n<=x
  ·rw [if_pos h]
   by_cases h2:n < x
   ·rw [if_pos h2]; simp
   ·rw [if_neg h2]
    have:n=x:=by omega
    subst this
    simp
  ·rw [if_neg h]
   simp only [List.mem_cons,addR_mem n xs y]
   constructor
   ·rintro (h1 | h1 | h1)
    ·exact .inr (.inl h1)
    ·exact .inl h1
    ·exact .inr (.inr h1)
   ·rintro (h1 | h1 | h1)
    ·exact .inr (.inl h1)
    ·exact .inl h1
    ·exact .inr (.inr h1)
def AscI (l:List Int):Prop:=l.Pairwise (· < ·)
theorem addR_asc (n:Int):∀ {l:List Int},AscI l->AscI (addR n l)
 | [],_=>List.pairwise_singleton _ _
 | x :: xs,h=>by
  unfold addR
  have hc:=List.pairwise_cons.1 h
  by_cases h1:n<=x
  ·rw [if_pos h1]
   by_cases h2:n < x
   ·rw [if_pos h2]
    refine List.pairwise_cons.2 ⟨fun y hy=>?_,h⟩
    rcases List.mem_cons.1 hy with rfl | hy
    ·exact h2
    ·have:=hc.1 y hy; omega
   ·rw [if_neg h2]; exact h
  ·rw [if_neg h1]
   refine List.pairwise_cons.2 ⟨fun y hy=>?_,addR_asc n hc.2⟩
   rcases (addR_mem n xs y).1 hy with rfl | hy
   ·omega
   ·exact hc.1 y hy
theorem AscI.unique:∀ {a b:List Int},AscI a->AscI b->(∀ x,x ∈ a ↔ x ∈ b)->a=b
 | [],[],_,_,_=>rfl
 | [],y :: ys,_,_,h=>absurd ((h y).2 (List.mem_cons_self ..)) (by simp)
 | x :: xs,[],_,_,h=>absurd ((h x).1 (List.mem_cons_self ..)) (by simp)
 | x :: xs,y :: ys,ha,hb,h=>by
  have ha':=List.pairwise_cons.1 ha
  have hb':=List.pairwise_cons.1 hb
  have hxy:x=y:=by
   rcases List.mem_cons.1 ((h x).1 (List.mem_cons_self ..)) with e | e
   ·exact e
   ·rcases List.mem_cons.1 ((h y).2 (List.mem_cons_self ..)) with e' | e'
    ·exact e'.symm
    ·have:=hb'.1 x e; have:=ha'.1 y e'; omega
  subst hxy
  congr 1
  refine AscI.unique ha'.2 hb'.2 (fun z=>?_)
  constructor
  ·intro hz
   rcases List.mem_cons.1 ((h z).1 (List.mem_cons_of_mem _ hz)) with e | e
   ·subst e; have:=ha'.1 z hz; omega
   ·exact e
  ·intro hz
   rcases List.mem_cons.1 ((h z).2 (List.mem_cons_of_mem _ hz)) with e | e
   ·subst e; have:=hb'.1 z hz; omega
   ·exact e
def norm (l:List Int):List Int:=l.foldl addI []
theorem norm_both:∀ (l:List Int) (acc:List Int),AscI acc->AscI (l.foldl addI acc)/\∀ y,y ∈ l.foldl addI acc ↔ y ∈ acc\/y ∈ l
 | [],acc,h=>⟨h,by simp⟩
 | x :: xs,acc,h=>by
  obtain ⟨h1,h2⟩:=norm_both xs (addI acc x) (by rw [addI_eq]; exact addR_asc x h)
  refine ⟨h1,fun y=>?_⟩
  show y ∈ xs.foldl addI (addI acc x) ↔ _
  rw [h2,addI_eq,addR_mem,List.mem_cons]
  constructor
  ·rintro ((h3 | h3) | h3)
   ·exact .inr (.inl h3)
   ·exact .inl h3
   ·exact .inr (.inr h3)
  ·rintro (h3 | h3 | h3)
   ·exact .inl (.inr h3)
   ·exact .inl (.inl h3)
   ·exact .inr h3
theorem norm_asc (l:List Int):AscI (norm l):=(norm_both l [] List.Pairwise.nil).1
theorem norm_mem (l:List Int) (y:Int):y ∈ norm l ↔ y ∈ l:=by rw [norm,(norm_both l [] List.Pairwise.nil).2]; simp
end Go.Proofs.YtodmachaofepkaaGreatDoor
namespace Go.Proofs.YtodmachaofepkaaGreatDoor
open Go.GV Go.RowKit Go.Lib Go.Stb
def idsU (F:Fo):Nat->List Int
 | 0=>[]
 | n+1=>idsU F n ++ (behF F (n:Nat)).map (·.2)
def idsF (F:Fo):List Int:=norm (idsU F (F.P.length+1))
end Go.Proofs.YtodmachaofepkaaGreatDoor
namespace Go.Proofs.YtodmachaofepkaaGreatDoor
open Go.GV Go.RowKit Go.Lib
def chk (sz:Nat) (vs:List Value) (i:Nat):List Value:=(vs.drop (i * sz)).take sz
theorem chk_get {sz:Nat} {vs:List Value} {i j:Nat} (hj:j < sz):(chk sz vs i)[j]?=vs[i * sz+j]?:=by
 unfold chk
 rw [List.getElem?_take,if_pos hj,List.getElem?_drop]
theorem chk_len {sz:Nat} {vs:List Value} {n i:Nat} (h:vs.length=n * sz) (hi:i < n):(chk sz vs i).length=sz:=by
 have hm:(i+1) * sz<=n * sz:=Nat.mul_le_mul_right _ hi
 rw [Nat.add_mul] at hm
 unfold chk
 rw [List.length_take,List.length_drop]; omega
def Ech {α:Type} (sz:Nat) (P:List Value->α->Prop) (vs:List Value) (l:List α):Prop:=∀ i x,l[i]?=some x->P (chk sz vs i) x
theorem Ech.nil {α:Type} {sz:Nat} {P:List Value->α->Prop} {vs:List Value}:Ech sz P vs ([]:List α):=fun i x h=>by simp at h
theorem Ech.mono {α:Type} {sz:Nat} {P Q:List Value->α->Prop} {vs:List Value} {l:List α} (h:Ech sz P vs l) (hPQ:∀ cs x,P cs x->Q cs x):Ech sz Q vs l:=fun i x hi=>hPQ _ _ (h i x hi)
theorem ech_rd {α:Type} {sz:Nat} {P:List Value->α->Prop} {w:World} {A:Option Addr} {n:Nat} {vs:List Value} {l:List α} (h:Sl w sz A n vs) (he:Ech sz P vs l) (hsz:sz ≠ 0) {i:Nat} {x:α} (hi:l[i]?=some x) (hin:i < n) :
  ∃ b o,A=some ⟨b,o,none⟩/\cellsAt w b (o+i * sz) (chk sz vs i)/\(chk sz vs i).length=sz/\P (chk sz vs i) x:=by
 have hl:=h.1
 have hm:(i+1) * sz<=n * sz:=Nat.mul_le_mul_right _ hin
 rw [Nat.add_mul] at hm
 obtain ⟨b,o,hA,hc⟩:=h.2 (by omega)
 refine ⟨b,o,hA,fun j v hj=>?_,chk_len hl hin,he i x hi⟩
 have hjl:=(List.getElem?_eq_some_iff.1 hj).1
 rw [chk_len hl hin] at hjl
 rw [chk_get hjl] at hj
 rw [Nat.add_assoc]
 exact hc _ v hj
theorem el_all {α:Type} {sz:Nat} {P:List Value->α->Prop} {w:World} {A:Option Addr} {n:Nat} {vs:List Value} {l:List α} (h:Sl w sz A n vs) (he:Ech sz P vs l) (hsz:sz ≠ 0) {i:Nat} {x:α} (hi:l[i]?=some x) (hin:i < n) {K:List Value->Prop} (hK:∀ cs,cs.length=sz->P cs x->K cs) :
  dr A fun b o=>gd (decide (0<=(i:Int))) (gd (decide ((i:Int) < ((n:Nat):Int))) (ldA sz w b (o+((i:Int)).toNat * sz) K)):=by
 obtain ⟨b,o,rfl,h1,h2,h3⟩:=ech_rd h he hsz hi hin
 refine dr_mk (gd_mk (decide_eq_true (by omega)) (gd_mk (decide_eq_true (by omega)) ⟨_,h2,?_,hK _ h2 h3⟩))
 rw [Int.toNat_natCast]; exact h1
end Go.Proofs.YtodmachaofepkaaGreatDoor
namespace Go.Proofs.YtodmachaofepkaaGreatDoor
open Go.GV
abbrev Bs:=List UInt8
structure Wr where
 cut:Bool
 off:Int
 data:Bs
def rightW (x:Wr):Bool:=decide (x.off >= 0) && decide (x.off<=1048576 - (x.data.length:Int))
def over (b:Bs) (o:Nat) (d:Bs):Bs:=(b ++ List.replicate (o - b.length) 0).take o ++ d ++ b.drop (o+d.length)
def applyW (b:Bs) (x:Wr):Bs :=
 if rightW x=false\/(x.cut=false/\x.data=[]) then b
 else if x.cut then b.take x.off.toNat
 else over b x.off.toNat x.data
def allW (b:Bs) (l:List Wr):Bs:=l.foldl applyW b
def endW (n:Int) (x:Wr):Int:=if rightW x=true/\x.cut=false/\x.data ≠ [] then (if n < x.off+(x.data.length:Int) then x.off+(x.data.length:Int) else n) else n
def peakW (n:Int) (l:List Wr):Int:=l.foldl endW n
theorem over_len (b:Bs) (o:Nat) (d:Bs):(over b o d).length=max b.length (o+d.length):=by
 unfold over
 simp only [List.length_append,List.length_take,List.length_drop,List.length_replicate]
 omega
theorem over_get (b:Bs) (o:Nat) (d:Bs) (j:Nat):(over b o d)[j]?=if j < o then (if j < b.length then b[j]? else some 0) else if j < o+d.length then d[j - o]? else b[j]?:=by
 have hl:((b ++ List.replicate (o - b.length) (0:UInt8)).take o).length=o:=by
  rw [List.length_take,List.length_append,List.length_replicate]; omega
 unfold over
 by_cases h1:j < o
 ·rw [if_pos h1,List.append_assoc,List.getElem?_append_left (by rw [hl]; exact h1),List.getElem?_take,if_pos h1]
  by_cases h2:j < b.length
  ·rw [if_pos h2,List.getElem?_append_left h2]
  ·rw [if_neg h2,List.getElem?_append_right (by omega),List.getElem?_replicate,if_pos (by omega)]
 ·rw [if_neg h1]
  by_cases h2:j < o+d.length
  ·rw [if_pos h2,List.append_assoc,List.getElem?_append_right (by rw [hl]; omega),hl,List.getElem?_append_left (by omega)]
  ·rw [if_neg h2,List.getElem?_append_right (by rw [List.length_append,hl]; omega),List.length_append,hl,List.getElem?_drop]
   congr 1; omega
theorem right_iff {x:Wr}:rightW x=true ↔ 0<=x.off/\x.off<=1048576 - (x.data.length:Int):=by
 unfold rightW
 rw [Bool.and_eq_true,decide_eq_true_iff,decide_eq_true_iff]
theorem endW_ge (n:Int) (x:Wr):n<=endW n x:=by
 unfold endW
 split
 ·split <;> omega
 ·omega
theorem endW_mono {m n:Int} (h:m<=n) (x:Wr):endW m x<=endW n x:=by
 unfold endW
 split
 ·split <;> split <;> omega
 ·exact h
theorem peakW_mono (l:List Wr):∀ {m n:Int},m<=n->peakW m l<=peakW n l:=by
 induction l with
 | nil=>intro m n h; exact h
 | cons x l ih=>intro m n h; exact ih (endW_mono h x)
theorem allW_snoc (b:Bs) (l:List Wr) (x:Wr):allW b (l ++ [x])=applyW (allW b l) x:=by simp [allW]
theorem endW_le {n:Int} (h:n<=1048576) (x:Wr):endW n x<=1048576:=by
 unfold endW
 split
 ·rename_i hx
  have:=right_iff.1 hx.1
  split <;> omega
 ·exact h
theorem peakW_le (l:List Wr):∀ {n:Int},n<=1048576->peakW n l<=1048576:=by
 induction l with
 | nil=>intro n h; exact h
 | cons x l ih=>intro n h; exact ih (endW_le h x)
theorem applyW_len (b:Bs) (x:Wr):((applyW b x).length:Int)<=endW b.length x:=by
 unfold applyW
 by_cases h:rightW x=false\/(x.cut=false/\x.data=[])
 ·rw [if_pos h]; exact endW_ge _ _
 ·rw [if_neg h]
  have h1:rightW x=true:=by
   cases hr:rightW x with
   | true=>rfl
   | false=>exact absurd (.inl hr) h
  by_cases hc:x.cut=true
  ·rw [if_pos hc]
   have:=endW_ge (b.length:Int) x
   rw [List.length_take]; omega
  ·rw [if_neg hc,over_len]
   have hc:x.cut=false:=by simpa using hc
   have hd:x.data ≠ []:=fun hd=>h (.inr ⟨hc,hd⟩)
   unfold endW
   rw [if_pos ⟨h1,hc,hd⟩]
   have:=right_iff.1 h1
   split <;> omega
theorem allW_len (l:List Wr):∀ b:Bs,((allW b l).length:Int)<=peakW b.length l:=by
 induction l with
 | nil=>intro b; exact Int.le_refl _
 | cons x l ih =>
  intro b
  exact Int.le_trans (ih (applyW b x)) (peakW_mono l (applyW_len b x))
structure Ino where
 b:Bs
 p:List Wr
def nowI (x:Ino):Bs:=allW x.b x.p
structure InoB (x:Ino):Prop where
 b:x.b.length<=1048576
 d:∀ y ∈ x.p,y.data.length<=1048576
theorem now_le {x:Ino} (h:InoB x):(nowI x).length<=1048576:=by
 have h1:=allW_len x.p x.b
 have h2:=peakW_le x.p (n:=(x.b.length:Int)) (by have:=h.b; omega)
 unfold nowI
 omega
def syncI (x:Ino):Ino:=⟨nowI x,[]⟩
end Go.Proofs.YtodmachaofepkaaGreatDoor
namespace Go.Proofs.YtodmachaofepkaaGreatDoor
open Go.GV Go.RowKit Go.Lib
abbrev bys (b:Bs):List Value:=b.map bv
def WrP (w:World) (cs:List Value) (x:Wr):Prop:=∃ (B:Option Addr) (m k:Nat),cs=[.bool x.cut,.int .i64 x.off,.slice B m k]/\Sl w 1 B m (bys x.data)/\m<=k
def WSl (w:World) (A:Option Addr) (n:Nat) (l:List Wr):Prop:=∃ vs,Sl w 3 A n vs/\l.length=n/\Ech 3 (WrP w) vs l
def InoAt (w:World) (cs:List Value) (x:Ino):Prop:=∃ (A:Option Addr) (n c:Nat) (A':Option Addr) (n' c':Nat),cs=[.slice A n c,.slice A' n' c']/\Sl w 1 A n (bys x.b)/\n<=c/\WSl w A' n' x.p/\n'<=c'
theorem by_n {w:World} {A:Option Addr} {n:Nat} {b:Bs} (h:Sl w 1 A n (bys b)):b.length=n:=by
 have:=h.1
 simp [bys] at this
 omega
structure Alien (w:World) (b:Nat):Prop where
 s:∀ o x,cellAt w b o ≠ some (.string x)
 u:∀ o x,cellAt w b o ≠ some (.int .u8 x)
 t:∀ o t x A n c,¬ (cellAt w b o=some (.bool t)/\cellAt w b (o+1)=some (.int .i64 x)/\cellAt w b (o+2)=some (.slice A n c))
theorem by_ne {w:World} {A:Option Addr} {n:Nat} {b:Bs} (h:Sl w 1 A n (bys b)) (h0:n ≠ 0) {k:Nat} (hk:blkOf A=some k):¬ Alien w k:=by
 intro ha
 have hl:=by_n h
 obtain ⟨b',o,rfl,hc⟩:=h.2 (by omega)
 injection hk with hk
 have hk:b'=k:=hk
 subst hk
 cases hb:b with
 | nil=>rw [hb] at hl; simp at hl; omega
 | cons x r=>exact ha.u (o+0) x.toNat (hc 0 _ (by rw [hb]; rfl))
theorem by_fr {S:Nat->Prop} {w w':World} {A:Option Addr} {n:Nat} {b:Bs} (h:Sl w 1 A n (bys b)) (f:Fr S w w') (hS:∀ k,S k->Alien w k):Sl w' 1 A n (bys b) :=
 f.sl h (fun h0 k hk hs=>by_ne h h0 hk (hS k hs))
theorem WrP.fr {S:Nat->Prop} {w w':World} {cs:List Value} {x:Wr} (h:WrP w cs x) (f:Fr S w w') (hS:∀ k,S k->Alien w k):WrP w' cs x:=by
 obtain ⟨B,m,k,e,h1,h2⟩:=h
 exact ⟨B,m,k,e,by_fr h1 f hS,h2⟩
theorem WSl.fr {S:Nat->Prop} {w w':World} {A:Option Addr} {n:Nat} {l:List Wr} (h:WSl w A n l) (f:Fr S w w') (hS:∀ k,S k->Alien w k):WSl w' A n l:=by
 obtain ⟨vs,h1,h2,h3⟩:=h
 refine ⟨vs,f.sl h1 (fun h0 k hk hs=>?_),h2,h3.mono (fun cs x hx=>hx.fr f hS)⟩
 have ha:=hS k hs
 have hn:0 < n:=by omega
 have gx:l[0]?=some (l[0]'(by omega)):=List.getElem?_eq_getElem (by omega)
 obtain ⟨b,o,rfl,hc,hl,B,m,k',e,_⟩:=ech_rd h1 h3 (by omega) gx hn
 injection hk with hk
 have hk:b=k:=hk
 subst hk
 rw [e] at hc
 have c0:cellAt w b (o+0 * 3+0)=some (.bool (l[0]'(by omega)).cut):=hc 0 _ rfl
 have c1:cellAt w b (o+0 * 3+0+1)=some (.int .i64 (l[0]'(by omega)).off):=hc 1 _ rfl
 have c2:cellAt w b (o+0 * 3+0+2)=some (.slice B m k'):=hc 2 _ rfl
 exact ha.t _ _ _ _ _ _ ⟨c0,c1,c2⟩
theorem InoAt.fr {S:Nat->Prop} {w w':World} {cs:List Value} {x:Ino} (h:InoAt w cs x) (f:Fr S w w') (hS:∀ k,S k->Alien w k):InoAt w' cs x:=by
 obtain ⟨A,n,c,A',n',c',e,h1,h2,h3,h4⟩:=h
 exact ⟨A,n,c,A',n',c',e,by_fr h1 f hS,h2,h3.fr f hS,h4⟩
theorem InoAt.fr0 {w w':World} {cs:List Value} {x:Ino} (h:InoAt w cs x) (f:Fr (fun _=>False) w w'):InoAt w' cs x:=h.fr f (fun _ h=>h.elim)
theorem WSl.fr0 {w w':World} {A:Option Addr} {n:Nat} {l:List Wr} (h:WSl w A n l) (f:Fr (fun _=>False) w w'):WSl w' A n l:=h.fr f (fun _ h=>h.elim)
theorem WrP.fr0 {w w':World} {cs:List Value} {x:Wr} (h:WrP w cs x) (f:Fr (fun _=>False) w w'):WrP w' cs x:=h.fr f (fun _ h=>h.elim)
theorem nsl_fr {S:Nat->Prop} {w w':World} {A:Option Addr} {n:Nat} {l:List Nm} (h:NSl w A n l) (f:Fr S w w') (hS:∀ k,S k->Alien w k):NSl w' A n l:=by
 refine ⟨f.sl h.1 (fun h0 k hk hs=>?_),h.2⟩
 have ha:=hS k hs
 have hl:=h.2
 obtain ⟨b,o,rfl,hc⟩:=h.1.2 (by omega)
 injection hk with hk
 have hk:b=k:=hk
 subst hk
 cases hb:l with
 | nil=>rw [hb] at hl; simp at hl; omega
 | cons x r=>exact ha.s (o+0) x.1 (hc 0 _ (by rw [hb,flt_cons]; rfl))
theorem csl_fr {S:Nat->Prop} {w w':World} {A:Option Addr} {n:Nat} {l:List Ch} (h:CSl w A n l) (f:Fr S w w') (hS:∀ k,S k->Alien w k):CSl w' A n l:=by
 refine ⟨f.sl h.1 (fun h0 k hk hs=>?_),h.2⟩
 have ha:=hS k hs
 have hl:=h.2
 obtain ⟨b,o,rfl,hc⟩:=h.1.2 (by omega)
 injection hk with hk
 have hk:b=k:=hk
 subst hk
 cases hb:l with
 | nil=>rw [hb] at hl; simp at hl; omega
 | cons x r=>exact ha.s (o+1) x.nm (hc 1 _ (by rw [hb,flt_cons]; rfl))
theorem fo_fr {S:Nat->Prop} {w w':World} {cs:List Value} {F:Fo} (h:FoAt w cs F) (f:Fr S w w') (hS:∀ k,S k->Alien w k):FoAt w' cs F:=by
 obtain ⟨A,n,c,A',n',c',e,h1,h2,h3⟩:=h
 exact ⟨A,n,c,A',n',c',e,nsl_fr h1 f hS,csl_fr h2 f hS,h3⟩
theorem map_alien {w:World} {r:Nat} {f:Int->Option Value} (h:MapI w r f):Alien w r:=by
 obtain ⟨m,c,h,_⟩:=h
 have h:w.heap[r]?=some (.map (m.map (mkE .i64)).toArray c):=h
 have e:∀ o,cellAt w r o=none:=fun o=>by
  unfold cellAt World.cell?
  simp only [h]
 exact ⟨fun o x hx=>(by rw [e] at hx; cases hx),fun o x hx=>(by rw [e] at hx; cases hx),fun o t x A n c hx=>(by rw [e] at hx; cases hx.1)⟩
theorem wr_one {w:World} {cs:List Value} {x:Wr} (h:WrP w cs x):cs.length=3/\∀ v ∈ cs,v.oneCell'=true:=by
 obtain ⟨B,m,k,rfl,_⟩:=h
 refine ⟨rfl,fun v hv=>?_⟩
 simp only [List.mem_cons,List.not_mem_nil,or_false] at hv
 rcases hv with rfl | rfl | rfl <;> rfl
theorem sl_nil0 {w:World} {A:Option Addr} {n:Nat} {vs:List Value} (h:Sl w 1 A n vs) (hA:A=none):n=0:=by
 by_cases h0:n=0
 ·exact h0
 ·obtain ⟨b,o,h1,_⟩:=h.2 h0
  rw [hA] at h1; cases h1
theorem clone_by (A:Option Addr) (n c:Nat) (b:Bs) (w:World) (h:Sl w 1 A n (bys b)) (hn:n<=1099511627776) :
  Calls Tryz.prog 81 #[.slice A n c] w fun e w'=>Fr (fun _=>False) w w'/\∃ A' c',e=.returned (.slice A' n c')/\Row w' w.heap.size 5 1 A' n c' (bys b):=by
 refine (F81.of A n c w (Q:=fun v w'=>Fr (fun _=>False) w w'/\∃ A' c',v=.slice A' n c'/\Row w' w.heap.size 5 1 A' n c' (bys b)) ?_).mono (fun e w' ⟨v,he,hf,A',c',hv,h⟩=>⟨hf,A',c',by rw [he,hv],h⟩)
 have hl:=by_n h
 refine vIf_mk (fun hA=>?_) (fun hA=>nw_mk ?_)
 ·have hA:A=none:=by simpa using hA
  have:=sl_nil0 h hA
  subst this
  have:b=[]:=List.length_eq_zero_iff.1 hl
  subst this
  exact ⟨Fr.refl _ _,none,0,rfl,Row.nil _ _ _ _⟩
 ·have f1:Fr (fun _=>False) w (w.alloc (.cells ([]:List Value).toArray 5)):=Fr.alloc _ _ _
  have r1:Row (w.alloc (.cells ([]:List Value).toArray 5)) w.heap.size 5 1 (some ⟨w.heap.size,0,none⟩) 0 0 []:=Row.new (Nat.le_refl _) rfl
  refine app_row r1 (f1.sl h (fun _ _ _ h=>h)).src (bvs_one b) rfl (by omega) (by omega) f1.size ?_
  intro A' c' w2 r2 f2
  rw [Nat.zero_add] at r2 ⊢
  rw [List.nil_append] at r2
  exact ⟨f1.trans f2 (fun _ _ h=>h) (fun k hk h=>by simp only [blkOf,Option.some.injEq] at h; omega),A',c',rfl,r2⟩
theorem right_calls (cs:List Value) (x:Wr) (w:World) (h:WrP w cs x) (hd:x.data.length<=1099511627776) :
  Calls Tryz.prog 140 #[ofL cs] w fun e w'=>e=.returned (.bool (rightW x))/\Fr (fun _=>False) w w':=by
 refine (F140.of cs w (Q:=fun v w'=>v=.bool (rightW x)/\Fr (fun _=>False) w w') ?_).mono (fun e w' ⟨v,he,hv,h⟩=>⟨by rw [he,hv],h⟩)
 obtain ⟨B,m,k,rfl,h1,h2⟩:=h
 have hm:=by_n h1
 refine nw_mk ?_
 have q:=RecAt.new w ([.bool x.cut,.int .i64 x.off,.slice B m k]:List Value) 182
 have f1:Fr (fun _=>False) w (w.alloc (.cells ([.bool x.cut,.int .i64 x.off,.slice B m k]:List Value).toArray 182)):=Fr.alloc _ _ _
 have ew:IntKind.wrap .i64 (1048576 - ((m:Nat):Int))=1048576 - (m:Int):=i64_id (by omega) (by omega)
 refine ⟨_,q.cell (o:=0+1) rfl,vIf_mk (fun h=>⟨_,q.cell (o:=0+1) rfl,_,_,_,q.cell (o:=0+2) rfl,?_,f1⟩) (fun h=>⟨?_,f1⟩)⟩
 ·unfold rightW
  rw [h,Bool.true_and,ew,hm]
 ·unfold rightW
  rw [h,Bool.false_and]
theorem over_cells (b d:Bs) (o:Nat):splice (bys b ++ zeros (max b.length (o+d.length) - b.length) [Value.int .u8 0]) o (bys d)=bys (over b o d):=by
 have hl:(bys b ++ zeros (max b.length (o+d.length) - b.length) [Value.int .u8 0]).length=max b.length (o+d.length):=by
  rw [List.length_append,zeros_length]; simp [bys]; omega
 have hfit:o+(bys d).length<=(bys b ++ zeros (max b.length (o+d.length) - b.length) [Value.int .u8 0]).length:=by
  rw [hl]; simp [bys]; omega
 apply List.ext_getElem?
 intro j
 rw [splice_get hfit]
 have e:(bys (over b o d))[j]?=((over b o d)[j]?).map bv:=by simp [bys]
 rw [e,over_get]
 have hd:(bys d).length=d.length:=by simp [bys]
 have hb:(bys b).length=b.length:=by simp [bys]
 have zer:∀ i,i < max b.length (o+d.length) - b.length->(zeros (max b.length (o+d.length) - b.length) [Value.int .u8 0])[i]?=some (bv 0):=fun i hi=>by
  have h:=zeros_get [Value.int .u8 0] (max b.length (o+d.length) - b.length) i (by simpa using hi)
  rw [h]; simp [Nat.mod_one]; rfl
 rw [hd]
 by_cases h1:j < o
 ·rw [if_pos h1,if_pos h1]
  by_cases h2:j < b.length
  ·rw [if_pos h2,List.getElem?_append_left (by omega)]; simp [bys]
  ·rw [if_neg h2]
   rw [List.getElem?_append_right (by omega),hb,zer _ (by omega)]; rfl
 ·rw [if_neg h1,if_neg h1]
  by_cases h2:j < o+d.length
  ·rw [if_pos h2,if_pos h2]; simp [bys]
  ·rw [if_neg h2,if_neg h2]
   by_cases h3:j < b.length
   ·rw [List.getElem?_append_left (by omega)]; simp [bys]
   ·rw [List.getElem?_eq_none (by rw [hl]; omega),List.getElem?_eq_none (by omega)]; rfl
set_option maxHeartbeats 1000000 in
theorem apply_calls (A:Option Addr) (n c:Nat) (b:Bs) (cs:List Value) (x:Wr) (w:World) (h:Sl w 1 A n (bys b)) (hc:n<=c) (hx:WrP w cs x) (hn:n<=1099511627776) (hd:x.data.length<=1099511627776) :
  Calls Tryz.prog 124 #[.slice A n c,ofL cs] w fun e w'=>Fr (fun _=>False) w w'/\∃ A' c',e=.returned (.slice A' (applyW b x).length c')/\Row w' w.heap.size 5 1 A' (applyW b x).length c' (bys (applyW b x)):=by
 refine (F124.of A n c cs w (Q:=fun v w'=>Fr (fun _=>False) w w'/\∃ A' c',v=.slice A' (applyW b x).length c'/\Row w' w.heap.size 5 1 A' (applyW b x).length c' (bys (applyW b x))) ?_).mono (fun e w' ⟨v,he,hf,A',c',hv,h⟩=>⟨hf,A',c',by rw [he,hv],h⟩)
 have hl:=by_n h
 have hone:=wr_one hx
 refine nw_mk ?_
 have q:=RecAt.new w cs 182
 have f1:Fr (fun _=>False) w (w.alloc (.cells cs.toArray 182)):=Fr.alloc _ _ _
 have s1:(w.alloc (.cells cs.toArray 182)).heap.size=w.heap.size+1:=alloc_size _ _
 generalize hb1:w.heap.size=b1 at q s1
 generalize w.alloc (.cells cs.toArray 182)=w2 at f1 q s1 ⊢
 refine ⟨cs,hone.1,q.cells (fun j v hj=>by rw [Nat.zero_add]; exact hj),(right_calls cs x w2 (hx.fr0 f1) hd).mono ?_⟩
 rintro e w4 ⟨rfl,f4⟩
 have q:=q.fr f4 (fun h=>h)
 have f:=f1.trans1 f4
 have hx4:=hx.fr0 f
 have h4:=f.sl h (fun _ _ _ h=>h)
 have hs4:=f.size
 obtain ⟨B,m,k,ecs,hB,hmk⟩:=hx4
 subst ecs
 have hm:=by_n hB
 have same:applyW b x=b->jnC (F124.k2 (fun v w'=>Fr (fun _=>False) w w'/\∃ A' c',v=.slice A' (applyW b x).length c'/\Row w' b1 5 1 A' (applyW b x).length c' (bys (applyW b x)))) ((A,n,c),(b1,0),true,()) w4:=by
  intro e
  refine jnC_mk (fun _=>vIf_t rfl ((clone_by A n c b w4 h4 hn).mono ?_))
  rintro r w5 ⟨f5,A',c',rfl,h5⟩
  refine ⟨_,_,_,rfl,f.trans1 f5,A',c',by rw [e,hl],?_⟩
  rw [e,hl]
  refine ⟨h5.len,h5.le,?_⟩
  rcases h5.at_ with h' | ⟨b',cs',q1,q2,q3⟩
  ·exact .inl h'
  ·exact .inr ⟨b',cs',q1,by omega,q3⟩
 have some:rightW x=true->(x.cut=false->x.data ≠ [])->jnC (F124.k2 (fun v w'=>Fr (fun _=>False) w w'/\∃ A' c',v=.slice A' (applyW b x).length c'/\Row w' b1 5 1 A' (applyW b x).length c' (bys (applyW b x)))) ((A,n,c),(b1,0),false,()) w4:=by
  intro hr hne
  have hro:=right_iff.1 hr
  have hno:¬ (rightW x=false\/(x.cut=false/\x.data=[])):=fun h=>h.elim (fun h=>by rw [hr] at h; cases h) (fun h=>hne h.1 h.2)
  refine jnC_mk (fun _=>vIf_f rfl ⟨_,q.cell (o:=0) rfl,vIf_mk (fun hcut=>⟨_,q.cell (o:=0+1) rfl,?_⟩) (fun hcut=>jnC_mk (fun _=>⟨_,q.cell (o:=0+1) rfl,_,_,_,q.cell (o:=0+2) rfl,?_⟩))⟩)
  ·have e:applyW b x=b.take x.off.toNat:=by
    unfold applyW
    rw [if_neg hno,if_pos hcut]
   obtain ⟨t,ht,htn,hte⟩:∃ t:Nat,(if ((n:Nat):Int) < x.off then ((n:Nat):Int) else x.off)=(t:Int)/\t<=n/\b.take x.off.toNat=b.take t:=by
    by_cases h0:(n:Int) < x.off
    ·exact ⟨n,by rw [if_pos h0],Nat.le_refl _,by rw [List.take_of_length_le (by omega),List.take_of_length_le (by omega)]⟩
    ·exact ⟨x.off.toNat,by rw [if_neg h0]; omega,by omega,rfl⟩
   dsimp only
   rw [ht]
   have hsl:=sl_cut0 (c:=c) h4 htn
   have hsl:Sl w4 1 (slA A c 0 1) t (bys (b.take t)):=by
    have e2:bys (b.take t)=(bys b).take (t * 1):=by simp [bys,List.map_take]
    rw [e2]; exact hsl
   refine gd_mk (decide_eq_true (by omega)) (gd_mk (decide_eq_true (by omega)) ?_)
   rw [Int.toNat_natCast]
   refine (clone_by (slA A c 0 1) t c (b.take t) w4 hsl (by omega)).mono ?_
   rintro r w5 ⟨f5,A',c',rfl,h5⟩
   have hlt:(b.take t).length=t:=by rw [List.length_take]; omega
   refine ⟨_,_,_,rfl,f.trans1 f5,A',c',by rw [e,hte,hlt],?_⟩
   rw [e,hte,hlt]
   refine ⟨h5.len,h5.le,?_⟩
   rcases h5.at_ with h' | ⟨b',cs',q1,q2,q3⟩
   ·exact .inl h'
   ·exact .inr ⟨b',cs',q1,by omega,q3⟩
  ·have hcut:x.cut=false:=hcut
   have e:applyW b x=over b x.off.toNat x.data:=by
    unfold applyW
    rw [if_neg hno,if_neg (by rw [hcut]; decide)]
   obtain ⟨o,ho⟩:∃ o:Nat,x.off=(o:Int):=⟨x.off.toNat,by omega⟩
   have hol:o+m<=1048576:=by omega
   have ew:IntKind.wrap .i64 (x.off+((m:Nat):Int))=((o+m:Nat):Int):=by rw [i64_id (by omega) (by omega)]; omega
   obtain ⟨N,hN,hNe⟩:∃ N:Nat,(if ((n:Nat):Int) < IntKind.wrap .i64 (x.off+((m:Nat):Int)) then IntKind.wrap .i64 (x.off+((m:Nat):Int)) else ((n:Nat):Int))=(N:Int)/\N=max n (o+m):=by
    rw [ew]
    refine ⟨max n (o+m),?_,rfl⟩
    split <;> omega
   dsimp only
   rw [hN]
   refine gd_mk (decide_eq_true (by omega)) (gd_mk (decide_eq_true (by omega)) (gd_mk (decide_eq_true (by omega)) (nw_mk ?_)))
   rw [Int.toNat_natCast]
   have r3:Row (w4.alloc (.cells (zeros N [Value.int .u8 0]).toArray 5)) b1 5 1 (some ⟨w4.heap.size,0,none⟩) N N (zeros N [Value.int .u8 0]):=Row.made (by omega) rfl (Nat.le_refl _)
   have f3:Fr (fun _=>False) w4 (w4.alloc (.cells (zeros N [Value.int .u8 0]).toArray 5)):=Fr.alloc _ _ _
   generalize hb3:w4.heap.size=b3 at r3 ⊢
   generalize w4.alloc (.cells (zeros N [Value.int .u8 0]).toArray 5)=w5 at r3 f3 ⊢
   have h5:=f3.sl h4 (fun _ _ _ h=>h)
   have hbl:(bys b).length=n * 1:=by simp [bys]; omega
   have cp:=cpy_row (k:=0) (x:=.slice A n c) (m:=n) (us:=bys b) r3 h5.src hbl (Nat.zero_le _) (fun v hv=>bvs_one b v (List.mem_of_mem_take hv)) (K:=fun n25 w26 =>
    ldI .i64 w26.drew b1 (0+1) fun i27 =>
    gd (decide (0<=i27)) <|
    gd (decide (i27<=((N:Nat):Int))) <|
    ldSl w26.drew b1 (0+2) fun A28 n29 c30 =>
    cpy w26.drew 1 (slA (some ⟨b3,0,none⟩) N (i27).toNat 1) (N - (i27).toNat) (Value.slice A28 n29 c30) fun n31 w32 =>
    (fun v w'=>Fr (fun _=>False) w w'/\∃ A' c',v=.slice A' (applyW b x).length c'/\Row w' b1 5 1 A' (applyW b x).length c' (bys (applyW b x))) (Value.slice (some ⟨b3,0,none⟩) N N) w32) (fun w6 r6 f6=>?_)
   ·rw [sl0,Nat.sub_zero] at cp
    exact cp
   ·have f6d:=f6.trans (Fr.drew (fun _=>False) w6) (U:=fun k=>blkOf (some (⟨b3,0,none⟩:Addr))=some k) (fun _ _ h=>h) (fun _ _ h=>h.elim)
    have q6:=(q.fr f3 (fun h=>h)).fr f6d (fun h=>by
     simp only [blkOf,Option.some.injEq] at h
     have:=q.lt; omega)
    have hB6:Sl w6.drew 1 B m (bys x.data):=f6d.sl (f3.sl hB (fun _ _ _ h=>h)) (fun h0 k hk h=>by
     simp only [blkOf,Option.some.injEq] at h
     have:=hB.blt (by omega) h0 hk
     omega)
    have r6d:=(Fr.drew (fun _=>False) w6).row r6 (fun _ _ h=>h)
    have f6':Fr (fun _=>False) w4 w6.drew:=f3.trans f6d (fun _ _ h=>h) (fun k hk h=>by
     simp only [blkOf,Option.some.injEq] at h
     omega)
    generalize w6.drew=w7 at q6 hB6 r6d f6' ⊢
    refine ⟨_,q6.cell (o:=0+1) rfl,?_⟩
    rw [ho]
    refine gd_mk (decide_eq_true (by omega)) (gd_mk (decide_eq_true (by omega)) ⟨_,_,_,q6.cell (o:=0+2) rfl,?_⟩)
    rw [Int.toNat_natCast]
    have hdl:(bys x.data).length=m * 1:=by simp [bys]; omega
    refine cpy_row (k:=o) (us:=bys x.data) r6d hB6.src hdl (by omega) (fun v hv=>bvs_one x.data v (List.mem_of_mem_take hv)) (fun w8 r8 f8=>⟨?_,some ⟨b3,0,none⟩,N,?_,?_⟩)
    ·exact (f.trans1 f6').trans f8 (fun _ _ h=>h) (fun k hk h=>by
      simp only [blkOf,Option.some.injEq] at h
      omega)
    ·rw [e,over_len,ho,Int.toNat_natCast,hl,hm,hNe]
    ·have hmin1:min n (N - 0)=n:=by omega
     have hmin2:min m (N - o)=m:=by omega
     have ez:splice (zeros N [Value.int .u8 0]) (0 * 1) ((bys b).take (min n (N - 0) * 1))=bys b ++ zeros (N - n) [Value.int .u8 0]:=by
      rw [hmin1,List.take_of_length_le (by omega)]
      unfold splice
      rw [Nat.zero_mul,List.take_zero,List.nil_append,Nat.zero_add,hbl]
      congr 1
      have e3:zeros N [Value.int .u8 0]=zeros n [Value.int .u8 0] ++ zeros (N - n) [Value.int .u8 0]:=by
       unfold zeros
       rw [<- List.flatten_append,List.replicate_append_replicate]
       congr 2; omega
      rw [e3,List.drop_append_of_le_length (by rw [zeros_length]; simp),List.drop_of_length_le (by rw [zeros_length]; simp),List.nil_append]
     rw [ez,hmin2,List.take_of_length_le (by omega),Nat.mul_one] at r8
     have eo:=over_cells b x.data o
     rw [hl,hm,<- hNe] at eo
     rw [eo] at r8
     rw [e,over_len,ho,Int.toNat_natCast,hl,hm,<- hNe]
     exact r8
 refine ⟨_,rfl,vIf_mk (fun hr=>same ?_) (fun hr=>⟨_,q.cell (o:=0) rfl,vIf_mk (fun hcut=>⟨_,_,_,q.cell (o:=0+2) rfl,?_⟩) (fun hcut=>some ?_ ?_)⟩)⟩
 ·have hr:rightW x=false:=by simpa using hr
  unfold applyW
  rw [if_pos (.inl hr)]
 ·have hr:rightW x=true:=by simpa using hr
  have hcut:x.cut=false:=by simpa using hcut
  dsimp only
  cases hm0:(((m:Nat):Int) == 0) with
  | true =>
   refine same ?_
   have hm0:(m:Int)=0:=by simpa using hm0
   have hd0:x.data=[]:=List.length_eq_zero_iff.1 (by omega)
   unfold applyW
   rw [if_pos (.inr ⟨hcut,hd0⟩)]
  | false =>
   refine some hr (fun _ hd0=>?_)
   have hm0:¬ (m:Int)=0:=by simpa using hm0
   rw [hd0] at hm
   simp at hm
   omega
 ·simpa using hr
 ·intro hc2
  have hcut:x.cut=true:=by simpa using hcut
  rw [hcut] at hc2; cases hc2
theorem row_lowB {u:World} {B B':Nat} {e:TypeId} {sz:Nat} {A:Option Addr} {k c:Nat} {vs:List Value} (hB:B'<=B) (hr:Row u B e sz A k c vs):Row u B' e sz A k c vs:=by
 refine ⟨hr.len,hr.le,?_⟩
 rcases hr.at_ with h' | ⟨b',cs',q1,q2,q3⟩
 ·exact .inl h'
 ·exact .inr ⟨b',cs',q1,by omega,q3⟩
theorem var_new {w:World} {z cs:List Value} {e:TypeId} {sz:Nat} (hz:z.length=sz) (hc:cs.length=sz) (ho:∀ v ∈ cs,v.oneCell'=true) {K:Nat->World->Prop} (hK:∀ b w',Fr (fun _=>False) w w'->w.heap.size<=b->RecAt w' b e cs->K b w') :
  nw w z e fun b w1=>gd (cs.length == sz) (st w1 b 0 cs fun w2=>K b w2):=by
 refine nw_mk (gd_mk (by rw [hc]; simp) ?_)
 have f1:Fr (fun _=>False) w (w.alloc (.cells z.toArray e)):=Fr.alloc _ _ _
 have r1:=RecAt.new w z e
 generalize hb:w.heap.size=b at r1 ⊢
 generalize w.alloc (.cells z.toArray e)=w1 at f1 r1 ⊢
 refine r1.st_mk (o:=0) (by rw [hc,hz]; omega) ho (fun r2 f2=>hK _ _ (f1.trans f2 (fun _ _ h=>h) (fun k hk h=>by omega)) (by omega) ?_)
 rw [splice_full (by rw [hc,hz])] at r2
 exact r2
theorem rec_all {w:World} {b:Nat} {e:TypeId} {cs:List Value} (h:RecAt w b e cs):cellsAt w b 0 cs:=h.cells (fun j v hj=>by simpa using hj)
theorem all1_calls (i:Int) (cs:List Value) (x:Wr) (w:World) (h:WrP w cs x) :
  Calls Tryz.prog 99 #[.int .i64 i,ofL cs] w fun e w'=>Fr (fun _=>False) w w'/\e=.returned (.tuple #[ofL cs,.bool true]):=by
 refine (F99.of i cs w (Q:=fun v w'=>Fr (fun _=>False) w w'/\v=.tuple #[ofL cs,.bool true]) ?_).mono (fun e w' ⟨v,he,hf,hv⟩=>⟨hf,by rw [he,hv]⟩)
 have hone:=wr_one h
 refine nw_mk ?_
 have q:=RecAt.new w cs 182
 have f1:Fr (fun _=>False) w (w.alloc (.cells cs.toArray 182)):=Fr.alloc _ _ _
 generalize w.heap.size=b1 at q ⊢
 generalize w.alloc (.cells cs.toArray 182)=w2 at f1 q ⊢
 refine nw_mk ?_
 have p:=RecAt.new w2 [Value.bool false,Value.int .i64 0,Value.slice none 0 0] 182
 have f2:Fr (fun _=>False) w2 (w2.alloc (.cells [Value.bool false,Value.int .i64 0,Value.slice none 0 0].toArray 182)):=Fr.alloc _ _ _
 have q:=q.fr f2 (fun h=>h)
 generalize hb3:w2.heap.size=b3 at p ⊢
 generalize w2.alloc (.cells [Value.bool false,Value.int .i64 0,Value.slice none 0 0].toArray 182)=w4 at f2 q p ⊢
 refine ⟨cs,hone.1,rec_all q,gd_mk (by rw [hone.1]; rfl) (p.st_mk (o:=0) (by show 0+cs.length<=3; rw [hone.1]; omega) hone.2 (fun p f3=>?_))⟩
 rw [splice_full (by rw [hone.1]; rfl)] at p
 exact ⟨cs,hone.1,rec_all p,(f1.trans1 f2).trans f3 (fun _ _ h=>h) (fun k hk h=>by have:=f1.size; omega),rfl⟩
theorem all_le {b:Bs} {l:List Wr} (hb:b.length<=1048576):(allW b l).length<=1048576:=by
 have h1:=allW_len l b
 have h2:=peakW_le l (n:=(b.length:Int)) (by omega)
 omega
theorem takeW {l:List Wr} {i:Nat} {x:Wr} (h:l[i]?=some x):l.take (i+1)=l.take i ++ [x]:=by rw [List.take_add_one,h]; rfl
set_option maxHeartbeats 1000000 in
theorem all_calls (A:Option Addr) (n c:Nat) (b:Bs) (A':Option Addr) (n' c':Nat) (l:List Wr) (w:World) (h:Sl w 1 A n (bys b)) (hl:WSl w A' n' l) (hb:b.length<=1048576) (hn:n'<=1099511627775) (hd:∀ x ∈ l,x.data.length<=1048576) :
  Calls Tryz.prog 72 #[.slice A n c,.slice A' n' c'] w fun e w'=>Fr (fun _=>False) w w'/\∃ B k,e=.returned (.slice B (allW b l).length k)/\Row w' w.heap.size 5 1 B (allW b l).length k (bys (allW b l)):=by
 refine (F72.of A n c A' n' c' w (Q:=fun v w'=>Fr (fun _=>False) w w'/\∃ B k,v=.slice B (allW b l).length k/\Row w' w.heap.size 5 1 B (allW b l).length k (bys (allW b l))) ?_).mono (fun e w' ⟨v,he,hf,B,k,hv,h⟩=>⟨hf,B,k,by rw [he,hv],h⟩)
 have hbl:=by_n h
 have hwl:l.length=n':=by obtain ⟨vs,_,h2,_⟩:=hl; exact h2
 have key:Calls Tryz.prog 98 #[.slice A n c,.slice A' n' c',.func (.func 99) #[] #[]] w fun e w'=>Fr (fun _=>False) w w'/\∃ B k,e=.returned (.slice B (allW b l).length k)/\Row w' w.heap.size 5 1 B (allW b l).length k (bys (allW b l)):=by
  refine (F98a.of A n c A' n' c' w (Q:=fun v w'=>Fr (fun _=>False) w w'/\∃ B k,v=.slice B (allW b l).length k/\Row w' w.heap.size 5 1 B (allW b l).length k (bys (allW b l))) ?_).mono (fun e w' ⟨v,he,hf,B,k,hv,h⟩=>⟨hf,B,k,by rw [he,hv],h⟩)
  refine (clone_by A n c b w h (by omega)).mono ?_
  rintro e w1 ⟨f1,B,k,rfl,h1⟩
  refine ⟨_,_,_,rfl,jnC_mk (loop_rule (fun s v=>Fr (fun _=>False) w v/\∃ (i:Nat) (B:Option Addr) (k:Nat),i<=n'/\s=((),(B,(allW b (l.take i)).length,k),(A',n',c'),((n':Nat):Int),(i:Int),())/\Row v w.heap.size 5 1 B (allW b (l.take i)).length k (bys (allW b (l.take i))))
   (fun s _=>(n' - s.2.2.2.2.1).toNat) ?_ _ _ ⟨f1,0,B,k,by omega,by rw [List.take_zero,<- hbl]; rfl,by rw [List.take_zero,show (allW b []).length=n from hbl]; exact h1⟩)⟩
  rintro s v C ⟨hf,i,B,k,hi,rfl,hr⟩ hC _
  have hal:=all_le (l:=l.take i) hb
  refine vIf_mk (fun hlt=>?_) (fun hge=>?_)
  ·have hlt2:(i:Int) < (n':Int):=of_decide_eq_true hlt
   have gi:l[i]?=some (l[i]'(by omega)):=List.getElem?_eq_getElem (by omega)
   generalize l[i]'(by omega)=x at gi
   have hxd:=hd x (List.mem_of_getElem? gi)
   obtain ⟨vs,hs,_,hE⟩:=hl.fr0 hf
   refine el_all hs hE (by omega) gi (by omega) (fun cs hc hx=>var_new rfl hc (wr_one hx).2 (fun b9 w11 g1 hb9 r9=>⟨cs,hc,rec_all r9,?_⟩))
   have hf1:=hf.trans1 g1
   refine (all1_calls i cs x w11 (hx.fr0 g1)).mono ?_
   rintro e w13 ⟨g2,rfl⟩
   have g12:=g1.trans1 g2
   refine ⟨_,_,rfl,var_new rfl hc (wr_one hx).2 (fun b17 w19 g3 hb17 r17=>vIf_t rfl ⟨cs,hc,rec_all r17,?_⟩)⟩
   have g123:=g12.trans1 g3
   refine (apply_calls B _ k (allW b (l.take i)) cs x w19 (g123.row hr (fun _ _ h=>h)).sl hr.le (hx.fr0 g123) (by omega) (by omega)).mono ?_
   rintro e w21 ⟨g4,B2,k2,rfl,h2⟩
   have hsz:=(hf.trans1 g123).size
   have en:allW b (l.take (i+1))=applyW (allW b (l.take i)) x:=by rw [takeW gi,allW_snoc]
   refine ⟨_,_,_,rfl,jnC_mk (hC _ _ ⟨(hf.trans1 g123).trans1 g4,i+1,B2,k2,by omega,by rw [ei i (by omega),en],by rw [en]; exact row_lowB hsz h2⟩ ?_)⟩
   show ((n':Int) - IntKind.wrap .i64 ((i:Int)+1)).toNat < ((n':Int) - (i:Int)).toNat
   rw [ei i (by omega)]; omega
  ·have hge2:¬ (i:Int) < (n':Int):=of_decide_eq_false hge
   have e:l.take i=l:=List.take_of_length_le (by omega)
   rw [e] at hr ⊢
   exact ⟨hf,B,k,rfl,hr⟩
 refine key.mono ?_
 rintro e w1 ⟨f1,B,k,rfl,h1⟩
 exact ⟨_,_,_,rfl,f1,B,k,rfl,h1⟩
theorem ino_one {w:World} {cs:List Value} {x:Ino} (h:InoAt w cs x):cs.length=2/\∀ v ∈ cs,v.oneCell'=true:=by
 obtain ⟨A,n,c,A',n',c',rfl,_⟩:=h
 refine ⟨rfl,fun v hv=>?_⟩
 simp only [List.mem_cons,List.not_mem_nil,or_false] at hv
 rcases hv with rfl | rfl <;> rfl
theorem wsl_n {w:World} {A:Option Addr} {n:Nat} {l:List Wr} (h:WSl w A n l):l.length=n:=by
 obtain ⟨vs,_,h2,_⟩:=h
 exact h2
theorem rec_new {w:World} {cs:List Value} {e:TypeId} {K:Nat->World->Prop} (hK:∀ b w',Fr (fun _=>False) w w'->w.heap.size<=b->RecAt w' b e cs->K b w'):nw w cs e K :=
 nw_mk (hK _ _ (Fr.alloc _ _ _) (Nat.le_refl _) (RecAt.new w cs e))
theorem now_calls' (cs:List Value) (x:Ino) (w:World) (h:InoAt w cs x) (hb:InoB x) (hp:x.p.length<=1099511627775) :
  Calls Tryz.prog 45 #[ofL cs] w fun e w'=>Fr (fun _=>False) w w'/\∃ B k,e=.returned (.slice B (nowI x).length k)/\Row w' w.heap.size 5 1 B (nowI x).length k (bys (nowI x)):=by
 refine (F45.of cs w (Q:=fun v w'=>Fr (fun _=>False) w w'/\∃ B k,v=.slice B (nowI x).length k/\Row w' w.heap.size 5 1 B (nowI x).length k (bys (nowI x))) ?_).mono (fun e w' ⟨v,he,hf,B,k,hv,h⟩=>⟨hf,B,k,by rw [he,hv],h⟩)
 have h0:=h
 obtain ⟨A,n,c,A',n',c',rfl,h1,h2,h3,h4⟩:=h
 refine rec_new (fun b1 w2 f1 _ r1=>⟨_,_,_,r1.cell (o:=0) rfl,_,_,_,r1.cell (o:=0+1) rfl,?_⟩)
 have hn:=wsl_n h3
 refine (all_calls A n c x.b A' n' c' x.p w2 (f1.sl h1 (fun _ _ _ h=>h)) (h3.fr0 f1) hb.b (by omega) hb.d).mono ?_
 rintro e w9 ⟨f9,B,k,rfl,h9⟩
 exact ⟨_,_,_,rfl,f1.trans1 f9,B,k,rfl,row_lowB f1.size h9⟩
theorem sync_calls' (cs:List Value) (x:Ino) (w:World) (h:InoAt w cs x) (hb:InoB x) (hp:x.p.length<=1099511627775) :
  Calls Tryz.prog 22 #[ofL cs] w fun e w'=>Fr (fun _=>False) w w'/\∃ cs',e=.returned (ofL cs')/\InoAt w' cs' (syncI x):=by
 refine (F22.of cs w (Q:=fun v w'=>Fr (fun _=>False) w w'/\∃ cs',v=ofL cs'/\InoAt w' cs' (syncI x)) ?_).mono (fun e w' ⟨v,he,hf,cs',hv,h⟩=>⟨hf,cs',by rw [he,hv],h⟩)
 have hone:=ino_one h
 refine rec_new (fun b1 w2 f1 hb1 r1=>rec_new (fun b3 w4 f3 hb3 r3=>⟨cs,hone.1,rec_all (r1.fr f3 (fun h=>h)),?_⟩))
 have f13:=f1.trans1 f3
 have hs1:=f1.size
 have hl3:=r3.lt
 refine (now_calls' cs x w4 (h.fr0 f13) hb hp).mono ?_
 rintro e w6 ⟨f6,B,k,rfl,h6⟩
 have r3:=r3.fr f6 (fun h=>h)
 have hr3:=r3.lt
 refine ⟨_,_,_,rfl,gd_mk rfl (r3.st_mk (o:=0) (by show 0+2<=2; omega) (fun v hv=>?_) (fun r3 f7=>?_))⟩
 ·simp only [List.cons_append,List.nil_append,List.mem_cons,List.not_mem_nil,or_false] at hv
  rcases hv with rfl | rfl <;> rfl
 rw [splice_full (by rfl)] at r3
 refine ⟨[.slice B (nowI x).length k,.slice none 0 0],rfl,rec_all r3,(f13.trans1 f6).trans f7 (fun _ _ h=>h) (fun j hj h=>by have h:j=b3:=h; omega),_,rfl,?_⟩
 have hsl:=f7.row h6 (fun j hj h=>by have h:j=b3:=h; have:=(h6.blt hj).1; omega)
 exact ⟨_,_,_,_,_,_,rfl,hsl.sl,hsl.le,⟨[],Sl.nil _ _ _,rfl,Ech.nil⟩,Nat.le_refl _⟩
def zI:Ino:=⟨[],[]⟩
structure Dk where
 lb:Int
 lf:Int
 F:Fo
 f:Int->Ino
 last:Int
 down:Bool
 fu:Option Int
 calls:Int
def trim (F:Fo) (f:Int->Ino):Int->Ino:=fun id=>if id ∈ idsF F then f id else zI
def updF (f:Int->Ino) (id:Int) (x:Ino):Int->Ino:=fun k=>if k=id then x else f k
structure Cl where
 k:Int
 nm:ByteArray
 to:ByteArray
 data:Bs
 n:Int
def lookD (d:Dk) (s:ByteArray):Bs×Int :=
 if d.down=true then ([],11) else match findN s (nowF d.F) with | none=>([],6) | some id=>(nowI (d.f id),0)
def readD (d:Dk) (s:ByteArray) (off n:Int):Bs×Int :=
 if (lookD d s).2 ≠ 0 then ([],(lookD d s).2)
 else if off < 0\/n < 0\/off > ((lookD d s).1.length:Int)\/n > ((lookD d s).1.length:Int) - off then ([],20)
 else (((lookD d s).1.drop off.toNat).take n.toNat,0)
structure DkI (d:Dk):Prop where
 out:∀ id,id ∉ idsF d.F->d.f id=zI
 rng:∀ id ∈ idsF d.F,1<=id/\id<=d.last
 ino:∀ id,InoB (d.f id)
 fu:∀ n,d.fu=some n->0<=n
theorem zI_B:InoB zI:=⟨by simp [zI],fun y hy=>by cases hy⟩
theorem by_neU {w:World} {A:Option Addr} {n:Nat} {b:Bs} (h:Sl w 1 A n (bys b)) (h0:n ≠ 0) {k:Nat} (hk:blkOf A=some k) (ha:∀ o x,cellAt w k o ≠ some (.int .u8 x)):False:=by
 have hl:=by_n h
 obtain ⟨b',o,rfl,hc⟩:=h.2 (by omega)
 injection hk with hk
 have hk:b'=k:=hk
 subst hk
 cases hb:b with
 | nil=>rw [hb] at hl; simp at hl; omega
 | cons x r=>exact ha (o+0) x.toNat (hc 0 _ (by rw [hb]; rfl))
theorem lastN_id {l:List Nm} (h:AscN l):lastN l=l:=ascN_ext (lastN_asc l) h (fun s=>lastN_find s l)
theorem cnt_nat (i:Nat) (P:List Ch):cnt (i:Nat) P=min i P.length:=by
 unfold cnt
 rw [if_neg (by omega),Int.toNat_natCast]
theorem behF_at (F:Fo) (i:Nat) (h:i<=F.P.length):behF F (i:Nat)=behN F.L (F.P.take i):=by
 unfold behF
 rw [cnt_nat,Nat.min_eq_left h]
theorem nowF_at (F:Fo):nowF F=behN F.L F.P:=by
 unfold nowF
 rw [behF_at F _ (Nat.le_refl _),List.take_length]
theorem behF_one (L:List Nm) (n:Int):behF ⟨L,[]⟩ n=lastN L:=by
 unfold behF behN
 simp
theorem idsU_iff (F:Fo) (id:Int):∀ n,id ∈ idsU F n ↔ ∃ i,i < n/\∃ nm,(nm,id) ∈ behF F (i:Nat)
 | 0=>by simp [idsU]
 | n+1=>by
  rw [idsU,List.mem_append,idsU_iff F id n,List.mem_map]
  constructor
  ·rintro (⟨i,hi,h⟩ | ⟨⟨nm,j⟩,hx,rfl⟩)
   ·exact ⟨i,by omega,h⟩
   ·exact ⟨n,by omega,nm,hx⟩
  ·rintro ⟨i,hi,nm,h⟩
   by_cases hin:i=n
   ·subst hin
    exact .inr ⟨(nm,id),h,rfl⟩
   ·exact .inl ⟨i,by omega,nm,h⟩
theorem ids_iff {F:Fo} {id:Int}:id ∈ idsF F ↔ ∃ i:Nat,i<=F.P.length/\∃ nm,(nm,id) ∈ behF F (i:Nat):=by
 unfold idsF
 rw [norm_mem,idsU_iff]
 exact ⟨fun ⟨i,h,h'⟩=>⟨i,by omega,h'⟩,fun ⟨i,h,h'⟩=>⟨i,by omega,h'⟩⟩
theorem ids_asc (F:Fo):AscI (idsF F):=norm_asc _
theorem ids_one {L:List Nm} {id:Int}:id ∈ idsF ⟨L,[]⟩ ↔ ∃ nm,(nm,id) ∈ lastN L:=by
 rw [ids_iff]
 constructor
 ·rintro ⟨i,_,nm,h⟩
  rw [behF_one] at h
  exact ⟨nm,h⟩
 ·rintro ⟨nm,h⟩
  exact ⟨0,by simp,nm,by rw [behF_one]; exact h⟩
def newD (lb lf:Int):Dk:=⟨lb,lf,⟨[],[]⟩,fun _=>zI,0,false,none,0⟩
abbrev ZI:List Value:=[.slice none 0 0,.slice none 0 0]
theorem zI_at (w:World):InoAt w ZI zI:=⟨none,0,0,none,0,0,rfl,Sl.nil _ _ _,Nat.le_refl _,⟨[],Sl.nil _ _ _,rfl,Ech.nil⟩,Nat.le_refl _⟩
def FilesAt (w:World) (r:Nat) (f:Int->Ino):Prop:=∃ g,MapI w r g/\∀ id,∃ cs,(g id).getD (ofL ZI)=ofL cs/\InoAt w cs (f id)
theorem FilesAt.fr {S:Nat->Prop} {w w':World} {r:Nat} {f:Int->Ino} (h:FilesAt w r f) (g:Fr S w w') (hr:¬ S r) (hS:∀ k,S k->Alien w k):FilesAt w' r f:=by
 obtain ⟨m,h1,h2⟩:=h
 refine ⟨m,h1.fr g hr,fun id=>?_⟩
 obtain ⟨cs,e,hx⟩:=h2 id
 exact ⟨cs,e,hx.fr g hS⟩
theorem FilesAt.alien {w:World} {r:Nat} {f:Int->Ino} (h:FilesAt w r f):Alien w r:=by
 obtain ⟨m,h1,_⟩:=h
 exact map_alien h1
theorem files_get {w:World} {r:Nat} {f:Int->Ino} (h:FilesAt w r f) {id:Int} {K:List Value->Prop} (hK:∀ cs,InoAt w cs (f id)->K cs):drM (some r) fun r=>mlk w r .i64 id fun q=>lvA ZI q K:=by
 obtain ⟨m,h1,h2⟩:=h
 obtain ⟨cs,e,hx⟩:=h2 id
 exact drM_mk (mlk_mk h1 ⟨cs,e,hK cs hx⟩)
theorem files_put {w:World} {r:Nat} {f:Int->Ino} (h:FilesAt w r f) {id:Int} {cs:List Value} {x:Ino} (hx:InoAt w cs x) {K:World->Prop} (hK:∀ w',FilesAt w' r (updF f id x)->Fr (fun k=>k=r) w w'->K w'):drM (some r) fun r=>mup w r .i64 id (ofL cs) K:=by
 have ha:=h.alien
 obtain ⟨m,h1,h2⟩:=h
 refine drM_mk (mup_mk h1 (fun w' g1 g2 _=>hK w' ⟨_,g1,fun k=>?_⟩ g2))
 unfold updI updF
 by_cases hk:k=id
 ·rw [if_pos hk,if_pos hk]
  exact ⟨cs,rfl,hx.fr g2 (fun j hj=>by have hj:j=r:=hj; rw [hj]; exact ha)⟩
 ·rw [if_neg hk,if_neg hk]
  obtain ⟨cs',e,hx'⟩:=h2 k
  exact ⟨cs',e,hx'.fr g2 (fun j hj=>by have hj:j=r:=hj; rw [hj]; exact ha)⟩
def dkC (d:Dk) (u v:Value) (r:Nat) (fz:Bool) (lv:Int):List Value:=[.int .i64 d.lb,.int .i64 d.lf,u,v,.map (some r),.int .i64 d.last,.bool d.down,.bool fz,.int .i64 lv,.int .i64 d.calls]
def fuR (o:Option Int) (fz:Bool) (lv:Int):Prop:=match o with | none=>fz=false | some n=>fz=true/\lv=n
def DkAt (w:World) (db r:Nat) (d:Dk):Prop:=∃ u v fz lv,RecAt w db 77 (dkC d u v r fz lv)/\FoAt w [u,v] d.F/\FilesAt w r d.f/\fuR d.fu fz lv
theorem dk_alien {w:World} {db:Nat} {d:Dk} {u v:Value} {r:Nat} {fz:Bool} {lv:Int} (h:RecAt w db 77 (dkC d u v r fz lv)) (hf:FoAt w [u,v] d.F):Alien w db:=by
 obtain ⟨A,n,c,A',n',c',e,_⟩:=hf
 injection e with e1 e
 injection e with e2 e
 subst e1; subst e2
 have hc:∀ o,cellAt w db o=(dkC d (.slice A n c) (.slice A' n' c') r fz lv)[o]?:=fun o=>by rw [cellAt_blk h]; simp
 refine ⟨fun o s hs=>?_,fun o x hx=>?_,fun o t z A1 n1 c1 ht=>?_⟩
 ·rw [hc] at hs
  match o,hs with
  | 0,hs=>cases hs
  | 1,hs=>cases hs
  | 2,hs=>cases hs
  | 3,hs=>cases hs
  | 4,hs=>cases hs
  | 5,hs=>cases hs
  | 6,hs=>cases hs
  | 7,hs=>cases hs
  | 8,hs=>cases hs
  | 9,hs=>cases hs
  | o+10,hs=>cases hs
 ·rw [hc] at hx
  match o,hx with
  | 0,hx=>cases hx
  | 1,hx=>cases hx
  | 2,hx=>cases hx
  | 3,hx=>cases hx
  | 4,hx=>cases hx
  | 5,hx=>cases hx
  | 6,hx=>cases hx
  | 7,hx=>cases hx
  | 8,hx=>cases hx
  | 9,hx=>cases hx
  | o+10,hx=>cases hx
 ·obtain ⟨h0,h1,h2⟩:=ht
  rw [hc] at h0 h1 h2
  match o,h0,h1,h2 with
  | 0,h0,h1,h2=>cases h0
  | 1,h0,h1,h2=>cases h0
  | 2,h0,h1,h2=>cases h0
  | 3,h0,h1,h2=>cases h0
  | 4,h0,h1,h2=>cases h0
  | 5,h0,h1,h2=>cases h0
  | 6,h0,h1,h2=>cases h1
  | 7,h0,h1,h2=>cases h2
  | 8,h0,h1,h2=>cases h0
  | 9,h0,h1,h2=>cases h0
  | o+10,h0,h1,h2=>cases h0
theorem DkAt.ne {w:World} {db r:Nat} {d:Dk} (h:DkAt w db r d):db ≠ r:=by
 obtain ⟨u,v,fz,lv,h1,h2,⟨g,⟨m,c,h3,_⟩,_⟩,_⟩:=h
 intro e
 subst e
 have h3:w.heap[db]?=some (.map (m.map (mkE .i64)).toArray c):=h3
 have h1:w.heap[db]?=some _:=h1
 rw [h1] at h3
 cases h3
theorem DkAt.fr {S:Nat->Prop} {w w':World} {db r:Nat} {d:Dk} (h:DkAt w db r d) (f:Fr S w w') (h1:¬ S db) (h2:¬ S r) (hS:∀ k,S k->Alien w k):DkAt w' db r d:=by
 obtain ⟨u,v,fz,lv,q1,q2,q3,q4⟩:=h
 exact ⟨u,v,fz,lv,q1.fr f h1,fo_fr q2 f hS,q3.fr f h2 hS,q4⟩
theorem DkAt.fr0 {w w':World} {db r:Nat} {d:Dk} (h:DkAt w db r d) (f:Fr (fun _=>False) w w'):DkAt w' db r d:=h.fr f (fun h=>h) (fun h=>h) (fun _ h=>h.elim)
def DS (db r:Nat):Nat->Prop:=fun k=>k=db\/k=r
structure DkB (d:Dk) (N:Nat):Prop where
 fo:d.F.L.length+d.F.P.length<=N
 p:∀ id,(d.f id).p.length<=N
 last:0<=d.last/\d.last<=N
 calls:0<=d.calls/\d.calls<=N
 fu:∀ n,d.fu=some n->n<=9223372036854775807
 lb:d.lb<=9223372036854775807
 lf:d.lf<=9223372036854775807
theorem fo_cells {w:World} {cs:List Value} {F:Fo} (h:FoAt w cs F):∃ u v,cs=[u,v]/\u.oneCell'=true/\v.oneCell'=true:=by
 obtain ⟨A,n,c,A',n',c',e,_⟩:=h
 exact ⟨_,_,e,rfl,rfl⟩
theorem dk_setF {w:World} {db r:Nat} {d:Dk} {F':Fo} {cs:List Value} {K:World->Prop} (h:DkAt w db r d) (hF:FoAt w cs F') (hK:∀ w',Fr (fun k=>k=db) w w'->DkAt w' db r { d with F:=F' }->K w'):gd (cs.length == 2) (st w db (0+2) cs K):=by
 have hne:=h.ne
 obtain ⟨u,v,fz,lv,h1,h2,h3,h4⟩:=h
 have ha:=dk_alien h1 h2
 obtain ⟨u',v',rfl,hu,hv⟩:=fo_cells hF
 refine gd_mk rfl (h1.st_mk (by show 0+2+2<=10; omega) (fun x hx=>?_) (fun r2 f2=>hK _ f2 ⟨u',v',fz,lv,r2,?_,?_,h4⟩))
 ·simp only [List.mem_cons,List.not_mem_nil,or_false] at hx
  rcases hx with rfl | rfl
  ·exact hu
  ·exact hv
 ·exact fo_fr hF f2 (fun k hk=>by have hk:k=db:=hk; rw [hk]; exact ha)
 ·exact h3.fr f2 (fun h=>hne h.symm) (fun k hk=>by have hk:k=db:=hk; rw [hk]; exact ha)
theorem dk_getF {w:World} {db r:Nat} {d:Dk} (h:DkAt w db r d) {K:List Value->Prop} (hK:∀ cs,FoAt w cs d.F->K cs):ldA 2 w db (0+2) K:=by
 obtain ⟨u,v,fz,lv,h1,h2,h3,h4⟩:=h
 refine ⟨[u,v],rfl,h1.cells (fun j x hj=>?_),hK _ h2⟩
 match j,hj with
 | 0,hj=>exact hj
 | 1,hj=>exact hj
 | j+2,hj=>cases hj
theorem dk_getM {w:World} {db r:Nat} {d:Dk} (h:DkAt w db r d) {K:Option Nat->Prop} (hK:K (some r)):ldM w db (0+4) K:=by
 obtain ⟨u,v,fz,lv,h1,h2,h3,h4⟩:=h
 exact ⟨some r,h1.cell rfl,hK⟩
theorem look_calls (db r:Nat) (d:Dk) (s:ByteArray) (w:World) (h:DkAt w db r d) (hb:FoB d.F) (hi:∀ id,InoB (d.f id)) (hp:∀ id,(d.f id).p.length<=1099511627775) :
  Calls Tryz.prog 73 #[.pointer (some ⟨db,0,none⟩),.string s] w fun e w'=>Fr (fun _=>False) w w'/\∃ B k,e=.returned (.tuple #[.slice B (lookD d s).1.length k,.int .i64 (lookD d s).2])/\Sl w' 1 B (lookD d s).1.length (bys (lookD d s).1)/\(lookD d s).1.length<=k:=by
 refine (F73.of (some ⟨db,0,none⟩) s w (Q:=fun v w'=>Fr (fun _=>False) w w'/\∃ B k,v=.tuple #[.slice B (lookD d s).1.length k,.int .i64 (lookD d s).2]/\Sl w' 1 B (lookD d s).1.length (bys (lookD d s).1)/\(lookD d s).1.length<=k) ?_).mono (fun e w' ⟨v,he,hf,B,k,hv,h⟩=>⟨hf,B,k,by rw [he,hv],h⟩)
 have h0:=h
 obtain ⟨u,v,fz,lv,h1,h2,h3,h4⟩:=h0
 refine vIf_f rfl (dr_mk ⟨d.down,h1.cell (o:=0+6) rfl,vIf_mk (fun hd=>?_) (fun hd=>dr_mk (dk_getF h (fun cs hF=>(find_calls cs d.F s w hF hb).mono ?_)))⟩)
 ·have e:lookD d s=([],11):=by unfold lookD; rw [if_pos hd]
  rw [e]
  exact ⟨Fr.refl _ _,none,0,rfl,Sl.nil _ _ _,Nat.le_refl _⟩
 ·have hd:d.down=false:=hd
  rintro e w7 ⟨rfl,f7⟩
  refine ⟨_,_,rfl,?_⟩
  cases hfn:findN s (nowF d.F) with
  | none =>
   have eL:lookD d s=([],6):=by unfold lookD; rw [if_neg (by rw [hd]; simp),hfn]
   rw [eL]
   exact vIf_t rfl ⟨f7,none,0,rfl,Sl.nil _ _ _,Nat.le_refl _⟩
  | some id =>
   have eL:lookD d s=(nowI (d.f id),0):=by unfold lookD; rw [if_neg (by rw [hd]; simp),hfn]
   rw [eL]
   refine vIf_f rfl (dr_mk (dk_getM (h.fr0 f7) (files_get (h3.fr f7 (fun h=>h) (fun _ h=>h.elim)) (fun cs hX=>(now_calls' cs _ w7 hX (hi id) (hp id)).mono ?_))))
   rintro e w17 ⟨f17,B,k,rfl,hr⟩
   exact ⟨B,_,k,rfl,f7.trans1 f17,B,k,rfl,hr.sl,hr.le⟩
theorem Size_calls (db r:Nat) (d:Dk) (s:ByteArray) (w:World) (h:DkAt w db r d) (hb:FoB d.F) (hi:∀ id,InoB (d.f id)) (hp:∀ id,(d.f id).p.length<=1099511627775) :
  Calls Tryz.prog 46 #[.pointer (some ⟨db,0,none⟩),.string s] w fun e w'=>e=.returned (.tuple #[.int .i64 ((lookD d s).1.length:Int),.int .i64 (lookD d s).2])/\Fr (fun _=>False) w w':=by
 refine (F46.of (some ⟨db,0,none⟩) s w (Q:=fun v w'=>v=.tuple #[.int .i64 ((lookD d s).1.length:Int),.int .i64 (lookD d s).2]/\Fr (fun _=>False) w w') ?_).mono (fun e w' ⟨v,he,hv,h⟩=>⟨by rw [he,hv],h⟩)
 refine (look_calls db r d s w h hb hi hp).mono ?_
 rintro e w1 ⟨f1,B,k,rfl,_,_⟩
 exact ⟨B,_,k,_,rfl,rfl,f1⟩
theorem look_len {d:Dk} (hi:∀ id,InoB (d.f id)) (s:ByteArray):(lookD d s).1.length<=1048576:=by
 unfold lookD
 split
 ·show 0<=_; omega
 ·split
  ·show 0<=_; omega
  ·exact now_le (hi _)
end Go.Proofs.YtodmachaofepkaaGreatDoor
namespace Go.GV
open Go Go.RowKit
structure RowW (w:World) (B:Nat) (e:TypeId) (sz:Nat) (z:List Value) (A:Option Addr) (n c:Nat) (vs:List Value):Prop where
 len:vs.length=n * sz
 le:n<=c
 at_:(A=none/\n=0/\c=0)\/∃ b,A=some ⟨b,0,none⟩/\B<=b/\w.heap[b]?=some (.cells (vs ++ zeros (c - n) z).toArray e (0,0))
theorem RowW.nil (w:World) (B:Nat) (e:TypeId) (sz:Nat) (z:List Value):RowW w B e sz z none 0 0 []:=⟨by simp,Nat.le_refl _,.inl ⟨rfl,rfl,rfl⟩⟩
theorem RowW.sl {w:World} {B:Nat} {e:TypeId} {sz:Nat} {z:List Value} {A:Option Addr} {n c:Nat} {vs:List Value} (h:RowW w B e sz z A n c vs):Sl w sz A n vs:=by
 refine ⟨h.len,fun h0=>?_⟩
 rcases h.at_ with ⟨_,h1,_⟩ | ⟨b,rfl,_,hb⟩
 ·exact absurd h1 h0
 ·refine ⟨b,0,rfl,fun j v hj=>?_⟩
  rw [cellAt_blk hb,Nat.zero_add,List.getElem?_toArray,List.getElem?_append_left (List.getElem?_eq_some_iff.1 hj).1]
  exact hj
theorem RowW.blt {w:World} {B:Nat} {e:TypeId} {sz:Nat} {z:List Value} {A:Option Addr} {n c:Nat} {vs:List Value} (h:RowW w B e sz z A n c vs) {b:Nat} (hb:blkOf A=some b):B<=b/\b < w.heap.size:=by
 rcases h.at_ with ⟨rfl,_,_⟩ | ⟨b',rfl,hB,hh⟩
 ·simp [blkOf] at hb
 ·simp only [blkOf,Option.some.injEq] at hb; subst hb; exact ⟨hB,heap_lt hh⟩
theorem Fr.rowW {S:Nat->Prop} {w w':World} (h:Fr S w w') {B:Nat} {e:TypeId} {sz:Nat} {z:List Value} {A:Option Addr} {n c:Nat} {vs:List Value} (hr:RowW w B e sz z A n c vs) (hn:∀ b,blkOf A=some b->¬ S b):RowW w' B e sz z A n c vs:=by
 refine ⟨hr.len,hr.le,?_⟩
 rcases hr.at_ with h1 | ⟨b,rfl,hB,hb⟩
 ·exact .inl h1
 ·exact .inr ⟨b,rfl,hB,h.at hb (hn b rfl)⟩
theorem RowW.ne_type {w:World} {B:Nat} {e e':TypeId} {sz:Nat} {z:List Value} {A:Option Addr} {n c:Nat} {vs cs:List Value} (h:RowW w B e sz z A n c vs) {b:Nat} (hr:RecAt w b e' cs) (he:e ≠ e'):∀ k,blkOf A=some k->k ≠ b:=by
 intro k hk hkb
 subst hkb
 rcases h.at_ with ⟨rfl,_,_⟩ | ⟨b',rfl,hB,hh⟩
 ·simp [blkOf] at hk
 ·simp only [blkOf,Option.some.injEq] at hk
  subst hk
  have hr:w.heap[b']?=some (.cells cs.toArray e' (0,0)):=hr
  rw [hh] at hr
  injection hr with hr
  injection hr with _ h2 _
  exact he h2
theorem RowW.ne_obj {w:World} {B:Nat} {e:TypeId} {sz:Nat} {z:List Value} {A:Option Addr} {n c:Nat} {vs:List Value} (h:RowW w B e sz z A n c vs) {b:Nat} {m:Array MapEntry} {q:Nat} (hr:w.heap[b]?=some (.map m q)):∀ k,blkOf A=some k->k ≠ b:=by
 intro k hk hkb
 subst hkb
 rcases h.at_ with ⟨rfl,_,_⟩ | ⟨b',rfl,hB,hh⟩
 ·simp [blkOf] at hk
 ·simp only [blkOf,Option.some.injEq] at hk
  subst hk
  rw [hh] at hr
  cases hr
theorem zeros_drop (c m sz:Nat) (z:List Value) (hz:z.length=sz) (h:m<=c):(zeros c z).drop (m * sz)=zeros (c - m) z:=by
 have e1:zeros c z=zeros m z ++ zeros (c - m) z:=by
  unfold zeros
  rw [<- List.flatten_append,List.replicate_append_replicate]
  congr 2; omega
 rw [e1,List.drop_append_of_le_length (by rw [zeros_length,hz]; exact Nat.le_refl _),List.drop_of_length_le (by rw [zeros_length,hz]; exact Nat.le_refl _),List.nil_append]
theorem app_rowW {w:World} {B:Nat} {e:TypeId} {sz bytes:Nat} {z:List Value} {A:Option Addr} {n c:Nat} {x:Value} {old us:List Value} {m:Nat} {K:Option Addr->Nat->Nat->World->Prop}
  (hr:RowW w B e sz z A n c old) (hx:srcOf w sz x m us) (h1:∀ v ∈ us,v.oneCell'=true) (hz:z.length=sz) (hb:(n+m) * bytes<=140737488355328) (hm:n+m<=9223372036854775807) (hB:B<=w.heap.size)
  (hK:∀ A' c' w',RowW w' B e sz z A' (n+m) c' (old ++ us)->Fr (fun k=>blkOf A=some k) w w'->(∀ k,blkOf A'=some k->blkOf A=some k\/w.heap.size<=k)->K A' (n+m) c' w'):app w sz bytes z e A n c x K:=by
 have hul:us.length=m * sz:=by
  unfold srcOf at hx
  split at hx
  ·obtain ⟨rfl,h,_⟩:=hx; exact h
  ·obtain ⟨rfl,rfl,rfl⟩:=hx; simp
  ·exact hx.elim
 have hol:=hr.len
 refine ⟨m,us,hx,h1,hb,hm,fun hle=>⟨fun h0=>?_,fun h0=>?_⟩,fun hlt=>⟨old,hr.sl.src,fun cap hc1 hc2=>?_⟩⟩
 ·subst h0
  have:us=[]:=List.length_eq_zero_iff.1 (by simpa using hul)
  subst this
  exact hK A c w (by rw [List.append_nil]; exact hr) (Fr.refl _ _) (fun _ h=>.inl h)
 ·rcases hr.at_ with ⟨rfl,rfl,rfl⟩ | ⟨b,rfl,hBb,hh⟩
  ·omega
  ·have hm2:m * sz<=(c - n) * sz:=Nat.mul_le_mul_right _ (by omega)
   show st w b (0+n * sz) us _
   rw [Nat.zero_add]
   refine ⟨⟨_,e,0,0,hh,by simp only [List.size_toArray,List.length_append,zeros_length,hz]; omega,.inl (Nat.zero_le _)⟩,h1,?_⟩
   refine hK _ _ _ ⟨by rw [List.length_append,hol,hul,Nat.add_mul],hle,.inr ⟨b,rfl,hBb,?_⟩⟩ (Fr.st (fun _=>rfl)) (fun _ h=>.inl h)
   have h2:=stB_heap (o:=n * sz) (vs:=us) hh
   rw [h2]
   simp only
   rw [splice_at hol,hul,zeros_drop _ _ _ _ hz (by omega),show c - n - m=c - (n+m) by omega]
 ·refine hK _ _ _ ⟨by rw [List.length_append,hol,hul,Nat.add_mul],hc1,.inr ⟨_,rfl,hB,heap_alloc_at _ _⟩⟩ ?_ (fun k hk=>.inr (by simp only [blkOf,Option.some.injEq] at hk; subst hk; exact Nat.le_refl _))
  exact (Fr.drew _ w).trans1 (Fr.alloc _ _ _)
end Go.GV
namespace Go.Proofs.YtodmachaofepkaaGreatDoor
open Go.GV Go.RowKit Go.Lib
structure AlienI (w:World) (b:Nat):Prop where
 u:∀ o x,cellAt w b o ≠ some (.int .u8 x)
 t:∀ o t,cellAt w b o ≠ some (.bool t)
theorem by_frI {S:Nat->Prop} {w w':World} {A:Option Addr} {n:Nat} {b:Bs} (h:Sl w 1 A n (bys b)) (f:Fr S w w') (hS:∀ k,S k->AlienI w k):Sl w' 1 A n (bys b) :=
 f.sl h (fun h0 k hk hs=>by_neU h h0 hk (hS k hs).u)
theorem WrP.frI {S:Nat->Prop} {w w':World} {cs:List Value} {x:Wr} (h:WrP w cs x) (f:Fr S w w') (hS:∀ k,S k->AlienI w k):WrP w' cs x:=by
 obtain ⟨B,m,k,e,h1,h2⟩:=h
 exact ⟨B,m,k,e,by_frI h1 f hS,h2⟩
theorem WSl.frI {S:Nat->Prop} {w w':World} {A:Option Addr} {n:Nat} {l:List Wr} (h:WSl w A n l) (f:Fr S w w') (hS:∀ k,S k->AlienI w k):WSl w' A n l:=by
 obtain ⟨vs,h1,h2,h3⟩:=h
 refine ⟨vs,f.sl h1 (fun h0 k hk hs=>?_),h2,h3.mono (fun cs x hx=>hx.frI f hS)⟩
 have ha:=hS k hs
 have gx:l[0]?=some (l[0]'(by omega)):=List.getElem?_eq_getElem (by omega)
 obtain ⟨b,o,rfl,hc,hl,B,m,k',e,_⟩:=ech_rd h1 h3 (by omega) gx (by omega)
 injection hk with hk
 have hk:b=k:=hk
 subst hk
 rw [e] at hc
 exact ha.t _ _ (hc 0 _ rfl)
theorem InoAt.frI {S:Nat->Prop} {w w':World} {cs:List Value} {x:Ino} (h:InoAt w cs x) (f:Fr S w w') (hS:∀ k,S k->AlienI w k):InoAt w' cs x:=by
 obtain ⟨A,n,c,A',n',c',e,h1,h2,h3,h4⟩:=h
 exact ⟨A,n,c,A',n',c',e,by_frI h1 f hS,h2,h3.frI f hS,h4⟩
theorem FilesAt.frI {S:Nat->Prop} {w w':World} {r:Nat} {f:Int->Ino} (h:FilesAt w r f) (g:Fr S w w') (hr:¬ S r) (hS:∀ k,S k->AlienI w k):FilesAt w' r f:=by
 obtain ⟨m,h1,h2⟩:=h
 refine ⟨m,h1.fr g hr,fun id=>?_⟩
 obtain ⟨cs,e,hx⟩:=h2 id
 exact ⟨cs,e,hx.frI g hS⟩
theorem rowW_alien {w:World} {B:Nat} {e:TypeId} {sz:Nat} {z:List Value} {A:Option Addr} {n c:Nat} {vs:List Value} (h:RowW w B e sz z A n c vs) (hv:∀ v ∈ vs,(∀ x,v ≠ .int .u8 x)/\∀ t,v ≠ .bool t) (hz:∀ v ∈ z,(∀ x,v ≠ .int .u8 x)/\∀ t,v ≠ .bool t):∀ k,blkOf A=some k->AlienI w k:=by
 intro k hk
 rcases h.at_ with ⟨rfl,_,_⟩ | ⟨b,rfl,hB,hh⟩
 ·simp [blkOf] at hk
 ·simp only [blkOf,Option.some.injEq] at hk
  subst hk
  have hall:∀ v ∈ vs ++ zeros (c - n) z,(∀ x,v ≠ .int .u8 x)/\∀ t,v ≠ .bool t:=by
   intro v hm
   rcases List.mem_append.1 hm with hm | hm
   ·exact hv v hm
   ·simp only [zeros,List.mem_flatten,List.mem_replicate] at hm
    obtain ⟨l,⟨_,hl⟩,hm⟩:=hm
    rw [hl] at hm
    exact hz v hm
  have hc:∀ o v,cellAt w b o=some v->v ∈ vs ++ zeros (c - n) z:=fun o v ho=>by
   rw [cellAt_blk hh,List.getElem?_toArray] at ho
   exact List.mem_of_getElem? ho
  exact ⟨fun o x ho=>(hall _ (hc o _ ho)).1 x rfl,fun o t ho=>(hall _ (hc o _ ho)).2 t rfl⟩
abbrev Fl:=ByteArray×Bs
def FlP (w:World) (cs:List Value) (x:Fl):Prop:=∃ (B:Option Addr) (m k:Nat),cs=[.string x.1,.slice B m k]/\Sl w 1 B m (bys x.2)/\m<=k
def ISl (w:World) (A:Option Addr) (n:Nat) (l:List Fl):Prop:=∃ vs,Sl w 2 A n vs/\l.length=n/\Ech 2 (FlP w) vs l
theorem FlP.fr0 {w w':World} {cs:List Value} {x:Fl} (h:FlP w cs x) (f:Fr (fun _=>False) w w'):FlP w' cs x:=by
 obtain ⟨B,m,k,e,h1,h2⟩:=h
 exact ⟨B,m,k,e,f.sl h1 (fun _ _ _ h=>h),h2⟩
theorem ISl.fr0 {w w':World} {A:Option Addr} {n:Nat} {l:List Fl} (h:ISl w A n l) (f:Fr (fun _=>False) w w'):ISl w' A n l:=by
 obtain ⟨vs,h1,h2,h3⟩:=h
 exact ⟨vs,f.sl h1 (fun _ _ _ h=>h),h2,h3.mono (fun cs x hx=>hx.fr0 f)⟩
theorem FlP.one {w:World} {cs:List Value} {x:Fl} (h:FlP w cs x):cs.length=2/\(∀ v ∈ cs,v.oneCell'=true)/\∀ v ∈ cs,(∀ x,v ≠ .int .u8 x)/\∀ t,v ≠ .bool t:=by
 obtain ⟨B,m,k,rfl,_⟩:=h
 refine ⟨rfl,fun v hv=>?_,fun v hv=>?_⟩
 ·simp only [List.mem_cons,List.not_mem_nil,or_false] at hv
  rcases hv with rfl | rfl <;> rfl
 ·simp only [List.mem_cons,List.not_mem_nil,or_false] at hv
  rcases hv with rfl | rfl <;> exact ⟨fun x=>Value.noConfusion,fun t=>Value.noConfusion⟩
def KL (it:ByteArray) (id:Int) (l:List Nm):Prop:=findN it l=some id/\∀ x ∈ l,x.2=id->x.1=it
structure Kp (d:Dk) (it:ByteArray) (id:Int) (b:Bs):Prop where
 all:∀ i:Nat,i<=d.F.P.length->KL it id (behF d.F (i:Nat))
 file:d.f id=⟨b,[]⟩
 old:id<=d.last
structure UpB (d d':Dk):Prop where
 fo:d'.F.L.length+d'.F.P.length<=d.F.L.length+d.F.P.length+1
 p:∀ N,(∀ id,(d.f id).p.length<=N)->∀ id,(d'.f id).p.length<=N+1
 last:d.last<=d'.last/\d'.last<=d.last+1
 calls:d.calls<=d'.calls/\d'.calls<=d.calls+1
 lb:d'.lb=d.lb
 lf:d'.lf=d.lf
def sA:ByteArray:=⟨#[97]⟩
def cA:Ch:=⟨1,sA,⟨#[]⟩,1⟩
def FA:Fo:=⟨[],[cA]⟩
def XA:Ino:=⟨[],[⟨false,0,[120,121]⟩]⟩
noncomputable def D1:Dk:={ newD 100 4 with F:=FA,f:=trim FA (newD 100 4).f,last:=1,calls:=1 }
noncomputable def D2:Dk:={ D1 with f:=updF D1.f 1 XA,calls:=2 }
theorem fA:findN sA (nowF FA)=some 1:=by decide
structure ClB (c:Cl):Prop where
 nm:c.nm.size<=1099511627775
 to:c.to.size<=1099511627775
 data:c.data.length<=1099511627775
 n : -9223372036854775808<=c.n/\c.n<=9223372036854775807
structure DkG (d:Dk) (N:Nat):Prop where
 i:DkI d
 b:DkB d N
open Classical in
noncomputable def lodS (d:Dk) (x:Fl):Dk:=if (findN x.1 (nowF d.F)).isSome=true\/¬ DiskP x.1\/x.2.length > 1048576 then d else { d with last:=d.last+1,F:=⟨d.F.L ++ [(x.1,d.last+1)],[]⟩,f:=updF d.f (d.last+1) ⟨x.2,[]⟩ }
noncomputable def lodF (lb lf:Int) (l:List Fl):Dk:=l.foldl lodS (newD lb lf)
noncomputable def loadD (lb lf:Int) (l:List Fl):Dk:={ lodF lb lf l with F:=⟨nowF (lodF lb lf l).F,[]⟩ }
structure LdI (d:Dk) (lb lf:Int) (N:Nat):Prop where
 P:d.F.P=[]
 st:d.down=false/\d.fu=none/\d.calls=0/\d.lb=lb/\d.lf=lf
 len:d.last=d.F.L.length/\d.F.L.length<=N
 ids:∀ id,(∃ nm,(nm,id) ∈ d.F.L) ↔ 1<=id/\id<=d.last
 dis:∀ x ∈ d.F.L,findN x.1 d.F.L=some x.2
 out:∀ id,¬ (1<=id/\id<=d.last)->d.f id=zI
 ino:∀ id,InoB (d.f id)/\(d.f id).p=[]
theorem nowF_nil {F:Fo} (h:F.P=[]):nowF F=lastN F.L:=by
 rw [nowF_at,h]; rfl
theorem new_L (lb lf:Int):LdI (newD lb lf) lb lf 0:=by
 refine ⟨rfl,⟨rfl,rfl,rfl,rfl,rfl⟩,⟨rfl,Nat.le_refl _⟩,fun id=>⟨(fun ⟨_,h⟩=>by cases h),fun h=>?_⟩,fun x hx=>(by cases hx),fun id _=>rfl,fun id=>⟨zI_B,rfl⟩⟩
 have h:1<=id/\id<=0:=h
 omega
theorem LdI.step {d:Dk} {lb lf:Int} {N:Nat} (h:LdI d lb lf N) (x:Fl):LdI (lodS d x) lb lf (N+1):=by
 unfold lodS
 split
 ·exact ⟨h.P,h.st,⟨h.len.1,by have:=h.len.2; omega⟩,h.ids,h.dis,h.out,h.ino⟩
 ·rename_i hc
  have hf:findN x.1 d.F.L=none:=by
   rw [nowF_nil h.P,lastN_find] at hc
   cases hq:findN x.1 d.F.L with
   | none=>rfl
   | some v=>exact absurd (.inl (by rw [hq]; rfl)) hc
  have hx:x.2.length<=1048576:=by
   by_cases hx:x.2.length<=1048576
   ·exact hx
   ·exact absurd (.inr (.inr (by omega))) hc
  have hl:=h.len
  refine ⟨rfl,h.st,⟨?_,?_⟩,fun id=>?_,fun y hy=>?_,fun id hid=>?_,fun id=>?_⟩
  ·show d.last+1=(((d.F.L ++ [(x.1,d.last+1)]).length:Nat):Int)
   rw [List.length_append,List.length_singleton]; omega
  ·show (d.F.L ++ [(x.1,d.last+1)]).length<=_
   rw [List.length_append,List.length_singleton]; omega
  ·show (∃ nm,(nm,id) ∈ d.F.L ++ [(x.1,d.last+1)]) ↔ 1<=id/\id<=d.last+1
   have hi:=h.ids id
   constructor
   ·rintro ⟨nm,hm⟩
    rcases List.mem_append.1 hm with hm | hm
    ·have:=hi.1 ⟨nm,hm⟩; omega
    ·have:=congrArg Prod.snd (List.mem_singleton.1 hm)
     have this:id=d.last+1:=this
     omega
   ·intro hr
    by_cases he:id=d.last+1
    ·exact ⟨x.1,by rw [he]; simp⟩
    ·obtain ⟨nm,hm⟩:=hi.2 (by omega)
     exact ⟨nm,List.mem_append.2 (.inl hm)⟩
  ·have hy:y ∈ d.F.L ++ [(x.1,d.last+1)]:=hy
   show findN y.1 (d.F.L ++ [(x.1,d.last+1)])=some y.2
   rw [findN_app]
   rcases List.mem_append.1 hy with hm | hm
   ·rw [h.dis y hm]; rfl
   ·rw [List.mem_singleton.1 hm]
    show (findN x.1 d.F.L).or _=_
    rw [hf]
    show findN x.1 [(x.1,d.last+1)]=some (d.last+1)
    simp [findN]
  ·have hid:¬ (1<=id/\id<=d.last+1):=hid
   show updF d.f (d.last+1) ⟨x.2,[]⟩ id=zI
   unfold updF
   rw [if_neg (by omega)]
   exact h.out id (by omega)
  ·show InoB (updF d.f (d.last+1) ⟨x.2,[]⟩ id)/\(updF d.f (d.last+1) ⟨x.2,[]⟩ id).p=[]
   unfold updF
   split
   ·exact ⟨⟨hx,fun y hy=>by cases hy⟩,rfl⟩
   ·exact h.ino id
theorem lod_L (lb lf:Int) (l:List Fl):LdI (lodF lb lf l) lb lf l.length:=by
 have key:∀ (l:List Fl) (d:Dk) (N:Nat),LdI d lb lf N->LdI (l.foldl lodS d) lb lf (N+l.length):=by
  intro l
  induction l with
  | nil=>intro d N h; exact h
  | cons x r ih =>
   intro d N h
   have:=ih (lodS d x) (N+1) (h.step x)
   rw [List.foldl_cons,List.length_cons,show N+(r.length+1)=N+1+r.length by omega]
   exact this
 have:=key l (newD lb lf) 0 (new_L lb lf)
 rw [Nat.zero_add] at this
 exact this
theorem lod_step {l:List Fl} {i:Nat} {x:Fl} (h:l[i]?=some x) (lb lf:Int):lodF lb lf (l.take (i+1))=lodS (lodF lb lf (l.take i)) x:=by
 unfold lodF
 rw [List.take_add_one,h,List.foldl_append]; rfl
def upto (n:Nat):List Int:=(List.range n).map fun (k:Nat)=>((k:Int)+1)
theorem upto_mem {n:Nat} {id:Int}:id ∈ upto n ↔ 1<=id/\id<=n:=by
 unfold upto
 rw [List.mem_map]
 constructor
 ·rintro ⟨k,hk,rfl⟩
  have:=List.mem_range.1 hk
  omega
 ·intro h
  exact ⟨(id - 1).toNat,List.mem_range.2 (by omega),by show (((id - 1).toNat:Nat):Int)+1=id; omega⟩
theorem upto_asc (n:Nat):AscI (upto n):=by
 unfold upto
 refine List.Pairwise.map _ (fun a b (h:a < b)=>by omega) List.pairwise_lt_range
theorem asc_find:∀ {l:List Nm} {nm:ByteArray} {id:Int},AscN l->(nm,id) ∈ l->findN nm l=some id
 | [],nm,id,_,h=>by cases h
 | x :: l,nm,id,ha,h=>by
  have ha':=List.pairwise_cons.1 ha
  unfold findN
  rcases List.mem_cons.1 h with e | h
  ·rw [<- e,if_pos rfl]
  ·have hlt:=ha'.1 _ h
   rw [if_neg (fun e=>by rw [e,cmpN_self] at hlt; omega)]
   exact asc_find ha'.2 h
theorem lod_ids {d:Dk} {lb lf:Int} {N:Nat} (h:LdI d lb lf N):idsF ⟨nowF d.F,[]⟩=upto d.F.L.length:=by
 refine AscI.unique (ids_asc _) (upto_asc _) (fun id=>?_)
 rw [upto_mem,ids_one,lastN_id (nowF_asc _),nowF_nil h.P]
 have hl:=h.len.1
 constructor
 ·rintro ⟨nm,hm⟩
  have h1:findN nm d.F.L=some id:=by rw [<- lastN_find]; exact asc_find (lastN_asc _) hm
  have:=(h.ids id).1 ⟨nm,findN_mem h1⟩
  omega
 ·intro hr
  obtain ⟨nm,hm⟩:=(h.ids id).2 (by omega)
  have h1:=h.dis _ hm
  rw [<- lastN_find] at h1
  exact ⟨nm,findN_mem h1⟩
theorem load_I {lb lf:Int} {l:List Fl}:DkI (loadD lb lf l):=by
 have h:=lod_L lb lf l
 have hi:=lod_ids h
 refine ⟨fun id hid=>?_,fun id hid=>?_,fun id=>(h.ino id).1,fun n hn=>?_⟩
 ·have hid:id ∉ idsF ⟨nowF (lodF lb lf l).F,[]⟩:=hid
  rw [hi,upto_mem] at hid
  have:=h.len.1
  exact h.out id (by omega)
 ·have hid:id ∈ idsF ⟨nowF (lodF lb lf l).F,[]⟩:=hid
  rw [hi,upto_mem] at hid
  have:=h.len.1
  show 1<=id/\id<=(lodF lb lf l).last
  omega
 ·have hn:(lodF lb lf l).fu=some n:=hn
  rw [h.st.2.1] at hn; cases hn
theorem load_B {lb lf:Int} {l:List Fl} (h1:lb<=9223372036854775807) (h2:lf<=9223372036854775807):DkB (loadD lb lf l) l.length:=by
 have h:=lod_L lb lf l
 obtain ⟨q1,q2,q3,q4,q5⟩:=h.st
 have hl:=h.len
 have hn:(nowF (lodF lb lf l).F).length<=(lodF lb lf l).F.L.length:=by rw [nowF_nil h.P]; exact lastN_len _
 refine ⟨by show (nowF (lodF lb lf l).F).length+0<=_; omega,fun id=>by show ((lodF lb lf l).f id).p.length<=_; rw [(h.ino id).2]; exact Nat.zero_le _,by show 0<=(lodF lb lf l).last/\(lodF lb lf l).last<=_; omega,by show 0<=(lodF lb lf l).calls/\(lodF lb lf l).calls<=_; omega,fun n hn=>?_,by show (lodF lb lf l).lb<=_; omega,by show (lodF lb lf l).lf<=_; omega⟩
 have hn:(lodF lb lf l).fu=some n:=hn
 rw [q2] at hn; cases hn
theorem fls_no (l:List Nm):∀ v ∈ flt encN l,(∀ x,v ≠ .int .u8 x)/\∀ t,v ≠ .bool t:=by
 intro v hv
 simp only [flt,List.mem_flatten,List.mem_map] at hv
 obtain ⟨_,⟨x,_,rfl⟩,hv⟩:=hv
 simp only [encN,List.mem_cons,List.not_mem_nil,or_false] at hv
 rcases hv with rfl | rfl
 ·exact ⟨fun x=>Value.noConfusion,fun t=>Value.noConfusion⟩
 ·exact ⟨(fun x h=>by injection h with h; cases h),fun t=>Value.noConfusion⟩
abbrev ZN:List Value:=[Value.string (⟨#[]⟩:ByteArray),Value.int .i64 0]
theorem zn_no:∀ v ∈ ZN,(∀ x,v ≠ .int .u8 x)/\∀ t,v ≠ .bool t:=by
 intro v hv
 simp only [List.mem_cons,List.not_mem_nil,or_false] at hv
 rcases hv with rfl | rfl
 ·exact ⟨fun x=>Value.noConfusion,fun t=>Value.noConfusion⟩
 ·exact ⟨(fun x h=>by injection h with h; cases h),fun t=>Value.noConfusion⟩
theorem fl_rdA {w:World} {A:Option Addr} {n:Nat} {l:List Fl} (h:ISl w A n l) {i:Nat} {x:Fl} (hi:l[i]?=some x) (hin:i < n) {K:List Value->Prop} (hK:∀ cs,FlP w cs x->K cs) :
  dr A fun b o=>gd (decide (0<=(i:Int))) (gd (decide ((i:Int) < ((n:Nat):Int))) (ldA 2 w b (o+((i:Int)).toNat * 2) K)):=by
 obtain ⟨vs,hs,_,hE⟩:=h
 exact el_all hs hE (by omega) hi hin (fun cs _ hx=>hK cs hx)
theorem New_raw (lb lf:Int) (w:World) :
  Calls Tryz.prog 19 #[ofL [.int .i64 lb,.int .i64 lf]] w fun e w'=>Fr (fun _=>False) w w'/\∃ db r,e=.returned (.pointer (some ⟨db,0,none⟩))/\RecAt w' db 77 (dkC (newD lb lf) (.slice none 0 0) (.slice none 0 0) r false 0)/\FilesAt w' r (newD lb lf).f/\w.heap.size<=db/\w.heap.size<=r/\db ≠ r:=by
 refine (F19.of _ w (Q:=fun v w'=>Fr (fun _=>False) w w'/\∃ db r,v=.pointer (some ⟨db,0,none⟩)/\RecAt w' db 77 (dkC (newD lb lf) (.slice none 0 0) (.slice none 0 0) r false 0)/\FilesAt w' r (newD lb lf).f/\w.heap.size<=db/\w.heap.size<=r/\db ≠ r) ?_).mono (fun e w' ⟨v,he,hf,db,r,hv,h⟩=>⟨hf,db,r,by rw [he,hv],h⟩)
 refine rec_new (fun b1 w2 f1 hb1 r1=>⟨_,rfl,rec_all r1,mmk_mk (fun w5 hM f5 hs5=>gd_mk rfl (rec_new (fun b6 w7 f7 hb6 r6=>⟨(f1.trans1 f5).trans1 f7,b6,w2.heap.size,rfl,r6,⟨_,hM.fr f7 (fun h=>h),fun id=>⟨ZI,rfl,zI_at _⟩⟩,?_,f1.size,by omega⟩)))⟩)
 have:=f1.size
 omega
theorem dk_alien' {w:World} {db:Nat} {d:Dk} {A1 A2:Option Addr} {n1 c1 n2 c2:Nat} {r:Nat} {fz:Bool} {lv:Int} (h:RecAt w db 77 (dkC d (.slice A1 n1 c1) (.slice A2 n2 c2) r fz lv)):Alien w db:=by
 have hc:∀ o,cellAt w db o=(dkC d (.slice A1 n1 c1) (.slice A2 n2 c2) r fz lv)[o]?:=fun o=>by rw [cellAt_blk h]; simp
 refine ⟨fun o s hs=>?_,fun o x hx=>?_,fun o t z A1 n1 c1 ht=>?_⟩
 ·rw [hc] at hs
  match o,hs with
  | 0,hs=>cases hs
  | 1,hs=>cases hs
  | 2,hs=>cases hs
  | 3,hs=>cases hs
  | 4,hs=>cases hs
  | 5,hs=>cases hs
  | 6,hs=>cases hs
  | 7,hs=>cases hs
  | 8,hs=>cases hs
  | 9,hs=>cases hs
  | o+10,hs=>cases hs
 ·rw [hc] at hx
  match o,hx with
  | 0,hx=>cases hx
  | 1,hx=>cases hx
  | 2,hx=>cases hx
  | 3,hx=>cases hx
  | 4,hx=>cases hx
  | 5,hx=>cases hx
  | 6,hx=>cases hx
  | 7,hx=>cases hx
  | 8,hx=>cases hx
  | 9,hx=>cases hx
  | o+10,hx=>cases hx
 ·obtain ⟨h0,h1,h2⟩:=ht
  rw [hc] at h0 h1 h2
  match o,h0,h1,h2 with
  | 0,h0,h1,h2=>cases h0
  | 1,h0,h1,h2=>cases h0
  | 2,h0,h1,h2=>cases h0
  | 3,h0,h1,h2=>cases h0
  | 4,h0,h1,h2=>cases h0
  | 5,h0,h1,h2=>cases h0
  | 6,h0,h1,h2=>cases h1
  | 7,h0,h1,h2=>cases h2
  | 8,h0,h1,h2=>cases h0
  | 9,h0,h1,h2=>cases h0
  | o+10,h0,h1,h2=>cases h0
structure LdP (w:World) (B db r:Nat) (d:Dk) (A:Option Addr) (c:Nat):Prop where
 re:RecAt w db 77 (dkC d (.slice A d.F.L.length c) (.slice none 0 0) r false 0)
 L:RowW w B 80 2 ZN A d.F.L.length c (flt encN d.F.L)
 fi:FilesAt w r d.f
theorem LdP.fo {w:World} {B db r:Nat} {d:Dk} {A:Option Addr} {c:Nat} (h:LdP w B db r d A c) (hP:d.F.P=[]):FoAt w [.slice A d.F.L.length c,.slice none 0 0] d.F :=
 ⟨_,_,_,_,_,_,rfl,⟨h.L.sl,rfl⟩,⟨by rw [hP]; exact Sl.nil _ _ _,by rw [hP]; rfl⟩,Nat.le_refl _⟩
theorem LdP.fr0 {w w':World} {B db r:Nat} {d:Dk} {A:Option Addr} {c:Nat} (h:LdP w B db r d A c) (f:Fr (fun _=>False) w w'):LdP w' B db r d A c :=
 ⟨h.re.fr f (fun h=>h),f.rowW h.L (fun _ _ h=>h),h.fi.fr f (fun h=>h) (fun _ h=>h.elim)⟩
set_option maxHeartbeats 8000000 in
theorem Load_calls (lb lf:Int) (A:Option Addr) (n c:Nat) (l:List Fl) (w:World) (hl:ISl w A n l) (hn:n<=349525) (hs:∀ x ∈ l,x.1.size<=1099511627775) (hd:∀ x ∈ l,x.2.length<=1099511627775) :
  Calls Tryz.prog 7 #[ofL [.int .i64 lb,.int .i64 lf],.slice A n c] w fun e w'=>Fr (fun _=>False) w w'/\∃ db r,e=.returned (.pointer (some ⟨db,0,none⟩))/\DkAt w' db r (loadD lb lf l)/\w.heap.size<=db/\w.heap.size<=r:=by
 refine (F7.of _ A n c w (Q:=fun v w'=>Fr (fun _=>False) w w'/\∃ db r,v=.pointer (some ⟨db,0,none⟩)/\DkAt w' db r (loadD lb lf l)/\w.heap.size<=db/\w.heap.size<=r) ?_).mono (fun e w' ⟨v,he,hf,db,r,hv,h⟩=>⟨hf,db,r,by rw [he,hv],h⟩)
 have hln:l.length=n:=by obtain ⟨_,_,h2,_⟩:=hl; exact h2
 refine rec_new (fun b1 w2 f1 hb1 r1=>⟨_,rfl,rec_all r1,(New_raw lb lf w2).mono ?_⟩)
 rintro e w4 ⟨f4,db,r,rfl,q1,q3,hdb,hr,hne⟩
 have hs1:=f1.size
 have f04:=f1.trans1 f4
 have hs4:=f04.size
 have hfar:∀ k,k < w.heap.size->¬ DS db r k:=by rintro k hk (rfl | rfl) <;> omega
 have up:∀ {u v:World},Fr (fun _=>False) w u->Fr (DS db r) u v->Fr (fun _=>False) w v:=fun fu fv=>fu.trans fv (fun _ _ h=>h) (fun k hk h=>hfar k hk h)
 have P0:LdP w4 w.heap.size db r (newD lb lf) none 0:=⟨q1,RowW.nil _ _ _ _ _,q3⟩
 refine ⟨_,rfl,jnC_mk (loop_rule (fun s x=>Fr (fun _=>False) w x/\∃ (i:Nat) (B:Option Addr) (k:Nat),i<=n/\s=(some ⟨db,0,none⟩,(A,n,c),(n:Int),(i:Int),())/\LdP x w.heap.size db r (lodF lb lf (l.take i)) B k)
  (fun s _=>(n - s.2.2.2.1).toNat) ?_ _ _ ⟨f04,0,none,0,by omega,rfl,P0⟩)⟩
 rintro s x C ⟨hf,i,B,k,hi,rfl,hP⟩ hC _
 have hI:=lod_L lb lf (l.take i)
 have hti:(l.take i).length=i:=by rw [List.length_take]; omega
 rw [hti] at hI
 have hbF:FoB (lodF lb lf (l.take i)).F:=by
  have:=hI.len
  unfold FoB
  rw [hI.P]
  show (lodF lb lf (l.take i)).F.L.length+0<=349525
  omega
 have ms:((n:Int) - IntKind.wrap .i64 ((i:Int)+1)).toNat < ((n:Int) - (i:Int)).toNat\/¬ i < n:=by
  by_cases h:i < n
  ·left; rw [ei i (by omega)]; omega
  ·exact .inr h
 refine vIf_mk (fun hlt=>?_) (fun hge=>?_)
 ·have hlt:(i:Int) < (n:Int):=of_decide_eq_true hlt
  have gi:l[i]?=some (l[i]'(by omega)):=List.getElem?_eq_getElem (by omega)
  generalize l[i]'(by omega)=y at gi
  have hym:=List.mem_of_getElem? gi
  have hys:=hs y hym
  have hyd:=hd y hym
  have hst:=lod_step gi lb lf
  generalize lodF lb lf (l.take i)=d at hP hI hbF hst
  refine fl_rdA (hl.fr0 hf) gi (by omega) (fun cs hy=>?_)
  have hy1:=hy.one
  refine var_new rfl hy1.1 hy1.2.1 (fun b10 w12 f12 hb10 r10=>dr_mk ?_)
  have fd:Fr (fun _=>False) w12 w12.drew:=Fr.drew _ _
  have f1d:=f12.trans1 fd
  have hfz:=hf.trans1 f1d
  have r10:=r10.fr fd (fun h=>h)
  have hPz:=hP.fr0 f1d
  have hyz:=hy.fr0 f1d
  generalize w12.drew=z at fd f1d hfz r10 hPz hyz ⊢
  have hPr:=hPz.re
  obtain ⟨D,m,k',ecs,hD,hmk⟩:=hyz
  subst ecs
  have hbl:=by_n hD
  have hFz:=hPz.fo hI.P
  have skip:∀ u:World,Fr (fun _=>False) z u->lodS d y=d->jnC C (some ⟨db,0,none⟩,(A,n,c),(n:Int),IntKind.wrap .i64 ((i:Int)+1),()) u:=by
   intro u fu e
   refine jnC_mk (hC _ _ ⟨hfz.trans1 fu,i+1,B,k,by omega,by rw [ei i (by omega)],?_⟩ (ms.resolve_right (by omega)))
   rw [hst,e]
   exact hPz.fr0 fu
  refine ⟨[.slice B d.F.L.length k,.slice none 0 0],rfl,hPr.cells (fun j x hj=>?_),y.1,r10.cell rfl,(find_calls _ d.F y.1 z hFz hbF).mono ?_⟩
  ·match j,hj with
   | 0,hj=>exact hj
   | 1,hj=>exact hj
   | j+2,hj=>cases hj
  rintro e w17 ⟨rfl,f17⟩
  refine ⟨_,_,rfl,vIf_mk (fun hin=>skip w17 f17 ?_) (fun hin=>⟨y.1,(r10.fr f17 (fun h=>h)).cell rfl,(disk_calls y.1 w17 hys).mono ?_⟩)⟩
  ·unfold lodS
   rw [if_pos (.inl hin)]
  have hin:(findN y.1 (nowF d.F)).isSome=false:=hin
  rintro e v ⟨⟨t,rfl,ht⟩,hv17⟩
  have f17:Fr (fun _=>False) z v:=by rw [hv17]; exact f17
  clear hv17
  refine ⟨t,rfl,vIf_mk (fun hno=>skip _ f17 ?_) (fun hok=>⟨D,m,k',(r10.fr f17 (fun h=>h)).cell (o:=0+1) rfl,vIf_mk (fun hbig=>skip _ f17 ?_) (fun hbig=>jnC_mk (fun _=>?_))⟩)⟩
  ·have hno:t=false:=by simpa using hno
   unfold lodS
   rw [if_pos (.inr (.inl (fun h=>by have:=ht.2 h; rw [hno] at this; cases this)))]
  ·have hbig:=of_decide_eq_true hbig
   unfold lodS
   rw [if_pos (.inr (.inr (by omega)))]
  have hok:t=true:=by simpa using hok
  have hbig:=of_decide_eq_false hbig
  have eS:lodS d y={ d with last:=d.last+1,F:=⟨d.F.L ++ [(y.1,d.last+1)],[]⟩,f:=updF d.f (d.last+1) ⟨y.2,[]⟩ }:=by
   unfold lodS
   rw [if_neg (fun h=>h.elim (fun h=>by rw [hin] at h; cases h) (fun h=>h.elim (fun h=>h (ht.1 hok)) (fun h=>by omega)))]
  have hPv:=hPz.fr0 f17
  have hDv:=f17.sl hD (fun _ _ _ h=>h)
  have r10:=r10.fr f17 (fun h=>h)
  have hfv:=hfz.trans1 f17
  have hlen:=hI.len
  have hdbx:=hP.re.lt
  have hs12:=f12.size
  have hb10:b10 ≠ db:=by omega
  have ew:IntKind.wrap .i64 (d.last+1)=d.last+1:=i64_id (by omega) (by omega)
  have hFv:=hPv.fo hI.P
  have hav:=dk_alien hPv.re hFv
  have hSv:∀ q,q=db->Alien v q:=fun q hq=>by rw [hq]; exact hav
  have hlt10:=r10.lt
  refine dr_mk ⟨d.last,hPv.re.cell (o:=0+5) rfl,dr_mk (hPv.re.st_mk (by show 0+5+1<=10; omega) (fun x hx=>by simp at hx; subst hx; rfl) (fun re2 f2=>?_))⟩
  rw [ew] at re2 f2 ⊢
  generalize stB v db (0+5) [Value.int .i64 (d.last+1)]=w33 at re2 f2 ⊢
  have re2:RecAt w33 db 77 (dkC { d with last:=d.last+1 } (.slice B d.F.L.length k) (.slice none 0 0) r false 0):=re2
  have hL2:=f2.rowW hPv.L (fun q hq h=>hPv.L.ne_type hPv.re (by decide) q hq h)
  have hf2:=hPv.fi.fr f2 (fun h=>hne h.symm) hSv
  have hD2:=by_fr hDv f2 hSv
  have r102:=r10.fr f2 (fun h=>hb10 h)
  refine dr_mk ?_
  have fd2:Fr (fun _=>False) w33 w33.drew:=Fr.drew _ _
  have re2:=re2.fr fd2 (fun h=>h)
  have hL2:=fd2.rowW hL2 (fun _ _ h=>h)
  have hf2:=hf2.fr fd2 (fun h=>h) (fun _ h=>h.elim)
  have hD2:=fd2.sl hD2 (fun _ _ _ h=>h)
  have r102:=r102.fr fd2 (fun h=>h)
  have g2:Fr (DS db r) v w33.drew:=(f2.mono (fun _ _ h=>.inl h)).trans fd2 (fun _ _ h=>h) (fun _ _ h=>h.elim)
  generalize w33.drew=w34 at fd2 re2 hL2 hf2 hD2 r102 g2 ⊢
  refine ⟨B,_,k,re2.cell (o:=0+2) rfl,y.1,r102.cell rfl,dr_mk ⟨d.last+1,re2.cell (o:=0+5) rfl,gd_mk rfl ?_⟩⟩
  refine rec_new (fun b43 w44 f44 hb43 r43=>kp_mk f44 re2.lt (fun h=>h) ?_)
  have re3:=re2.fr f44 (fun h=>h)
  have hL3:=f44.rowW hL2 (fun _ _ h=>h)
  have hf3:=hf2.fr f44 (fun h=>h) (fun _ h=>h.elim)
  have hD3:=f44.sl hD2 (fun _ _ _ h=>h)
  have r103:=r102.fr f44 (fun h=>h)
  have hsl43:Sl w44 2 (some ⟨b43,0,none⟩) 1 (encN (y.1,d.last+1)):=⟨rfl,fun _=>⟨b43,0,rfl,rec_all r43⟩⟩
  have hsz44:w.heap.size<=w44.heap.size:=by
   have a1:=hfv.size
   have a2:=g2.size
   have a3:=f44.size
   omega
  refine app_rowW hL3 hsl43.src (encN_o.one _) rfl (by omega) (by omega) hsz44 (fun A45 c47 w48 hL4 f48 hA45=>?_)
  have haL:=rowW_alien hL3 (fls_no _) zn_no
  have re4:=re3.fr f48 (fun h=>hL3.ne_type re3 (by decide) db h rfl)
  have hf4:=hf3.frI f48 (fun h=>by
   have hmm:=hf3
   obtain ⟨g,⟨mm,cc,hmp,_⟩,_⟩:=hmm
   exact hL3.ne_obj hmp r h rfl) haL
  have hD4:=by_frI hD3 f48 haL
  have r104:=r103.fr f48 (fun h=>hL3.ne_type r103 (by decide) b10 h rfl)
  refine dr_mk (re4.st_mk (by show 0+2+1<=10; omega) (fun x hx=>by simp at hx; subst hx; rfl) (fun re5 f5=>?_))
  have al5:Alien w48 db:=by
   exact dk_alien' re4
  have hS5:∀ q,q=db->Alien w48 q:=fun q hq=>by rw [hq]; exact al5
  generalize stB w48 db (0+2) [Value.slice A45 (d.F.L.length+1) c47]=w51 at re5 f5 ⊢
  have re5:RecAt w51 db 77 (dkC { d with last:=d.last+1 } (.slice A45 (d.F.L.length+1) c47) (.slice none 0 0) r false 0):=re5
  have hL5:=f5.rowW hL4 (fun q hq h=>hL4.ne_type re4 (by decide) q hq h)
  have hf5:=hf4.fr f5 (fun h=>hne h.symm) hS5
  have hD5:=by_fr hD4 f5 hS5
  have r105:=r104.fr f5 (fun h=>hb10 h)
  refine dr_mk ?_
  have fd6:Fr (fun _=>False) w51 w51.drew:=Fr.drew _ _
  have re5:=re5.fr fd6 (fun h=>h)
  have hL5:=fd6.rowW hL5 (fun _ _ h=>h)
  have hf5:=hf5.fr fd6 (fun h=>h) (fun _ h=>h.elim)
  have hD5:=fd6.sl hD5 (fun _ _ _ h=>h)
  have r105:=r105.fr fd6 (fun h=>h)
  have g48:Fr (fun _=>False) w w48:=fr_own ((up hfv g2).trans1 f44) (fun q hq=>(hL3.blt hq).1) (Nat.le_refl _) f48
  have g51:Fr (fun _=>False) w w51.drew:=(up g48 (f5.mono (fun _ _ h=>.inl h))).trans1 fd6
  generalize w51.drew=w52 at fd6 re5 hL5 hf5 hD5 r105 g51 ⊢
  have hX:InoAt w52 [.slice D m k',.slice none 0 0] ⟨y.2,[]⟩:=⟨_,_,_,_,_,_,rfl,hD5,hmk,⟨[],Sl.nil _ _ _,rfl,Ech.nil⟩,Nat.le_refl _⟩
  have hXB:InoB ⟨y.2,[]⟩:=⟨by show y.2.length<=_; omega,fun q hq=>by cases hq⟩
  refine ⟨some r,re5.cell (o:=0+4) rfl,dr_mk ⟨d.last+1,re5.cell (o:=0+5) rfl,D,m,k',r105.cell (o:=0+1) rfl,(sync_calls' _ _ w52 hX hXB (by show 0<=_; omega)).mono ?_⟩⟩
  rintro e w61 ⟨f61,cs',rfl,hX'⟩
  refine ⟨cs',rfl,kp_mk f61 re5.lt (fun h=>h) (kp_mk f61 re5.lt (fun h=>h) (files_put (hf5.fr f61 (fun h=>h) (fun _ h=>h.elim)) hX' (fun w64 hF64 f64=>?_)))⟩
  have hFi61:=hf5.fr f61 (fun h=>h) (fun _ h=>h.elim)
  refine jnC_mk (hC _ _ ⟨up (g51.trans1 f61) (f64.mono (fun _ _ h=>.inr h)),i+1,A45,c47,by omega,by rw [ei i (by omega)],?_⟩ (ms.resolve_right (by omega)))
  rw [hst,eS]
  have hll:(d.F.L ++ [(y.1,d.last+1)]).length=d.F.L.length+1:=by rw [List.length_append]; rfl
  have hL6:=f61.rowW hL5 (fun _ _ h=>h)
  have hL7:=f64.rowW hL6 (fun q hq h=>by
   have hmm:=hFi61
   obtain ⟨g,⟨mm,cc,hmp,_⟩,_⟩:=hmm
   exact hL6.ne_obj hmp q hq h)
  refine ⟨?_,?_,?_⟩
  ·show RecAt w64 db 77 (dkC { d with last:=d.last+1 } (.slice A45 (d.F.L ++ [(y.1,d.last+1)]).length c47) (.slice none 0 0) r false 0)
   rw [hll]
   exact (re5.fr f61 (fun h=>h)).fr f64 (fun h=>hne h)
  ·show RowW w64 _ _ 2 ZN A45 (d.F.L ++ [(y.1,d.last+1)]).length c47 (flt encN (d.F.L ++ [(y.1,d.last+1)]))
   rw [hll,flt_app,flt_one]
   exact hL7
  ·exact hF64
 ·have hge:¬ (i:Int) < (n:Int):=of_decide_eq_false hge
  have eT:l.take i=l:=List.take_of_length_le (by omega)
  rw [eT] at hP hI hbF
  have hFx:=hP.fo hI.P
  have hDk:DkAt x db r (lodF lb lf l):=⟨_,_,_,_,hP.re,hFx,hP.fi,by rw [hI.st.2.1]; rfl⟩
  refine dr_mk (dk_getF hDk (fun cs hF=>(sync_calls cs _ x hF hbF).mono ?_))
  rintro e w69 ⟨f69,cs',rfl,hF'⟩
  refine ⟨cs',rfl,dr_mk (dk_setF (hDk.fr0 f69) hF' (fun w74 f74 h74=>⟨up (hf.trans1 f69) (f74.mono (fun _ _ h=>.inl h)),db,r,rfl,h74,by omega,by omega⟩))⟩
end Go.Proofs.YtodmachaofepkaaGreatDoor
namespace Go.Proofs.YtodmachaofepkaaGreatDoor
open Go.GV
def leB (n:Nat):Nat->List UInt8
 | 0=>[]
 | k+1=>UInt8.ofNat (n % 256) :: leB (n / 256) k
def leT:List UInt8->Nat
 | []=>0
 | c :: r=>c.toNat+256 * leT r
theorem leB_len:∀ (k n:Nat),(leB n k).length=k
 | 0,n=>rfl
 | k+1,n=>by rw [leB,List.length_cons,leB_len k]
theorem u8n (n:Nat):(UInt8.ofNat (n % 256)).toNat=n % 256:=by simp
theorem u8n' {n:Nat} (h:n < 256):(UInt8.ofNat n).toNat=n:=by simp; omega
theorem leT_lt:∀ b:List UInt8,leT b < 256 ^ b.length
 | []=>by simp [leT]
 | c :: r=>by
  have h:=leT_lt r
  have hc:c.toNat < 256:=c.toNat_lt
  rw [leT,List.length_cons,Nat.pow_succ]
  omega
theorem leT_leB:∀ (k n:Nat),leT (leB n k)=n % 256 ^ k
 | 0,n=>by simp [leB,leT,Nat.mod_one]
 | k+1,n=>by
  rw [leB,leT,leT_leB k,u8n,Nat.pow_succ,Nat.mul_comm (256 ^ k) 256,Nat.mod_mul]
theorem leB_leT:∀ b:List UInt8,leB (leT b) b.length=b
 | []=>rfl
 | c :: r=>by
  have hc:c.toNat < 256:=c.toNat_lt
  rw [List.length_cons,leB,leT]
  have h1:(c.toNat+256 * leT r) % 256=c.toNat:=by omega
  have h2:(c.toNat+256 * leT r) / 256=leT r:=by omega
  rw [h1,h2,leB_leT r]
  congr 1
  exact UInt8.toNat_inj.1 (u8n' hc)
theorem leB_snoc:∀ (k n:Nat),leB n (k+1)=leB n k ++ [UInt8.ofNat (n / 256 ^ k % 256)]
 | 0,n=>by simp [leB]
 | k+1,n=>by
  rw [leB,leB_snoc k,leB]
  rw [List.cons_append,Nat.div_div_eq_div_mul,Nat.pow_succ,Nat.mul_comm (256 ^ k)]
theorem leT_app:∀ a b:List UInt8,leT (a ++ b)=leT a+256 ^ a.length * leT b
 | [],b=>by simp [leT]
 | c :: a,b=>by
  rw [List.cons_append,leT,leT,leT_app a b,List.length_cons,Nat.pow_succ]
  rw [Nat.mul_add,<- Nat.mul_assoc,Nat.mul_comm 256 (256 ^ a.length)]; omega
def vaF:Nat->Nat->List UInt8
 | 0,n=>[UInt8.ofNat (n % 256)]
 | k+1,n=>if n < 128 then [UInt8.ofNat n] else UInt8.ofNat (n % 128+128) :: vaF k (n / 128)
def vaB (n:Nat):List UInt8:=vaF 9 n
def vaGo:Nat->List UInt8->Nat×Nat×Int
 | _,[]=>(0,0,4)
 | i,c :: r =>
  if i=9/\c.toNat > 1 then (0,0,20)
  else if c.toNat >= 128 then (if (vaGo (i+1) r).2.2=0 then (c.toNat % 128+128 * (vaGo (i+1) r).1,(vaGo (i+1) r).2.1+1,0) else (0,0,(vaGo (i+1) r).2.2))
  else if c.toNat=0/\i > 0 then (0,0,3)
  else (c.toNat,1,0)
def vaT (b:List UInt8) (at_:Int):Nat×Int×Int :=
 if at_ < 0\/at_ > (b.length:Int) then (0,0,2)
 else if (vaGo 0 (b.drop at_.toNat)).2.2=0 then ((vaGo 0 (b.drop at_.toNat)).1,at_+((vaGo 0 (b.drop at_.toNat)).2.1:Int),0) else (0,0,(vaGo 0 (b.drop at_.toNat)).2.2)
theorem vaGo_len:∀ (b:List UInt8) (i:Nat),(vaGo i b).2.1<=b.length/\((vaGo i b).2.2=0->1<=(vaGo i b).2.1)
 | [],i=>⟨Nat.le_refl _,fun h=>by simp [vaGo] at h⟩
 | c :: r,i=>by
  have ih:=vaGo_len r (i+1)
  unfold vaGo
  split
  ·exact ⟨Nat.zero_le _,fun h=>by simp at h⟩
  ·split
   ·split
    ·simp only [List.length_cons]; exact ⟨by omega,fun _=>by omega⟩
    ·rename_i h; exact ⟨Nat.zero_le _,fun h'=>absurd h' h⟩
   ·split
    ·exact ⟨Nat.zero_le _,fun h=>by simp at h⟩
    ·simp only [List.length_cons]; exact ⟨by omega,fun _=>by omega⟩
theorem vaGo_err (b:List UInt8) (i:Nat) (h:(vaGo i b).2.2 ≠ 0):vaGo i b=(0,0,(vaGo i b).2.2):=by
 cases b with
 | nil=>rfl
 | cons c r =>
  unfold vaGo at h ⊢
  split
  ·rfl
  ·split
   ·split
    ·rename_i h1 h2 h3
     rw [if_neg h1,if_pos h2,if_pos h3] at h
     exact absurd rfl h
    ·rfl
   ·split
    ·rfl
    ·rename_i h1 h2 h3
     rw [if_neg h1,if_neg h2,if_neg h3] at h
     exact absurd rfl h
def crP:BitVec 32:=0x82f63b78#32
theorem bxc (a b c d:BitVec 32):(a ^^^ b) ^^^ (c ^^^ d)=(a ^^^ c) ^^^ (b ^^^ d):=by
 apply BitVec.eq_of_getLsbD_eq
 intro i _
 simp only [BitVec.getLsbD_xor]
 cases a.getLsbD i <;> cases b.getLsbD i <;> cases c.getLsbD i <;> cases d.getLsbD i <;> rfl
def crF (x:BitVec 32):BitVec 32:=(x >>> 1) ^^^ (if x.getLsbD 0 then crP else 0#32)
theorem crF_xor (a b:BitVec 32):crF (a ^^^ b)=crF a ^^^ crF b:=by
 unfold crF
 rw [BitVec.ushiftRight_xor_distrib,BitVec.getLsbD_xor,bxc]
 congr 1
 cases a.getLsbD 0 <;> cases b.getLsbD 0 <;> rfl
theorem crF_even {x:BitVec 32} (h:x.getLsbD 0=false):crF x=x >>> 1:=by
 unfold crF
 rw [h]
 show x >>> 1 ^^^ 0#32=x >>> 1
 rw [BitVec.xor_zero]
def crF4 (x:BitVec 32):BitVec 32:=crF (crF (crF (crF x)))
theorem crF4_xor (a b:BitVec 32):crF4 (a ^^^ b)=crF4 a ^^^ crF4 b:=by
 unfold crF4
 rw [crF_xor,crF_xor,crF_xor,crF_xor]
theorem crF4_hi {x:BitVec 32} (h:∀ k,k < 4->x.getLsbD k=false):crF4 x=x >>> 4:=by
 have g:∀ k,k < 4->(x >>> k).getLsbD 0=false:=fun k hk=>by rw [BitVec.getLsbD_ushiftRight,Nat.add_zero]; exact h k hk
 unfold crF4
 have h0:=crF_even (g 0 (by omega))
 have h1:=crF_even (g 1 (by omega))
 have h2:=crF_even (g 2 (by omega))
 have h3:=crF_even (g 3 (by omega))
 rw [<- BitVec.shiftRight_add] at h0 h1 h2 h3
 rw [BitVec.ushiftRight_zero] at h0
 rw [h0,h1,h2,h3]
theorem crF4_tab (y:BitVec 32):crF4 y=(y >>> 4) ^^^ crF4 (y &&& 15#32):=by
 have e:y=(y ^^^ (y &&& 15#32)) ^^^ (y &&& 15#32):=by rw [BitVec.xor_assoc,BitVec.xor_self,BitVec.xor_zero]
 have hm:∀ k,(15#32).getLsbD k=decide (k < 4):=by
  intro k
  by_cases hk:k < 32
  ·have:∀ j:Fin 32,(15#32).getLsbD j.val=decide (j.val < 4):=by decide
   exact this ⟨k,hk⟩
  ·rw [BitVec.getLsbD_of_ge _ _ (by omega),decide_eq_false (by omega)]
 have hlo:∀ k,k < 4->(y ^^^ (y &&& 15#32)).getLsbD k=false:=fun k hk=>by
  rw [BitVec.getLsbD_xor,BitVec.getLsbD_and,hm,decide_eq_true hk]; simp
 have hsh:(y ^^^ (y &&& 15#32)) >>> 4=y >>> 4:=by
  apply BitVec.eq_of_getLsbD_eq
  intro i _
  rw [BitVec.getLsbD_ushiftRight,BitVec.getLsbD_ushiftRight,BitVec.getLsbD_xor,BitVec.getLsbD_and,hm,decide_eq_false (by omega)]; simp
 have h1:crF4 y=crF4 (y ^^^ (y &&& 15#32)) ^^^ crF4 (y &&& 15#32):=by rw [<- crF4_xor,<- e]
 rw [h1,crF4_hi hlo,hsh]
def bitB (b:Bool):BitVec 32:=if b then 1#32 else 0#32
def crBits (c:BitVec 32) (l:List Bool):BitVec 32:=l.foldl (fun c b=>crF (c ^^^ bitB b)) c
theorem bitB_get (b:Bool) (i:Nat):(bitB b).getLsbD i=(b && decide (i=0)):=by
 unfold bitB
 cases b
 ·simp
 ·by_cases hi:i < 32
  ·have:∀ j:Fin 32,(1#32).getLsbD j.val=decide (j.val=0):=by decide
   exact this ⟨i,hi⟩
  ·rw [BitVec.getLsbD_of_ge _ _ (by omega),decide_eq_false (by omega)]; rfl
theorem crF_bit (b:Bool) (k:Nat) (hk:k+1 < 32):crF (bitB b <<< (k+1))=bitB b <<< k:=by
 have h:(bitB b <<< (k+1)).getLsbD 0=false:=by rw [BitVec.getLsbD_shiftLeft]; simp
 rw [crF_even h]
 apply BitVec.eq_of_getLsbD_eq
 intro i hi
 simp only [BitVec.getLsbD_ushiftRight,BitVec.getLsbD_shiftLeft,bitB_get]
 by_cases h1:i < k
 ·have h2:1+i < k+1:=by omega
  simp [h1,h2]
 ·have h2:¬ 1+i < k+1:=by omega
  have e:1+i - (k+1)=i - k:=by omega
  rw [e]
  by_cases h3:i - k=0
  ·have h4:1+i < 32:=by omega
   simp [h1,h2,h3,h4,hi]
  ·simp [h3]
def nib (b0 b1 b2 b3:Bool):BitVec 32:=bitB b0 ^^^ ((bitB b1 <<< 1) ^^^ ((bitB b2 <<< 2) ^^^ (bitB b3 <<< 3)))
theorem crBits4 (c:BitVec 32) (b0 b1 b2 b3:Bool):crBits c [b0,b1,b2,b3]=crF4 (c ^^^ nib b0 b1 b2 b3):=by
 have s1:∀ b,crF (bitB b <<< 1)=bitB b:=fun b=>by have:=crF_bit b 0 (by omega); rw [BitVec.shiftLeft_zero] at this; exact this
 have s2:∀ b,crF (bitB b <<< 2)=bitB b <<< 1:=fun b=>crF_bit b 1 (by omega)
 have s3:∀ b,crF (bitB b <<< 3)=bitB b <<< 2:=fun b=>crF_bit b 2 (by omega)
 show crF (crF (crF (crF (c ^^^ bitB b0) ^^^ bitB b1) ^^^ bitB b2) ^^^ bitB b3)=crF (crF (crF (crF (c ^^^ nib b0 b1 b2 b3))))
 unfold nib
 have e1:crF (c ^^^ (bitB b0 ^^^ ((bitB b1 <<< 1) ^^^ ((bitB b2 <<< 2) ^^^ (bitB b3 <<< 3)))))=crF (c ^^^ bitB b0) ^^^ (bitB b1 ^^^ ((bitB b2 <<< 1) ^^^ (bitB b3 <<< 2))):=by
  rw [<- BitVec.xor_assoc,crF_xor,crF_xor (bitB b1 <<< 1),crF_xor (bitB b2 <<< 2),s1,s2,s3]
 rw [e1]
 have e2:crF (crF (c ^^^ bitB b0) ^^^ (bitB b1 ^^^ ((bitB b2 <<< 1) ^^^ (bitB b3 <<< 2))))=crF (crF (c ^^^ bitB b0) ^^^ bitB b1) ^^^ (bitB b2 ^^^ (bitB b3 <<< 1)):=by
  rw [<- BitVec.xor_assoc,crF_xor,crF_xor (bitB b2 <<< 1),s1,s2]
 rw [e2]
 have e3:crF (crF (crF (c ^^^ bitB b0) ^^^ bitB b1) ^^^ (bitB b2 ^^^ (bitB b3 <<< 1)))=crF (crF (crF (c ^^^ bitB b0) ^^^ bitB b1) ^^^ bitB b2) ^^^ bitB b3:=by
  rw [<- BitVec.xor_assoc,crF_xor,s1]
 rw [e3]
def nibS (x n:BitVec 32):BitVec 32:=((x >>> 4) ^^^ crF4 ((x ^^^ n) &&& 15#32))
def byteS (x:BitVec 32) (c:UInt8):BitVec 32:=nibS (nibS x (BitVec.ofNat 32 (c.toNat % 16))) (BitVec.ofNat 32 (c.toNat / 16))
def crcS (b:List UInt8):BitVec 32 := ~~~ (b.foldl byteS (~~~ 0#32))
def bits8 (c:UInt8):List Bool:=(List.range 8).map fun k=>c.toNat.testBit k
def bitsL (b:List UInt8):List Bool:=(b.map bits8).flatten
theorem nib_small (x n:BitVec 32) (h:n >>> 4=0#32):nibS x n=crF4 (x ^^^ n):=by
 rw [crF4_tab,BitVec.ushiftRight_xor_distrib,h,BitVec.xor_zero]; rfl
theorem nib8:∀ c:Fin 256,(BitVec.ofNat 32 (c.val % 16)=nib (c.val.testBit 0) (c.val.testBit 1) (c.val.testBit 2) (c.val.testBit 3)/\BitVec.ofNat 32 (c.val / 16)=nib (c.val.testBit 4) (c.val.testBit 5) (c.val.testBit 6) (c.val.testBit 7))/\BitVec.ofNat 32 (c.val % 16) >>> 4=0#32/\BitVec.ofNat 32 (c.val / 16) >>> 4=0#32:=by decide +kernel
theorem byteS_bits (x:BitVec 32) (c:UInt8):byteS x c=crBits x (bits8 c):=by
 have hc:c.toNat < 256:=c.toNat_lt
 obtain ⟨⟨h1,h2⟩,h3,h4⟩:=nib8 ⟨c.toNat,hc⟩
 unfold byteS
 rw [nib_small _ _ h3,nib_small _ _ h4]
 simp only at h1 h2
 rw [h1,h2,<- crBits4,<- crBits4]
 rfl
theorem crc_bits (b:List UInt8):crcS b = ~~~ (crBits (~~~ 0#32) (bitsL b)):=by
 unfold crcS
 congr 1
 generalize ~~~ 0#32=x
 induction b generalizing x with
 | nil=>rfl
 | cons c r ih =>
  have e:bitsL (c :: r)=bits8 c ++ bitsL r:=by simp [bitsL]
  rw [List.foldl_cons,ih,e,byteS_bits]
  unfold crBits
  rw [List.foldl_append]
def gR (x:BitVec 32) (b:Bool):BitVec 32:=((x >>> 1) ||| (bitB b <<< 31)) ^^^ (if x.getLsbD 0 then crP else 0#32)
def win (l:List Bool):BitVec 32:=(List.range 32).foldl (fun x k=>x ^^^ (bitB (l.getD k false) <<< k)) 0#32
theorem win_get (l:List Bool) (i:Nat) (hi:i < 32):(win l).getLsbD i=l.getD i false:=by
 have key:∀ n,n<=32->((List.range n).foldl (fun x k=>x ^^^ (bitB (l.getD k false) <<< k)) 0#32).getLsbD i=(decide (i < n) && l.getD i false):=by
  intro n
  induction n with
  | zero=>intro _; simp
  | succ n ih =>
   intro hn
   rw [List.range_succ,List.foldl_append,List.foldl_cons,List.foldl_nil,BitVec.getLsbD_xor,ih (by omega),BitVec.getLsbD_shiftLeft,bitB_get]
   by_cases h1:i < n
   ·have:¬ i - n ≠ 0:=by omega
    simp [h1,show i < n+1 by omega]
   ·by_cases h2:i=n
    ·subst h2; simp [hi]
    ·have h3:¬ i - n=0:=by omega
     simp [h1,h3,show ¬ i < n+1 by omega]
 have:=key 32 (Nat.le_refl _)
 unfold win
 rw [this,decide_eq_true hi,Bool.true_and]
theorem win_step (b:Bool) (l:List Bool):((win (b :: l)) >>> 1) ||| (bitB (l.getD 31 false) <<< 31)=win l:=by
 apply BitVec.eq_of_getLsbD_eq
 intro i hi
 rw [BitVec.getLsbD_or,BitVec.getLsbD_ushiftRight,BitVec.getLsbD_shiftLeft,bitB_get,win_get _ _ hi]
 by_cases h:i=31
 ·subst h
  rw [BitVec.getLsbD_of_ge _ _ (by omega)]; simp
 ·rw [win_get _ _ (by omega),show 1+i=i+1 by omega,List.getD_cons_succ]
  have:i < 31:=by omega
  simp [this]
theorem rest_step (c:BitVec 32) (b:Bool) (l:List Bool):gR (c ^^^ win (b :: l)) (l.getD 31 false)=crF (c ^^^ bitB b) ^^^ win l:=by
 have hw:(win (b :: l)).getLsbD 0=b:=by rw [win_get _ _ (by omega)]; rfl
 have h1:(c ^^^ win (b :: l)).getLsbD 0=(c ^^^ bitB b).getLsbD 0:=by rw [BitVec.getLsbD_xor,BitVec.getLsbD_xor,hw,bitB_get]; simp
 have h2:(c ^^^ bitB b) >>> 1=c >>> 1:=by
  rw [BitVec.ushiftRight_xor_distrib]
  have:bitB b >>> 1=0#32:=by cases b <;> rfl
  rw [this,BitVec.xor_zero]
 have h3:((c ^^^ win (b :: l)) >>> 1) ||| (bitB (l.getD 31 false) <<< 31)=(c >>> 1) ^^^ win l:=by
  rw [<- win_step b l]
  apply BitVec.eq_of_getLsbD_eq
  intro i hi
  rw [BitVec.getLsbD_xor,BitVec.getLsbD_or,BitVec.getLsbD_or,BitVec.ushiftRight_xor_distrib,BitVec.getLsbD_xor,BitVec.getLsbD_shiftLeft,bitB_get]
  by_cases h:i=31
  ·subst h
   rw [BitVec.getLsbD_ushiftRight,BitVec.getLsbD_ushiftRight,BitVec.getLsbD_of_ge _ _ (by omega),BitVec.getLsbD_of_ge _ _ (by omega)]; simp
  ·have:i < 31:=by omega
   simp [this]
 unfold gR
 rw [h1,h3]
 unfold crF
 rw [h2]
 generalize (if (c ^^^ bitB b).getLsbD 0=true then crP else 0#32)=q
 apply BitVec.eq_of_getLsbD_eq
 intro i _
 simp only [BitVec.getLsbD_xor]
 cases (c >>> 1).getLsbD i <;> cases (win l).getLsbD i <;> cases q.getLsbD i <;> rfl
theorem rest_run:∀ (m:List Bool) (c:BitVec 32),((m ++ List.replicate 32 false).drop 32).foldl gR (c ^^^ win (m ++ List.replicate 32 false))=crBits c m
 | [],c=>by
  have e:win ([] ++ List.replicate 32 false)=0#32:=by decide
  rw [e,BitVec.xor_zero]; rfl
 | b :: m,c=>by
  have hl:((b :: m) ++ List.replicate 32 false).drop 32=((m ++ List.replicate 32 false).getD 31 false) :: (m ++ List.replicate 32 false).drop 32:=by
   have h31:31 < (m ++ List.replicate 32 false).length:=by rw [List.length_append,List.length_replicate]; omega
   show (m ++ List.replicate 32 false).drop 31=_
   rw [List.drop_eq_getElem_cons h31,List.getD_eq_getElem?_getD,List.getElem?_eq_getElem h31]; rfl
  rw [hl,List.foldl_cons]
  show List.foldl gR (gR (c ^^^ win (b :: (m ++ List.replicate 32 false))) _) _=_
  rw [rest_step,rest_run m]
  rfl
theorem rest_first (l:List Bool) (n:Nat) (hn:n<=32):((List.range n).map fun k=>l.getD k false).foldl gR 0#32=win l <<< (32 - n):=by
 induction n with
 | zero =>
  show (0#32)=_
  apply BitVec.eq_of_getLsbD_eq
  intro i hi
  rw [BitVec.getLsbD_shiftLeft]
  simp [hi]
 | succ n ih =>
  obtain ⟨q,hq⟩:∃ q,n+q=31:=⟨31 - n,by omega⟩
  rw [List.range_succ,List.map_append,List.foldl_append,ih (by omega),show 32 - n=q+1 by omega,show 32 - (n+1)=q by omega]
  show gR (win l <<< (q+1)) (l.getD n false)=_
  have h0:(win l <<< (q+1)).getLsbD 0=false:=by rw [BitVec.getLsbD_shiftLeft]; simp
  unfold gR
  rw [h0]
  show _ ^^^ 0#32=_
  rw [BitVec.xor_zero]
  apply BitVec.eq_of_getLsbD_eq
  intro i hi
  simp only [BitVec.getLsbD_or,BitVec.getLsbD_ushiftRight,BitVec.getLsbD_shiftLeft,bitB_get]
  by_cases h:i=31
  ·subst h
   have e:31 - q=n:=by omega
   have h3:¬ 31 < q:=by omega
   have hw:=win_get l n (by omega)
   rw [e,hw]
   have h4:¬ 1+31 < q+1:=by omega
   simp [h3]
  ·have h1:i < 31:=by omega
   by_cases h2:i < q
   ·have h3:1+i < q+1:=by omega
    simp [h1,h2,h3]
   ·have h3:¬ 1+i < q+1:=by omega
    have h4:1+i < 32:=by omega
    have e:1+i - (q+1)=i - q:=by omega
    rw [e]
    simp [h1,h2,h3,h4,hi]
def flip32 (l:List Bool):List Bool:=(l.take 32).map (fun b=>!b) ++ l.drop 32
theorem flip_getD (l:List Bool) (k:Nat) (hk:k < l.length):(flip32 l).getD k false=if k < 32 then !(l.getD k false) else l.getD k false:=by
 unfold flip32
 rw [List.getD_eq_getElem?_getD,List.getD_eq_getElem?_getD]
 have hl:((l.take 32).map (fun b=>!b)).length=min 32 l.length:=by simp
 by_cases h:k < 32
 ·rw [if_pos h,List.getElem?_append_left (by omega),List.getElem?_map,List.getElem?_take,if_pos h,List.getElem?_eq_getElem hk]; rfl
 ·rw [if_neg h,List.getElem?_append_right (by omega),List.getElem?_drop,hl]
  congr 2; omega
theorem rest_all (m:List Bool):(flip32 (m ++ List.replicate 32 false)).foldl gR 0#32=crBits (~~~ 0#32) m:=by
 generalize hL:m ++ List.replicate 32 false=L
 have hlen:32<=L.length:=by rw [<- hL,List.length_append,List.length_replicate]; omega
 have e1:flip32 L=((List.range 32).map fun k=>(flip32 L).getD k false) ++ L.drop 32:=by
  have h1:(flip32 L).take 32=(List.range 32).map fun k=>(flip32 L).getD k false:=by
   apply List.ext_getElem?
   intro i
   rw [List.getElem?_take,List.getElem?_map]
   by_cases hi:i < 32
   ·have hi2:i < (flip32 L).length:=by unfold flip32; simp; omega
    rw [if_pos hi,List.getElem?_range hi,List.getElem?_eq_getElem hi2]
    show _=some ((flip32 L).getD i false)
    rw [List.getD_eq_getElem?_getD,List.getElem?_eq_getElem hi2]; rfl
   ·rw [if_neg hi,List.getElem?_eq_none (by simp; omega)]; rfl
  have h2:(flip32 L).drop 32=L.drop 32:=by
   unfold flip32
   rw [List.drop_append,List.drop_of_length_le (by simp; omega)]
   have:32 - ((L.take 32).map (fun b=>!b)).length=0:=by simp; omega
   rw [this,List.drop_zero,List.nil_append]
  rw [<- h1,<- h2,List.take_append_drop]
 rw [e1,List.foldl_append,rest_first _ 32 (Nat.le_refl _),BitVec.shiftLeft_zero]
 have e2:win (flip32 L) = ~~~ 0#32 ^^^ win L:=by
  apply BitVec.eq_of_getLsbD_eq
  intro i hi
  rw [win_get _ _ hi,flip_getD _ _ (by omega),if_pos hi,BitVec.getLsbD_xor,BitVec.getLsbD_not,win_get _ _ hi]
  simp [hi]
 rw [e2,<- hL]
 exact rest_run m _
def gN (r:BitVec 32) (b:Bool):BitVec 32:=((r <<< 1) ||| bitB b) ^^^ (if r.getLsbD 31 then 0x1edc6f41#32 else 0#32)
theorem rev_get (x:BitVec 32) (i:Nat) (hi:i < 32):x.reverse.getLsbD i=x.getLsbD (31 - i):=by
 rw [BitVec.getLsbD_reverse,BitVec.getMsbD_eq_getLsbD]
 simp [hi]
theorem rev_gN (r:BitVec 32) (b:Bool):(gN r b).reverse=gR r.reverse b:=by
 have hp:∀ i,i < 32->(0x1edc6f41#32).getLsbD (31 - i)=crP.getLsbD i:=fun i hi=>by
  have:∀ j:Fin 32,(0x1edc6f41#32).getLsbD (31 - j.val)=crP.getLsbD j.val:=by decide
  exact this ⟨i,hi⟩
 apply BitVec.eq_of_getLsbD_eq
 intro i hi
 rw [rev_get _ _ hi]
 unfold gN gR
 rw [BitVec.getLsbD_xor,BitVec.getLsbD_xor,rev_get _ 0 (by omega)]
 congr 1
 ·simp only [BitVec.getLsbD_or,BitVec.getLsbD_shiftLeft,BitVec.getLsbD_ushiftRight,bitB_get]
  by_cases h:i=31
  ·subst h
   rw [BitVec.getLsbD_of_ge r.reverse _ (by omega)]
   simp
  ·have h1:i < 31:=by omega
   rw [rev_get _ _ (by omega),show 31 - (1+i)=31 - i - 1 by omega]
   have h2:¬ 31 - i=0:=by omega
   have h3:31 - i < 32:=by omega
   have h4:¬ 31 - i < 1:=by omega
   simp [h1,h2,h3,h4,hi]
 ·show (if r.getLsbD 31=true then 0x1edc6f41#32 else 0#32).getLsbD (31 - i)=(if r.getLsbD 31=true then crP else 0#32).getLsbD i
  cases r.getLsbD 31
  ·simp
  ·exact hp i hi
theorem crc_ref (b:List UInt8) : ~~~ ((flip32 (bitsL b ++ List.replicate 32 false)).foldl gN 0#32).reverse=crcS b:=by
 rw [crc_bits,<- rest_all]
 congr 1
 generalize flip32 (bitsL b ++ List.replicate 32 false)=l
 have e0:(0#32).reverse=0#32:=by
  apply BitVec.eq_of_getLsbD_eq
  intro i hi
  rw [rev_get _ _ hi]; simp
 have key:∀ (l:List Bool) (x:BitVec 32),(l.foldl gN x).reverse=l.foldl gR x.reverse:=by
  intro l
  induction l with
  | nil=>intro x; rfl
  | cons b r ih=>intro x; rw [List.foldl_cons,List.foldl_cons,ih,rev_gN]
 rw [key,e0]
end Go.Proofs.YtodmachaofepkaaGreatDoor
namespace Go.Proofs.YtodmachaofepkaaGreatDoor
open Go.GV Go.RowKit
theorem le_e1 (i:Nat) (h:i < 1099511627776):IntKind.wrap .i64 ((i:Int)+1)=((i+1:Nat):Int):=by rw [i64_id (by omega) (by omega)]; rfl
theorem u64_id {n:Int} (h1:0<=n) (h2:n < 18446744073709551616):IntKind.wrap .u64 n=n:=by
 rw [IntKind.wrap_u64]; omega
theorem le_get {w:World} {A:Option Addr} {n:Nat} {l:List UInt8} (h:Sl w 1 A n (l.map bv)) {i:Nat} (hi:i < n) (hl:i < l.length):∃ b o,A=some ⟨b,o,none⟩/\cellAt w b (o+i * 1)=some (.int .u8 (l[i].toNat:Int)) :=
 h.get hi (v:=bv l[i]) (by rw [List.getElem?_map,List.getElem?_eq_getElem hl]; rfl)
theorem sl_len {w:World} {A:Option Addr} {n:Nat} {l:List UInt8} (h:Sl w 1 A n (l.map bv)):l.length=n:=by simpa using h.1
theorem sl_drop {w:World} {A:Option Addr} {n c k:Nat} {l:List UInt8} (h:Sl w 1 A n (l.map bv)) (hk:k<=n) (hc:n<=c):Sl w 1 (slA A c k 1) (n - k) ((l.drop k).map bv):=by
 have hl:=sl_len h
 refine ⟨by simp [hl],fun h0=>?_⟩
 obtain ⟨b,o,hA,hcs⟩:=h.2 (by omega)
 subst hA
 refine ⟨b,o+k,?_,fun j v hv=>?_⟩
 ·unfold slA
  rw [if_neg (by omega)]
  simp [Addr.add]
 ·rw [List.getElem?_map,List.getElem?_drop,<- List.getElem?_map] at hv
  rw [show o+k+j=o+(k+j) by omega]
  exact hcs _ _ hv
theorem sl_take {w:World} {A:Option Addr} {n k:Nat} {l:List UInt8} (h:Sl w 1 A n (l.map bv)) (hk:k<=n):Sl w 1 A k ((l.take k).map bv):=by
 have hl:=sl_len h
 refine ⟨by simp [hl]; omega,fun h0=>?_⟩
 obtain ⟨b,o,hA,hcs⟩:=h.2 (by omega)
 refine ⟨b,o,hA,fun j v hv=>hcs j v ?_⟩
 rw [List.map_take,List.getElem?_take] at hv
 split at hv
 ·exact hv
 ·cases hv
abbrev okT (n:Nat) (at_ size:Int):Prop:=1<=size/\size<=8/\0<=at_/\at_+size<=(n:Int)
def tkN (b:List UInt8) (at_ size:Int):Nat:=if okT b.length at_ size then leT ((b.drop at_.toNat).take size.toNat) else 0
theorem leT_take (b:List UInt8) (i:Nat) (h:i < b.length):leT (b.take (i+1))=leT (b.take i)+256 ^ i * b[i].toNat:=by
 rw [List.take_add_one,List.getElem?_eq_getElem h,leT_app,List.length_take,Nat.min_eq_left (by omega)]
 simp [leT]
theorem or_add {k a x:Nat} (ha:a < 2 ^ k) (hx:a+2 ^ k * x < 2 ^ 64):iOr .u64 (a:Int) (IntKind.wrap .u64 ((x:Int) * 2 ^ k))=((a+2 ^ k * x:Nat):Int):=by
 have h1:IntKind.wrap .u64 ((x:Int) * 2 ^ k)=((2 ^ k * x:Nat):Int):=by
  have e:(x:Int) * 2 ^ k=((2 ^ k * x:Nat):Int):=by push_cast; rw [Int.mul_comm]
  rw [e]
  exact u64_id (by omega) (by have:(2:Nat)^64=18446744073709551616:=rfl; omega)
 rw [h1]
 unfold iOr
 show IntKind.wrap .u64 (((BitVec.ofInt 64 (a:Int) ||| BitVec.ofInt 64 ((2 ^ k * x:Nat):Int)).toNat:Nat):Int)=_
 have ea:BitVec.ofInt 64 (a:Int)=BitVec.ofNat 64 a:=by simp
 have eb:BitVec.ofInt 64 ((2 ^ k * x:Nat):Int)=BitVec.ofNat 64 (2 ^ k * x):=by
  apply BitVec.eq_of_toNat_eq
  rw [BitVec.toNat_ofInt,BitVec.toNat_ofNat]; omega
 rw [ea,eb,BitVec.toNat_or,BitVec.toNat_ofNat,BitVec.toNat_ofNat,Nat.mod_eq_of_lt (by omega),Nat.mod_eq_of_lt (by omega),Nat.or_comm,<- Nat.two_pow_add_eq_or_of_lt ha]
 rw [u64_id (by omega) (by have:(2:Nat)^64=18446744073709551616:=rfl; omega)]
 congr 1; omega
theorem pow8 (i:Nat):(256:Nat) ^ i=2 ^ (8 * i):=by rw [show (256:Nat)=2 ^ 8 from rfl,<- Nat.pow_mul]
theorem has_calls (A:Option Addr) (n c:Nat) (at_ size:Int) (w:World) (hn:n<=1099511627776) :
  Calls Tryz.prog 106 #[.slice A n c,.int .i64 at_,.int .i64 size] w fun e w'=>e=.returned (.bool (decide (0<=at_/\at_<=(n:Int)/\size<=(n:Int) - at_)))/\w'=w:=by
 refine (F106.of A n c at_ size w (Q:=fun v w'=>v=.bool (decide (0<=at_/\at_<=(n:Int)/\size<=(n:Int) - at_))/\w'=w) ?_).mono (fun e w' ⟨v,he,hv,h⟩=>⟨by rw [he,hv],h⟩)
 refine vIf_mk (fun h1=>vIf_mk (fun h2=>⟨?_,rfl⟩) (fun h2=>⟨?_,rfl⟩)) (fun h1=>⟨?_,rfl⟩)
 ·have h1:at_ >= 0:=of_decide_eq_true h1
  have h2:at_<=(n:Int):=of_decide_eq_true h2
  rw [i64_id (by omega) (by omega)]
  congr 1
  exact decide_eq_decide.2 ⟨fun h=>⟨h1,h2,h⟩,fun h=>h.2.2⟩
 ·have h2:¬ at_<=(n:Int):=of_decide_eq_false h2
  rw [decide_eq_false (fun h=>h2 h.2.1)]
 ·have h1:¬ at_ >= 0:=of_decide_eq_false h1
  rw [decide_eq_false (fun h=>h1 h.1)]
theorem tkN_no {b:List UInt8} {at_ size:Int} (h:¬ okT b.length at_ size):tkN b at_ size=0:=if_neg h
theorem ndt {p:Prop} [Decidable p] (h:(!decide p)=true):¬ p:=by simpa using h
theorem ndf {p:Prop} [Decidable p] (h:(!decide p)=false):p:=by simpa using h
set_option maxHeartbeats 1000000 in
theorem take_calls (A:Option Addr) (n c:Nat) (b:List UInt8) (at_ size:Int) (w:World) (h:Sl w 1 A n (b.map bv)) (hn:n<=1099511627776) :
  Calls Tryz.prog 82 #[.slice A n c,.int .i64 at_,.int .i64 size] w fun e w'=>e=.returned (.tuple #[.int .u64 (tkN b at_ size:Nat),.bool (decide (okT n at_ size))])/\w'=w:=by
 have hl:=sl_len h
 refine (F82.of A n c at_ size w (Q:=fun v w'=>v=.tuple #[.int .u64 (tkN b at_ size:Nat),.bool (decide (okT n at_ size))]/\w'=w) ?_).mono (fun e w' ⟨v,he,hv,h⟩=>⟨by rw [he,hv],h⟩)
 have no:¬ okT n at_ size->Value.tuple #[.int .u64 0,.bool false]=.tuple #[.int .u64 (tkN b at_ size:Nat),.bool (decide (okT n at_ size))]:=fun h=>by
  rw [tkN_no (by rw [hl]; exact h),decide_eq_false h]; rfl
 refine vIf_mk (fun h1=>⟨no ?_,rfl⟩) (fun h1=>vIf_mk (fun h2=>⟨no ?_,rfl⟩) (fun h2=>?_))
 ·have h1:size < 1:=of_decide_eq_true h1
  exact fun h=>by have:=h.1; omega
 ·have h2:size > 8:=of_decide_eq_true h2
  exact fun h=>by have:=h.2.1; omega
 ·have h1:¬ size < 1:=of_decide_eq_false h1
  have h2:¬ size > 8:=of_decide_eq_false h2
  refine (has_calls A n c at_ size w hn).mono ?_
  rintro e u ⟨rfl,rfl⟩
  refine ⟨_,rfl,vIf_mk (fun h3=>⟨no ?_,rfl⟩) (fun h3=>jnC_mk (fun _=>?_))⟩
  ·exact fun h=>ndt h3 ⟨h.2.2.1,by omega,by omega⟩
  ·obtain ⟨h4,h5,h6⟩:=ndf h3
   have hok:okT n at_ size:=⟨by omega,by omega,h4,by omega⟩
   obtain ⟨a,rfl⟩:∃ a:Nat,at_=(a:Int):=⟨at_.toNat,by omega⟩
   obtain ⟨z,rfl⟩:∃ z:Nat,size=(z:Int):=⟨size.toNat,by omega⟩
   have hok':=hok
   obtain ⟨o1,o2,o3,o4⟩:=hok'
   have hdl:z<=(b.drop a).length:=by rw [List.length_drop]; omega
   have htk:tkN b (a:Int) (z:Int)=leT ((b.drop a).take z):=by
    unfold tkN
    rw [if_pos (by rw [hl]; exact hok)]; rfl
   refine jnC_mk (loop_rule (fun s x=>x=u/\∃ i:Nat,i<=z/\s=((A,n,c),(a:Int),((leT ((b.drop a).take i):Nat):Int),(z:Int),(i:Int),())) (fun s _=>(z - s.2.2.2.2.1).toNat) ?_ _ _ ⟨rfl,0,by omega,by simp [leT]⟩)
   rintro s x C ⟨rfl,i,hi,rfl⟩ hC _
   refine vIf_mk (fun hlt=>?_) (fun hge=>?_)
   ·have hlt:(i:Int) < (z:Int):=of_decide_eq_true hlt
    obtain ⟨b',o',hA,hc⟩:=le_get h (i:=a+i) (by omega) (by omega)
    subst hA
    have ew:IntKind.wrap .i64 ((a:Int)+(i:Int))=((a+i:Nat):Int):=by rw [i64_id (by omega) (by omega)]; rfl
    have e8:IntKind.wrap .i64 (8 * (i:Int))=((8 * i:Nat):Int):=by rw [i64_id (by omega) (by omega)]; rfl
    have hbl:b[a+i].toNat < 256:=b[a+i].toNat_lt
    have hlt':i < (b.drop a).length:=by omega
    have hgd:(b.drop a)[i]=b[a+i]:=by simp
    have hlow:leT ((b.drop a).take i) < 2 ^ (8 * i):=by
     have:=leT_lt ((b.drop a).take i)
     rw [List.length_take,Nat.min_eq_left (by omega),pow8] at this
     exact this
    have hup:leT ((b.drop a).take (i+1)) < 2 ^ 64:=by
     have:=leT_lt ((b.drop a).take (i+1))
     rw [List.length_take,Nat.min_eq_left (by omega),pow8] at this
     exact Nat.lt_of_lt_of_le this (Nat.pow_le_pow_right (by omega) (by omega))
    have hst:=leT_take (b.drop a) i hlt'
    rw [hgd,pow8] at hst
    refine dr_mk (gd_mk (decide_eq_true (by rw [ew]; omega)) (gd_mk (decide_eq_true (by rw [ew]; show ((a+i:Nat):Int) < (n:Int); omega)) ⟨_,by rw [ew]; exact hc,gd_mk (decide_eq_true (by rw [e8]; omega)) (jnC_mk (hC _ _ ⟨rfl,i+1,by omega,?_⟩ ?_))⟩))
    ·rw [e8,le_e1 i (by omega),u64_id (n:=(b[a+i].toNat:Int)) (by omega) (by omega)]
     show ((_,n,c),(a:Int),iOr .u64 _ (IntKind.wrap .u64 ((b[a+i].toNat:Int) * 2 ^ (min ((8 * i:Nat):Int).toNat 64))),(z:Int),((i+1:Nat):Int),())=_
     rw [Int.toNat_natCast,Nat.min_eq_left (by omega),or_add hlow (by rw [<- hst]; exact hup),<- hst]
    ·show ((z:Int) - IntKind.wrap .i64 ((i:Int)+1)).toNat < ((z:Int) - (i:Int)).toNat
     rw [le_e1 i (by omega)]; omega
   ·have hge:¬ (i:Int) < (z:Int):=of_decide_eq_false hge
    obtain rfl:i=z:=by omega
    rw [htk,decide_eq_true hok]
    exact ⟨rfl,rfl⟩
set_option maxHeartbeats 1000000 in
theorem rtake_calls (A:Option Addr) (n c:Nat) (b:List UInt8) (at_ size:Int) (w:World) (h:Sl w 1 A n (b.map bv)) (hn:n<=1099511627776) :
  Calls Tryz.prog 61 #[.slice A n c,.int .i64 at_,.int .i64 size] w fun e w'=>e=.returned (.tuple #[.int .u64 (tkN b at_ size:Nat),.bool (decide (okT n at_ size))])/\w'=w:=by
 have hl:=sl_len h
 refine (F61.of A n c at_ size w (Q:=fun v w'=>v=.tuple #[.int .u64 (tkN b at_ size:Nat),.bool (decide (okT n at_ size))]/\w'=w) ?_).mono (fun e w' ⟨v,he,hv,h⟩=>⟨by rw [he,hv],h⟩)
 have no:¬ okT n at_ size->Value.tuple #[.int .u64 0,.bool false]=.tuple #[.int .u64 (tkN b at_ size:Nat),.bool (decide (okT n at_ size))]:=fun h=>by
  rw [tkN_no (by rw [hl]; exact h),decide_eq_false h]; rfl
 refine vIf_mk (fun h1=>⟨no ?_,rfl⟩) (fun h1=>vIf_mk (fun h2=>⟨no ?_,rfl⟩) (fun h2=>vIf_mk (fun h3=>⟨no ?_,rfl⟩) (fun h3=>vIf_mk (fun h4=>⟨no ?_,rfl⟩) (fun h4=>jnC_mk (fun _=>?_)))))
 ·have h1:size < 1:=of_decide_eq_true h1
  exact fun h=>by have:=h.1; omega
 ·have h2:size > 8:=of_decide_eq_true h2
  exact fun h=>by have:=h.2.1; omega
 ·have h3:at_ < 0:=of_decide_eq_true h3
  exact fun h=>by have:=h.2.2.1; omega
 ·have h1:¬ size < 1:=of_decide_eq_false h1
  have h2:¬ size > 8:=of_decide_eq_false h2
  have h4:IntKind.wrap .i64 ((n:Int) - size) < at_:=of_decide_eq_true h4
  rw [i64_id (by omega) (by omega)] at h4
  exact fun h=>by have:=h.2.2.2; omega
 ·have h1:¬ size < 1:=of_decide_eq_false h1
  have h2:¬ size > 8:=of_decide_eq_false h2
  have h3:¬ at_ < 0:=of_decide_eq_false h3
  have h4:¬ IntKind.wrap .i64 ((n:Int) - size) < at_:=of_decide_eq_false h4
  rw [i64_id (by omega) (by omega)] at h4
  have hok:okT n at_ size:=⟨by omega,by omega,by omega,by omega⟩
  obtain ⟨a,rfl⟩:∃ a:Nat,at_=(a:Int):=⟨at_.toNat,by omega⟩
  obtain ⟨z,rfl⟩:∃ z:Nat,size=(z:Int):=⟨size.toNat,by omega⟩
  have htk:tkN b (a:Int) (z:Int)=leT ((b.drop a).take z):=by
   unfold tkN
   rw [if_pos (by rw [hl]; exact hok)]; rfl
  have ez:IntKind.wrap .i64 ((z:Int) - 1)=(z:Int) - 1:=i64_id (by omega) (by omega)
  refine jnC_mk (loop_rule (fun s x=>x=w/\∃ i:Nat,i<=z/\s=((A,n,c),(a:Int),((leT (((b.drop a).take z).drop i):Nat):Int),(i:Int) - 1,())) (fun s _=>(s.2.2.2.1+1).toNat) ?_ _ _ ⟨rfl,z,by omega,?_⟩)
  ·rintro s x C ⟨rfl,i,hi,rfl⟩ hC _
   refine vIf_mk (fun hlt=>?_) (fun hge=>?_)
   ·have hlt:(i:Int) - 1 >= 0:=of_decide_eq_true hlt
    obtain ⟨k,rfl⟩:∃ k,i=k+1:=⟨i - 1,by omega⟩
    obtain ⟨b',o',hA,hc⟩:=le_get h (i:=a+k) (by omega) (by omega)
    subst hA
    have ew:IntKind.wrap .i64 ((a:Int)+(((k+1:Nat):Int) - 1))=((a+k:Nat):Int):=by rw [i64_id (by omega) (by omega)]; omega
    have hbl:b[a+k].toNat < 256:=b[a+k].toNat_lt
    have hd:((b.drop a).take z).drop k=b[a+k] :: ((b.drop a).take z).drop (k+1):=by
     rw [List.drop_eq_getElem_cons (by rw [List.length_take,List.length_drop]; omega)]
     congr 1
     simp
    have hup:leT (((b.drop a).take z).drop k) < 2 ^ 64:=by
     have:=leT_lt (((b.drop a).take z).drop k)
     rw [List.length_drop,List.length_take,pow8] at this
     exact Nat.lt_of_lt_of_le this (Nat.pow_le_pow_right (by omega) (by omega))
    rw [hd,leT] at hup
    have h64:(2:Nat) ^ 64=18446744073709551616:=rfl
    refine dr_mk (gd_mk (decide_eq_true (by rw [ew]; omega)) (gd_mk (decide_eq_true (by rw [ew]; show ((a+k:Nat):Int) < (n:Int); omega)) ⟨_,by rw [ew]; exact hc,jnC_mk (hC _ _ ⟨rfl,k,by omega,?_⟩ ?_)⟩))
    ·rw [u64_id (n:=(b[a+k].toNat:Int)) (by omega) (by omega),hd,leT]
     show ((_,n,c),(a:Int),IntKind.wrap .u64 (IntKind.wrap .u64 (((leT (((b.drop a).take z).drop (k+1)):Nat):Int) * 256)+(b[a+k].toNat:Int)),IntKind.wrap .i64 (((k+1:Nat):Int) - 1 - 1),())=_
     rw [u64_id (n:=((leT (((b.drop a).take z).drop (k+1)):Nat):Int) * 256) (by omega) (by omega),u64_id (by omega) (by omega),i64_id (by omega) (by omega)]
     have e1:((leT (((b.drop a).take z).drop (k+1)):Nat):Int) * 256+(b[a+k].toNat:Int)=((b[a+k].toNat+256 * leT (((b.drop a).take z).drop (k+1)):Nat):Int):=by omega
     have e2:((k+1:Nat):Int) - 1 - 1=(k:Int) - 1:=by omega
     rw [e1,e2]
    ·show (IntKind.wrap .i64 (((k+1:Nat):Int) - 1 - 1)+1).toNat < (((k+1:Nat):Int) - 1+1).toNat
     rw [i64_id (by omega) (by omega)]; omega
   ·have hge:¬ (i:Int) - 1 >= 0:=of_decide_eq_false hge
    obtain rfl:i=0:=by omega
    rw [htk,decide_eq_true hok]
    exact ⟨rfl,rfl⟩
  ·rw [ez,List.drop_of_length_le (by rw [List.length_take]; omega)]
   rfl
abbrev RB (w0 w:World) (A:Option Addr) (n c:Nat) (l:List UInt8):Prop:=Fr (fun _=>False) w0 w/\Row w w0.heap.size 5 1 A n c (l.map bv)
theorem RB.nil (w:World):RB w w none 0 0 []:=⟨Fr.refl _ _,Row.nil _ _ _ _⟩
theorem RB.len {w0 w:World} {A:Option Addr} {n c:Nat} {l:List UInt8} (h:RB w0 w A n c l):l.length=n:=by have:=h.2.len; simpa using this
theorem RB.sl {w0 w:World} {A:Option Addr} {n c:Nat} {l:List UInt8} (h:RB w0 w A n c l):Sl w 1 A n (l.map bv):=h.2.sl
theorem RB.fr {w0 w w':World} {A:Option Addr} {n c:Nat} {l:List UInt8} (h:RB w0 w A n c l) (f:Fr (fun _=>False) w w'):RB w0 w' A n c l:=⟨h.1.trans1 f,f.row h.2 (fun _ _ h=>h)⟩
theorem RB.le {w0 w w1:World} {A:Option Addr} {n c:Nat} {l:List UInt8} (h:RB w w1 A n c l) (f:Fr (fun _=>False) w0 w):RB w0 w1 A n c l:=by
 refine ⟨f.trans1 h.1,h.2.len,h.2.le,h.2.at_.elim .inl (fun ⟨b,cs,h1,h2,h3⟩=>.inr ⟨b,cs,h1,?_,h3⟩)⟩
 have:=f.size; omega
theorem appB_mk {w0 w:World} {A A2:Option Addr} {n c m c2:Nat} {l l2:List UInt8} {K:Option Addr->Nat->Nat->World->Prop} (h:RB w0 w A n c l) (hx:Sl w 1 A2 m (l2.map bv)) (hm:n+m<=1099511627776)
  (hK:∀ A' c' w',RB w0 w' A' (n+m) c' (l ++ l2)->K A' (n+m) c' w'):app w 1 1 [Value.int .u8 0] 5 A n c (.slice A2 m c2) K:=by
 refine app_row h.2 hx.src (bvs_one l2) rfl (by show (n+m) * 1<=_; omega) (by omega) h.1.size (fun A' c' w' hr f=>hK A' c' w' ⟨h.1.trans f (fun _ _ h=>h) (fun k hk hb=>by have:=(h.2.blt hb).1; omega),?_⟩)
 rw [List.map_append]; exact hr
theorem RB.alloc {w0 w:World} {A:Option Addr} {n c:Nat} {l:List UInt8} (h:RB w0 w A n c l) (o:Obj):RB w0 (w.alloc o) A n c l:=h.fr (Fr.alloc _ _ _)
theorem push_mk {w0 w:World} {A:Option Addr} {n c:Nat} {l:List UInt8} {x:UInt8} {K:Option Addr->Nat->Nat->World->Prop} (h:RB w0 w A n c l) (hm:n < 1099511627776)
  (hK:∀ A' c' w',RB w0 w' A' (n+1) c' (l ++ [x])->K A' (n+1) c' w'):nw w ([bv x] ++ []) 5 fun b w1=>app w1 1 1 [Value.int .u8 0] 5 A n c (.slice (some ⟨b,0,none⟩) 1 1) K:=by
 refine nw_mk (appB_mk (l2:=[x]) (h.alloc _) ?_ (by omega) hK)
 exact (Row.new (sz:=1) (n:=1) (B:=0) (Nat.zero_le _) rfl).sl
theorem leB_take (n:Nat):∀ k,leB n (k+1)=leB n k ++ [UInt8.ofNat (n / 256 ^ k % 256)]:=fun k=>leB_snoc k n
theorem bv_nat {n:Nat} (h:n < 256):Value.int .u8 (n:Int)=bv (UInt8.ofNat n):=by unfold bv; rw [u8n' h]
set_option maxHeartbeats 1000000 in
theorem rputB_calls (A:Option Addr) (n c:Nat) (b:List UInt8) (x k:Nat) (w:World) (h:Sl w 1 A n (b.map bv)) (hn:n<=1099511627700) (hx:x < 18446744073709551616) (hk:k<=8) :
  Calls Tryz.prog 38 #[.slice A n c,.int .u64 (x:Nat),.int .i64 (k:Nat)] w fun e w'=>∃ A' c',e=.returned (.slice A' (n+k) c')/\RB w w' A' (n+k) c' (b ++ leB x k):=by
 have hl:=sl_len h
 refine (F38.of A n c x k w (Q:=fun v w'=>∃ A' c',v=.slice A' (n+k) c'/\RB w w' A' (n+k) c' (b ++ leB x k)) ?_).mono (fun e w' ⟨v,he,A',c',hv,h⟩=>⟨A',c',by rw [he,hv],h⟩)
 refine appB_mk (RB.nil w) h (by omega) (fun A1 c1 w1 h1=>?_)
 rw [Nat.zero_add] at h1 ⊢
 refine jnC_mk (loop_rule (fun s u=>∃ (i:Nat) (A':Option Addr) (c':Nat),i<=k/\s=(((x / 256 ^ i:Nat):Int),(k:Int),(A',n+i,c'),(i:Int),())/\RB w u A' (n+i) c' (b ++ leB x i)) (fun s _=>(k - s.2.2.2.1).toNat) ?_ _ _ ⟨0,A1,c1,by omega,?_,?_⟩)
 ·rintro s u C ⟨i,A',c',hi,rfl,hr⟩ hC _
  refine vIf_mk (fun hlt=>vIf_mk (fun _=>jnC_mk (fun _=>?_)) (fun h8=>?_)) (fun hge=>?_)
  ·have hlt:(i:Int) < (k:Int):=of_decide_eq_true hlt
   have e1:Value.int .u8 (IntKind.wrap .u8 (Int.tmod ((x / 256 ^ i:Nat):Int) 256))=bv (UInt8.ofNat (x / 256 ^ i % 256)):=by
    rw [show Int.tmod ((x / 256 ^ i:Nat):Int) 256=_ from tmod_nat (x / 256 ^ i) 256,u8_id (by omega) (by omega)]
    exact bv_nat (Nat.mod_lt _ (by omega))
   have e2:IntKind.wrap .u64 (Int.tdiv ((x / 256 ^ i:Nat):Int) 256)=((x / 256 ^ (i+1):Nat):Int):=by
    have hle:x / 256 ^ i / 256<=x:=Nat.le_trans (Nat.div_le_self _ _) (Nat.div_le_self _ _)
    rw [show Int.tdiv ((x / 256 ^ i:Nat):Int) 256=_ from tdiv_nat (x / 256 ^ i) 256,u64_id (Int.natCast_nonneg _) (Int.ofNat_lt.2 (Nat.lt_of_le_of_lt hle hx)),Nat.div_div_eq_div_mul,<- Nat.pow_succ]
   show nw u ([Value.int .u8 (IntKind.wrap .u8 (Int.tmod ((x / 256 ^ i:Nat):Int) 256))] ++ []) _ _
   rw [e1]
   refine push_mk hr (by show n+i < _; omega) (fun A2 c2 w2 h2=>jnC_mk (hC _ _ ⟨i+1,A2,c2,by omega,?_,?_⟩ ?_))
   ·show (IntKind.wrap .u64 (Int.tdiv ((x / 256 ^ i:Nat):Int) 256),(k:Int),(A2,n+i+1,c2),IntKind.wrap .i64 ((i:Int)+1),())=_
    rw [e2,le_e1 i (by omega)]; rfl
   ·rw [leB_take,<- List.append_assoc]; exact h2
   ·show ((k:Int) - IntKind.wrap .i64 ((i:Int)+1)).toNat < ((k:Int) - (i:Int)).toNat
    rw [le_e1 i (by omega)]; omega
  ·have h8:¬ (k:Int)<=8:=of_decide_eq_false h8
   omega
  ·have hge:¬ (i:Int) < (k:Int):=of_decide_eq_false hge
   obtain rfl:i=k:=by omega
   exact ⟨A',c',rfl,hr⟩
 ·rw [Nat.pow_zero,Nat.div_one]; rfl
 ·rw [leB,List.append_nil]; exact h1
def txP (b:List UInt8) (at_:Int):Option (List UInt8×Int) :=
 if okT b.length at_ 1/\at_+1+(tkN b at_ 1:Int)<=(b.length:Int) then some ((b.drop (at_.toNat+1)).take (tkN b at_ 1),at_+1+(tkN b at_ 1:Int)) else none
def txV:Option (List UInt8×Int)->Value
 | some (t,e)=>.tuple #[.string ⟨t.toArray⟩,.int .i64 e,.bool true]
 | none=>.tuple #[.string (⟨#[]⟩:ByteArray),.int .i64 0,.bool false]
theorem tkOne {b:List UInt8} {a:Nat} (h:a < b.length):tkN b (a:Int) 1=b[a].toNat:=by
 unfold tkN
 rw [if_pos ⟨by omega,by omega,by omega,by omega⟩]
 show leT ((b.drop a).take 1)=_
 rw [List.drop_eq_getElem_cons h,List.take_succ_cons,List.take_zero]
 show b[a].toNat+256 * 0=_
 omega
theorem tkOne_lt (b:List UInt8) (at_:Int):tkN b at_ 1 < 256:=by
 by_cases h:okT b.length at_ 1
 ·obtain ⟨a,rfl⟩:∃ a:Nat,at_=(a:Int):=⟨at_.toNat,by have:=h.2.2.1; omega⟩
  rw [tkOne (by have:=h.2.2.2; omega)]
  exact UInt8.toNat_lt _
 ·rw [tkN_no h]; omega
set_option maxHeartbeats 1000000 in
theorem text_calls (A:Option Addr) (n c:Nat) (b:List UInt8) (at_:Int) (w:World) (h:Sl w 1 A n (b.map bv)) (hc:n<=c) (hn:n<=1099511627776) (ha : -9223372036854775808<=at_/\at_<=9223372036854775807) :
  Calls Tryz.prog 110 #[.slice A n c,.int .i64 at_] w fun e w'=>e=.returned (txV (txP b at_))/\w'=w:=by
 have hl:=sl_len h
 refine (F110.of A n c at_ w (Q:=fun v w'=>v=txV (txP b at_)/\w'=w) ?_).mono (fun e w' ⟨v,he,hv,h⟩=>⟨by rw [he,hv],h⟩)
 refine (take_calls A n c b at_ 1 w h hn).mono ?_
 rintro e u ⟨rfl,rfl⟩
 refine ⟨_,_,rfl,vIf_mk (fun h1=>jnC_mk (fun _=>vIf_t rfl ⟨?_,rfl⟩)) (fun h1=>?_)⟩
 ·unfold txP
  rw [if_neg (fun h=>ndt h1 (by rw [<- hl]; exact h.1))]; rfl
 ·have hok:=ndf h1
  obtain ⟨a,rfl⟩:∃ a:Nat,at_=(a:Int):=⟨at_.toNat,by have:=hok.2.2.1; omega⟩
  have hlt:a < n:=by have:=hok.2.2.2; omega
  have hb:=tkOne_lt b (a:Int)
  have e1:IntKind.wrap .i64 ((a:Int)+1)=((a+1:Nat):Int):=le_e1 a (by omega)
  have e2:IntKind.wrap .i64 ((tkN b (a:Int) 1:Nat):Int)=((tkN b (a:Int) 1:Nat):Int):=i64_id (by omega) (by omega)
  have e3:IntKind.wrap .i64 (((a+1:Nat):Int)+((tkN b (a:Int) 1:Nat):Int))=((a+1+tkN b (a:Int) 1:Nat):Int):=by rw [i64_id (by omega) (by omega)]; omega
  rw [e1,e2]
  refine (has_calls A n c _ _ u hn).mono ?_
  rintro e v ⟨rfl,rfl⟩
  refine ⟨_,rfl,jnC_mk (fun _=>vIf_mk (fun h2=>⟨?_,rfl⟩) (fun h2=>jnC_mk (fun _=>?_)))⟩
  ·unfold txP
   rw [if_neg (fun h=>ndt h2 ⟨by omega,by omega,by have:=h.2; omega⟩)]; rfl
  ·obtain ⟨_,h3,h4⟩:=ndf h2
   have hle:a+1+tkN b (a:Int) 1<=n:=by omega
   show gd (decide (0<=IntKind.wrap .i64 (IntKind.wrap .i64 ((a:Int)+1)+IntKind.wrap .i64 ((tkN b (a:Int) 1:Nat):Int)))) _
   unfold F110.k4c at *
   dsimp only
   rw [e1,e2,e3]
   refine gd_mk (decide_eq_true (by omega)) (gd_mk (decide_eq_true (by omega)) (gd_mk (decide_eq_true (by omega)) (gd_mk (decide_eq_true (by omega)) ?_)))
   rw [Int.toNat_natCast,Int.toNat_natCast,show a+1+tkN b (a:Int) 1 - (a+1)=tkN b (a:Int) 1 by omega]
   refine b2s_sl (l:=(b.drop (a+1)).take (tkN b (a:Int) 1)) (sl_take (sl_drop h (by omega) hc) (by omega)) ⟨?_,rfl⟩
   unfold txP
   rw [if_pos ⟨by rw [hl]; exact hok,by rw [hl]; omega⟩]
   show Value.tuple #[_,.int .i64 ((a+1+tkN b (a:Int) 1:Nat):Int),_]=Value.tuple #[_,.int .i64 ((a:Int)+1+(tkN b (a:Int) 1:Int)),_]
   congr 4
def lo7:List UInt8->Nat
 | []=>0
 | c :: r=>c.toNat % 128+128 * lo7 r
theorem lo7_lt:∀ l:List UInt8,lo7 l < 128 ^ l.length
 | []=>by simp [lo7]
 | c :: r=>by
  have:=lo7_lt r
  rw [lo7,List.length_cons,Nat.pow_succ]
  omega
theorem lo7_app:∀ a b:List UInt8,lo7 (a ++ b)=lo7 a+128 ^ a.length * lo7 b
 | [],b=>by simp [lo7]
 | c :: a,b=>by
  rw [List.cons_append,lo7,lo7,lo7_app a b,List.length_cons,Nat.pow_succ]
  rw [Nat.mul_add,<- Nat.mul_assoc,Nat.mul_comm 128 (128 ^ a.length)]; omega
theorem lo7_take (b:List UInt8) (i:Nat) (h:i < b.length):lo7 (b.take (i+1))=lo7 (b.take i)+128 ^ i * (b[i].toNat % 128):=by
 rw [List.take_add_one,List.getElem?_eq_getElem h,lo7_app,List.length_take,Nat.min_eq_left (by omega)]
 simp [lo7]
def vaMix (acc i:Nat) (g:Nat×Nat×Int):Nat×Nat×Int:=if g.2.2=0 then (acc+128 ^ i * g.1,i+g.2.1,0) else (0,0,g.2.2)
theorem va_cons (i:Nat) (c:UInt8) (r:List UInt8) (h9:¬ (i=9/\c.toNat > 1)) (hc:c.toNat >= 128) (acc:Nat):vaMix acc i (vaGo i (c :: r))=vaMix (acc+128 ^ i * (c.toNat % 128)) (i+1) (vaGo (i+1) r):=by
 rw [vaGo,if_neg h9,if_pos hc]
 by_cases h:(vaGo (i+1) r).2.2=0
 ·rw [if_pos h]
  unfold vaMix
  rw [if_pos rfl,if_pos h]
  dsimp only
  rw [Nat.mul_add,Nat.pow_succ,<- Nat.mul_assoc]
  congr 1
  ·omega
  ·congr 1; omega
 ·rw [if_neg h]
  unfold vaMix
  dsimp only
  rw [if_neg h,if_neg h]
theorem va_at (r:List UInt8):∀ i,i<=9->i<=r.length->(∀ j (h:j < r.length),j < i->r[j].toNat >= 128)->vaGo 0 r=vaMix (lo7 (r.take i)) i (vaGo i (r.drop i))
 | 0,_,_,_=>by
  unfold vaMix
  by_cases h:(vaGo 0 r).2.2=0
  ·rw [List.drop_zero,if_pos h]; simp [lo7]
   rw [<- h]
  ·rw [List.drop_zero,if_neg h]; exact vaGo_err r 0 h
 | i+1,h9,hl,hc=>by
  rw [va_at r i (by omega) (by omega) (fun j h hj=>hc j h (by omega)),List.drop_eq_getElem_cons (show i < r.length by omega),va_cons i _ _ (by omega) (hc i (by omega) (by omega)),lo7_take r i (by omega)]
def vaV (x:Nat×Int×Int):Value:=.tuple #[.int .u64 (x.1:Nat),.int .i64 x.2.1,.int .i64 x.2.2]
theorem pow7 (i:Nat):(128:Nat) ^ i=2 ^ (7 * i):=by rw [show (128:Nat)=2 ^ 7 from rfl,<- Nat.pow_mul]
theorem and127 (c:UInt8):iAnd .u8 (c.toNat:Int) 127=((c.toNat % 128:Nat):Int):=by
 have h:∀ c:Fin 256,iAnd .u8 (c.val:Int) 127=((c.val % 128:Nat):Int):=by decide +kernel
 exact h ⟨c.toNat,c.toNat_lt⟩
theorem vaT_err2 {b:List UInt8} {at_:Int} (h:at_ < 0\/at_ > (b.length:Int)):vaT b at_=(0,0,2):=if_pos h
theorem vaT_in {b:List UInt8} {a:Nat} (h:a<=b.length):vaT b (a:Int)=if (vaGo 0 (b.drop a)).2.2=0 then ((vaGo 0 (b.drop a)).1,(a:Int)+((vaGo 0 (b.drop a)).2.1:Int),0) else (0,0,(vaGo 0 (b.drop a)).2.2):=by
 unfold vaT
 rw [if_neg (by omega)]; rfl
theorem vaT_e {b:List UInt8} {a:Nat} {e:Int} (h:a<=b.length) (he:vaGo 0 (b.drop a)=(0,0,e)) (h0:e ≠ 0):vaT b (a:Int)=(0,0,e):=by
 rw [vaT_in h,he,if_neg h0]
theorem vaT_v {b:List UInt8} {a m k:Nat} (h:a<=b.length) (he:vaGo 0 (b.drop a)=(m,k,0)):vaT b (a:Int)=(m,(a:Int)+(k:Int),0):=by
 rw [vaT_in h,he,if_pos rfl]
theorem va_20 {r:List UInt8} {acc:Nat} {c:UInt8} {r':List UInt8} (hr:vaGo 0 r=vaMix acc 9 (vaGo 9 (c :: r'))) (h:c.toNat > 1):vaGo 0 r=(0,0,20):=by
 rw [hr,vaGo,if_pos ⟨rfl,h⟩]; rfl
theorem va_3 {r:List UInt8} {acc i:Nat} {c:UInt8} {r':List UInt8} (hr:vaGo 0 r=vaMix acc i (vaGo i (c :: r'))) (h:c.toNat=0) (hi:i > 0):vaGo 0 r=(0,0,3):=by
 rw [hr,vaGo,if_neg (by omega),if_neg (by omega),if_pos ⟨h,hi⟩]; rfl
theorem va_ok {r:List UInt8} {acc i:Nat} {c:UInt8} {r':List UInt8} (hr:vaGo 0 r=vaMix acc i (vaGo i (c :: r'))) (h1:¬ (i=9/\c.toNat > 1)) (h2:¬ c.toNat >= 128) (h3:¬ (c.toNat=0/\i > 0)):vaGo 0 r=(acc+128 ^ i * c.toNat,i+1,0):=by
 rw [hr,vaGo,if_neg h1,if_neg h2,if_neg h3]; rfl
theorem va_4 {r:List UInt8} {acc i:Nat} (hr:vaGo 0 r=vaMix acc i (vaGo i [])):vaGo 0 r=(0,0,4):=by rw [hr]; rfl
set_option maxHeartbeats 1000000 in
theorem va_calls (A:Option Addr) (n c:Nat) (b:List UInt8) (at_:Int) (w:World) (h:Sl w 1 A n (b.map bv)) (hcn:n<=c) (hn:n<=1099511627776) :
  Calls Tryz.prog 86 #[.slice A n c,.int .i64 at_] w fun e w'=>e=.returned (vaV (vaT b at_))/\w'=w:=by
 have hl:=sl_len h
 refine (F86.of A n c at_ w (Q:=fun v w'=>v=vaV (vaT b at_)/\w'=w) ?_).mono (fun e w' ⟨v,he,hv,h⟩=>⟨by rw [he,hv],h⟩)
 refine vIf_mk (fun h1=>jnC_mk (fun _=>vIf_t rfl ⟨?_,rfl⟩)) (fun h1=>jnC_mk (fun _=>vIf_mk (fun h2=>⟨?_,rfl⟩) (fun h2=>jnC_mk (fun _=>?_))))
 ·have h1:at_ < 0:=of_decide_eq_true h1
  rw [vaT_err2 (.inl h1)]; rfl
 ·have h2:at_ > (n:Int):=of_decide_eq_true h2
  rw [vaT_err2 (.inr (by omega))]; rfl
 ·have h1:¬ at_ < 0:=of_decide_eq_false h1
  have h2:¬ at_ > (n:Int):=of_decide_eq_false h2
  obtain ⟨a,rfl⟩:∃ a:Nat,at_=(a:Int):=⟨at_.toNat,by omega⟩
  have hab:a<=b.length:=by omega
  have hdr:=sl_drop h (k:=a) (by omega) hcn
  have hrl:(b.drop a).length=n - a:=by rw [List.length_drop,hl]
  generalize hrd:b.drop a=r at hdr hrl
  refine gd_mk (decide_eq_true (by show (0:Int)<=(a:Int); omega)) (gd_mk (decide_eq_true (by show (a:Int)<=(n:Int); omega)) ?_)
  rw [Int.toNat_natCast]
  refine jnC_mk (loop_rule (fun s u=>u=w/\∃ i:Nat,i<=9/\i<=r.length/\s=(((lo7 (r.take i):Nat):Int),4,((a+i:Nat):Int),(slA A c a 1,n - a,c - a),((n - a:Nat):Int),(i:Int),())/\∀ j (h:j < r.length),j < i->r[j].toNat >= 128) (fun s _=>(((n - a:Nat):Int) - s.2.2.2.2.2.1).toNat) ?_ _ _ ⟨rfl,0,by omega,by omega,rfl,fun j h hj=>by omega⟩)
  rintro s u C ⟨rfl,i,h9,hi,rfl,hbs⟩ hC _
  have hat:=va_at r i h9 hi hbs
  refine vIf_mk (fun hlt=>?_) (fun hge=>jnC_mk (fun _=>⟨?_,rfl⟩))
  ·have hlt:(i:Int) < ((n - a:Nat):Int):=of_decide_eq_true hlt
   obtain ⟨b',o',hA,hcl⟩:=le_get hdr (i:=i) (by omega) (by omega)
   have hcons:r.drop i=r[i] :: r.drop (i+1):=List.drop_eq_getElem_cons (by omega)
   have hstep:=lo7_take r i (by omega)
   have hacc:=lo7_lt (r.take i)
   rw [List.length_take,Nat.min_eq_left hi,pow7] at hacc
   rw [hcons] at hat
   generalize hx:r[i]=x at hcl hat hcons hstep
   have hx8:x.toNat < 256:=x.toNat_lt
   have e7:IntKind.wrap .i64 (7 * (i:Int))=((7 * i:Nat):Int):=by rw [i64_id (by omega) (by omega)]; rfl
   have e1:=le_e1 i (by omega)
   have ea:IntKind.wrap .i64 (((a+i:Nat):Int)+1)=((a+(i+1):Nat):Int):=by rw [i64_id (by omega) (by omega)]; omega
   rw [hA]
   refine dr_mk (gd_mk (decide_eq_true (by show (0:Int)<=(i:Int); omega)) (gd_mk (decide_eq_true (by show (i:Int) < ((n - a:Nat):Int); omega)) ⟨_,hcl,?_⟩))
   show gd (decide (0<=IntKind.wrap .i64 (7 * (i:Int)))) _
   dsimp only
   rw [e7,ea,and127,u64_id (n:=((x.toNat % 128:Nat):Int)) (by omega) (by omega),Int.toNat_natCast,Nat.min_eq_left (show 7 * i<=64 by omega),<- hA]
   refine gd_mk (decide_eq_true (by omega)) ?_
   have num:¬ (i=9/\x.toNat > 1)->iOr .u64 ((lo7 (r.take i):Nat):Int) (IntKind.wrap .u64 (((x.toNat % 128:Nat):Int) * 2 ^ (7 * i)))=((lo7 (r.take (i+1)):Nat):Int):=by
    intro hno
    rw [or_add hacc,<- pow7,<- hstep]
    by_cases h9':i=9
    ·subst h9'
     have:x.toNat<=1:=by omega
     have hp:(2:Nat) ^ (7 * 9) * (x.toNat % 128)<=2 ^ 63 * 1:=Nat.mul_le_mul (Nat.le_refl _) (by omega)
     have:(2:Nat) ^ (7 * 9)=2 ^ 63:=rfl
     omega
    ·have hle:=lo7_lt (r.take (i+1))
     rw [hstep,List.length_take,Nat.min_eq_left (by omega),pow7,pow7] at hle
     exact Nat.lt_of_lt_of_le hle (Nat.pow_le_pow_right (by omega) (by omega))
   have tail:∀ t:Bool,t=decide (i=9/\x.toNat > 1)->jnC (F86.k11 (fun v w'=>v=vaV (vaT b (a:Int))/\w'=u) C) (iOr .u64 ((lo7 (r.take i):Nat):Int) (IntKind.wrap .u64 (((x.toNat % 128:Nat):Int) * 2 ^ (7 * i))),4,((a+(i+1):Nat):Int),(i:Int),(x.toNat:Int),(slA A c a 1,n - a,c - a),((n - a:Nat):Int),(i:Int),t,()) u:=by
    rintro t rfl
    refine jnC_mk (fun _=>vIf_mk (fun h3=>jnC_mk (fun _=>⟨?_,rfl⟩)) (fun h3=>?_))
    ·obtain ⟨rfl,h4⟩:=of_decide_eq_true h3
     rw [vaT_e hab (by rw [hrd]; exact va_20 hat h4) (by decide)]; rfl
    ·have h3:=of_decide_eq_false h3
     rw [num h3]
     have good:¬ x.toNat >= 128->¬ (x.toNat=0/\i > 0)->vaT b (a:Int)=(lo7 (r.take (i+1)),((a+(i+1):Nat):Int),0):=by
      intro g1 g2
      rw [vaT_v hab (by rw [hrd]; exact va_ok hat h3 g1 g2),hstep,Nat.mod_eq_of_lt (by omega)]
      congr 1
     refine vIf_mk (fun h4=>?_) (fun h4=>vIf_mk (fun h5=>vIf_mk (fun h6=>jnC_mk (fun _=>⟨?_,rfl⟩)) (fun h6=>jnC_mk (fun _=>⟨?_,rfl⟩))) (fun h5=>jnC_mk (fun _=>⟨?_,rfl⟩)))
     ·have h4:(x.toNat:Int) >= 128:=of_decide_eq_true h4
      show jnC C (((lo7 (r.take (i+1)):Nat):Int),4,((a+(i+1):Nat):Int),(slA A c a 1,n - a,c - a),((n - a:Nat):Int),IntKind.wrap .i64 ((i:Int)+1),()) u
      rw [e1]
      refine jnC_mk (hC _ _ ⟨rfl,i+1,by omega,by omega,rfl,fun j h hj=>?_⟩ ?_)
      ·by_cases hji:j=i
       ·subst hji; rw [hx]; omega
       ·exact hbs j h (by omega)
      ·show (((n - a:Nat):Int) - ((i+1:Nat):Int)).toNat < (((n - a:Nat):Int) - (i:Int)).toNat
       omega
     ·have h5:(x.toNat:Int)=0:=by simpa using h5
      have h6:(i:Int) > 0:=of_decide_eq_true h6
      rw [vaT_e hab (by rw [hrd]; exact va_3 hat (by omega) (by omega)) (by decide)]; rfl
     ·have h4:¬ (x.toNat:Int) >= 128:=of_decide_eq_false h4
      have h6:¬ (i:Int) > 0:=of_decide_eq_false h6
      rw [good (by omega) (by omega)]; rfl
     ·have h4:¬ (x.toNat:Int) >= 128:=of_decide_eq_false h4
      have h5:¬ (x.toNat:Int)=0:=by simpa using h5
      rw [good (by omega) (by omega)]; rfl
   refine vIf_mk (fun hi9=>tail _ ?_) (fun hi9=>tail _ ?_)
   ·have hi9:(i:Int)=9:=by simpa using hi9
    exact decide_eq_decide.2 ⟨fun h=>⟨by omega,by omega⟩,fun h=>by have:=h.2; omega⟩
   ·have hi9:¬ (i:Int)=9:=by simpa using hi9
    exact (decide_eq_false (fun h=>hi9 (by omega))).symm
  ·have hge:¬ (i:Int) < ((n - a:Nat):Int):=of_decide_eq_false hge
   have hil:i=r.length:=by omega
   rw [List.drop_of_length_le (by omega)] at hat
   rw [vaT_e hab (by rw [hrd]; exact va_4 hat) (by decide)]; rfl
def cv (x:BitVec 32):Value:=.int .u32 (x.toNat:Int)
theorem u32_id {n:Int} (h1:0<=n) (h2:n < 4294967296):IntKind.wrap .u32 n=n:=by
 rw [IntKind.wrap_u32]; omega
theorem cofInt (x:BitVec 32):BitVec.ofInt 32 (x.toNat:Int)=x:=by
 apply BitVec.eq_of_toNat_eq
 have:=x.isLt
 simp
theorem c_xor (a b:BitVec 32):iXor .u32 (a.toNat:Int) (b.toNat:Int)=((a ^^^ b).toNat:Int):=by
 unfold iXor
 show IntKind.wrap .u32 (((BitVec.ofInt 32 (a.toNat:Int) ^^^ BitVec.ofInt 32 (b.toNat:Int)).toNat:Nat):Int)=_
 rw [cofInt,cofInt]
 have:=(a ^^^ b).isLt
 exact u32_id (by omega) (by omega)
theorem c_not (a:BitVec 32):iXor .u32 4294967295 (a.toNat:Int)=((~~~a).toNat:Int):=by
 have h:=c_xor (BitVec.allOnes 32) a
 rw [BitVec.allOnes_xor] at h
 exact h
theorem c_shr (a:BitVec 32) (k:Nat):Int.fdiv (a.toNat:Int) (2 ^ k)=((a >>> k).toNat:Int):=by
 rw [BitVec.toNat_ushiftRight,Nat.shiftRight_eq_div_pow,Int.fdiv_eq_ediv_of_nonneg _ (by exact_mod_cast Nat.zero_le (2 ^ k))]
 push_cast
 rfl
theorem c_low (a:BitVec 32):(iAnd .u32 (a.toNat:Int) 1 == 1)=a.getLsbD 0:=by
 unfold iAnd
 show (IntKind.wrap .u32 (((BitVec.ofInt 32 (a.toNat:Int) &&& BitVec.ofInt 32 1).toNat:Nat):Int) == 1)=_
 have e:BitVec.ofInt 32 1=1#32:=rfl
 rw [cofInt,e]
 have h:(a &&& 1#32).toNat=a.toNat % 2:=by
  rw [BitVec.toNat_and]
  exact Nat.and_one_is_mod _
 rw [h,u32_id (by omega) (by omega),BitVec.getLsbD,Nat.testBit_zero]
 by_cases h2:a.toNat % 2=1
 ·rw [h2]; rfl
 ·have h3:a.toNat % 2=0:=by omega
  rw [h3]; rfl
theorem and15:∀ v:Fin 256,iAnd .u8 (v.val:Int) 15=((v.val % 16:Nat):Int):=by decide +kernel
theorem and15n {v:Nat} (h:v < 256):iAnd .u8 (v:Int) 15=((v % 16:Nat):Int):=and15 ⟨v,h⟩
theorem xor16:∀ a b:Fin 16,iXor .u8 (a.val:Int) (b.val:Int)=((a.val ^^^ b.val:Nat):Int):=by decide +kernel
theorem xor16n {a b:Nat} (ha:a < 16) (hb:b < 16):iXor .u8 (a:Int) (b:Int)=((a ^^^ b:Nat):Int):=xor16 ⟨a,ha⟩ ⟨b,hb⟩
theorem u8_of (x:BitVec 32):IntKind.wrap .u8 (x.toNat:Int)=((x.toNat % 256:Nat):Int):=by rw [IntKind.wrap_u8]; omega
theorem idx_nat (x:BitVec 32) (m:Nat) (hm:m < 16):((x ^^^ BitVec.ofNat 32 m) &&& 15#32).toNat=(x.toNat % 16) ^^^ m:=by
 rw [BitVec.toNat_and,BitVec.toNat_xor,BitVec.toNat_ofNat,Nat.mod_eq_of_lt (show m < 2 ^ 32 by omega)]
 have:(15#32).toNat=2 ^ 4 - 1:=rfl
 rw [this,Nat.and_two_pow_sub_one_eq_mod,Nat.xor_mod_two_pow]
 rw [show 2 ^ 4=16 from rfl,Nat.mod_eq_of_lt hm]
theorem idx_lo (x:BitVec 32) (c:UInt8):iXor .u8 (iAnd .u8 (IntKind.wrap .u8 (x.toNat:Int)) 15) (iAnd .u8 (c.toNat:Int) 15)=(((x ^^^ BitVec.ofNat 32 (c.toNat % 16)) &&& 15#32).toNat:Int):=by
 have hc:c.toNat < 256:=c.toNat_lt
 rw [u8_of,and15n (Nat.mod_lt _ (by omega)),and15n hc,xor16n (by omega) (by omega),idx_nat x _ (by omega),show x.toNat % 256 % 16=x.toNat % 16 by omega]
theorem idx_hi (x:BitVec 32) (c:UInt8):iXor .u8 (iAnd .u8 (IntKind.wrap .u8 (x.toNat:Int)) 15) (Int.fdiv (c.toNat:Int) (2 ^ 4))=(((x ^^^ BitVec.ofNat 32 (c.toNat / 16)) &&& 15#32).toNat:Int):=by
 have hc:c.toNat < 256:=c.toNat_lt
 have e:Int.fdiv (c.toNat:Int) (2 ^ 4)=((c.toNat / 16:Nat):Int):=by
  rw [Int.fdiv_eq_ediv_of_nonneg _ (by decide)]; rfl
 rw [u8_of,and15n (Nat.mod_lt _ (by omega)),e,xor16n (by omega) (by omega),idx_nat x _ (by omega),show x.toNat % 256 % 16=x.toNat % 16 by omega]
theorem idx_lt (y:BitVec 32):(y &&& 15#32).toNat < 16:=by
 rw [BitVec.toNat_and]
 have:y.toNat &&& (15#32).toNat<=(15#32).toNat:=Nat.and_le_right
 have e:(15#32).toNat=15:=rfl
 omega
def tabN (i:Nat):List Value:=(List.range 16).map fun j=>if j < i then cv (crF4 (BitVec.ofNat 32 j)) else .int .u32 0
theorem tabN_len (i:Nat):(tabN i).length=16:=by simp [tabN]
theorem tabN_get (i j:Nat) (hj:j < 16):(tabN i)[j]?=some (if j < i then cv (crF4 (BitVec.ofNat 32 j)) else .int .u32 0):=by
 unfold tabN
 rw [List.getElem?_map,List.getElem?_range hj]; rfl
theorem tabN_one (i:Nat):∀ v ∈ tabN i,v.oneCell'=true:=by
 intro v hv
 obtain ⟨j,_,rfl⟩:=List.mem_map.1 hv
 show Value.oneCell' (if j < i then cv (crF4 (BitVec.ofNat 32 j)) else .int .u32 0)=true
 split <;> rfl
theorem tabN_zero:tabN 0=Z217:=rfl
theorem tabN_next (i:Nat) (hi:i < 16):splice (tabN i) i [cv (crF4 (BitVec.ofNat 32 i))]=tabN (i+1):=by
 apply List.ext_getElem?
 intro j
 rw [splice_get (by rw [tabN_len]; show i+1<=16; omega)]
 by_cases h1:j < i
 ·rw [if_pos h1,tabN_get _ _ (by omega),tabN_get _ _ (by omega),if_pos h1,if_pos (by omega)]
 ·rw [if_neg h1]
  by_cases h2:j=i
  ·subst h2
   rw [if_pos (by show j < j+1; omega),tabN_get _ _ (by omega),if_pos (by omega),Nat.sub_self]; rfl
  ·rw [if_neg (by show ¬ j < i+1; omega)]
   by_cases h3:j < 16
   ·rw [tabN_get _ _ h3,tabN_get _ _ h3,if_neg h1,if_neg (by omega)]
   ·rw [List.getElem?_eq_none (by rw [tabN_len]; omega),List.getElem?_eq_none (by rw [tabN_len]; omega)]
set_option maxHeartbeats 1000000 in
theorem nibbles_calls (w:World):Calls Tryz.prog 131 #[] w fun e w'=>e=.returned (ofL (tabN 16))/\Fr (fun _=>False) w w':=by
 refine (F131.of w (Q:=fun v w'=>v=ofL (tabN 16)/\Fr (fun _=>False) w w') ?_).mono (fun e w' ⟨v,he,hv,h⟩=>⟨by rw [he,hv],h⟩)
 refine nw_mk (nw_mk ?_)
 have r1:=RecAt.new w Z217 217
 have f1:Fr (fun _=>False) w (w.alloc (.cells Z217.toArray 217)):=Fr.alloc _ _ _
 have s1:=f1.size
 have e1:(w.alloc (.cells Z217.toArray 217)).heap.size=w.heap.size+1:=alloc_size _ _
 generalize hw1:w.alloc (.cells Z217.toArray 217)=w1 at r1 f1 s1 e1 ⊢
 have r2:=RecAt.new w1 Z217 217
 have f2:Fr (fun _=>False) w1 (w1.alloc (.cells Z217.toArray 217)):=Fr.alloc _ _ _
 have r1:=r1.fr f2 (fun h=>h)
 have f12:=f1.trans1 f2
 generalize hw2:w1.alloc (.cells Z217.toArray 217)=w2 at r1 r2 f2 f12 ⊢
 rw [<- tabN_zero] at r2
 refine jnC_mk (loop_rule (fun s u=>∃ i:Nat,i<=16/\s=((w.heap.size,0),(w1.heap.size,0),(i:Int),())/\Fr (fun _=>False) w u/\RecAt u w.heap.size 217 Z217/\RecAt u w1.heap.size 217 (tabN i)) (fun s _=>(16 - s.2.2.1).toNat) ?_ _ _ ⟨0,by omega,rfl,f12,r1,r2⟩)
 rintro s u C ⟨i,hi,rfl,hf,q1,q2⟩ hC _
 refine vIf_mk (fun hlt=>?_) (fun hge=>?_)
 ·have hlt:(i:Int) < 16:=of_decide_eq_true hlt
  have ei:IntKind.wrap .u32 (i:Int)=(((BitVec.ofNat 32 i).toNat:Nat):Int):=by
   rw [u32_id (by omega) (by omega),BitVec.toNat_ofNat,Nat.mod_eq_of_lt (by omega)]
  refine jnC_mk (loop_rule (fun s v=>v=u/\∃ k:Nat,k<=4/\s=((w.heap.size,0),(w1.heap.size,0),(i:Int),(((Nat.repeat crF k (BitVec.ofNat 32 i)).toNat:Nat):Int),(i:Int),(k:Int),())) (fun s _=>(4 - s.2.2.2.2.2.1).toNat) ?_ _ _ ⟨rfl,0,by omega,?_⟩)
  ·rintro s v C' ⟨rfl,k,hk,rfl⟩ hC' _
   refine vIf_mk (fun hk4=>?_) (fun hk4=>?_)
   ·have hk4:(k:Int) < 4:=of_decide_eq_true hk4
    generalize hx:Nat.repeat crF k (BitVec.ofNat 32 i)=x
    have hnext:Nat.repeat crF (k+1) (BitVec.ofNat 32 i)=crF x:=by rw [<- hx]; rfl
    have eP:(2197175160:Int)=(crP.toNat:Int):=rfl
    dsimp only
    rw [c_low,c_shr,eP,c_xor,le_e1 k (by omega)]
    refine vIf_mk (fun hb=>jnC_mk (hC' _ _ ⟨rfl,k+1,by omega,?_⟩ ?_)) (fun hb=>jnC_mk (hC' _ _ ⟨rfl,k+1,by omega,?_⟩ ?_))
    ·rw [hnext]; unfold crF; rw [if_pos hb]
    ·show (4 - ((k+1:Nat):Int)).toNat < (4 - (k:Int)).toNat
     omega
    ·rw [hnext]; unfold crF; rw [if_neg (by rw [hb]; decide),BitVec.xor_zero]
    ·show (4 - ((k+1:Nat):Int)).toNat < (4 - (k:Int)).toNat
     omega
   ·have hk4:¬ (k:Int) < 4:=of_decide_eq_false hk4
    obtain rfl:k=4:=by omega
    refine gd_mk (decide_eq_true (by show (0:Int)<=(i:Int); omega)) (gd_mk (decide_eq_true hlt) ?_)
    dsimp only
    rw [Int.toNat_natCast,show 0+i * 1=i by omega]
    have hv:Nat.repeat crF 4 (BitVec.ofNat 32 i)=crF4 (BitVec.ofNat 32 i):=rfl
    rw [hv]
    refine q2.st_mk (vs:=[cv (crF4 (BitVec.ofNat 32 i))]) (by rw [tabN_len]; show i+1<=16; omega) (fun v hv=>by simp at hv; subst hv; rfl) (fun q3 f3=>?_)
    rw [tabN_next i (by omega)] at q3
    rw [le_e1 i (by omega)]
    refine jnC_mk (hC _ _ ⟨i+1,by omega,rfl,hf.trans f3 (fun _ _ h=>h) (fun k hk h=>by omega),q1.fr f3 (fun h=>by omega),q3⟩ ?_)
    show (16 - ((i+1:Nat):Int)).toNat < (16 - (i:Int)).toNat
    omega
  ·rw [ei]; rfl
 ·have hge:¬ (i:Int) < 16:=of_decide_eq_false hge
  obtain rfl:i=16:=by omega
  refine ⟨tabN 16,rfl,q2.cells (o:=0) (fun j v hj=>by rw [Nat.zero_add]; exact hj),gd_mk rfl ?_⟩
  refine q1.st_mk (o:=0) (vs:=tabN 16) (by rw [tabN_len]; decide) (tabN_one 16) (fun q3 f3=>?_)
  rw [splice_full (by rw [tabN_len]; rfl)] at q3
  exact ⟨tabN 16,rfl,q3.cells (o:=0) (fun j v hj=>by rw [Nat.zero_add]; exact hj),rfl,hf.trans f3 (fun _ _ h=>h) (fun k hk h=>by omega)⟩
set_option maxHeartbeats 1000000 in
theorem crc_calls (A:Option Addr) (n c:Nat) (b:List UInt8) (w:World) (h:Sl w 1 A n (b.map bv)) (hn:n<=1099511627776) :
  Calls Tryz.prog 83 #[.slice A n c] w fun e w'=>e=.returned (.int .u32 ((crcS b).toNat:Int))/\Fr (fun _=>False) w w':=by
 have hl:=sl_len h
 refine (F83.of A n c w (Q:=fun v w'=>v=.int .u32 ((crcS b).toNat:Int)/\Fr (fun _=>False) w w') ?_).mono (fun e w' ⟨v,he,hv,h⟩=>⟨by rw [he,hv],h⟩)
 have more:Calls Tryz.prog 107 #[.int .u32 0,.slice A n c] w fun e w'=>e=.returned (.int .u32 ((crcS b).toNat:Int))/\Fr (fun _=>False) w w':=by
  refine (F107.of 0 A n c w (Q:=fun v w'=>v=.int .u32 ((crcS b).toNat:Int)/\Fr (fun _=>False) w w') ?_).mono (fun e w' ⟨v,he,hv,h⟩=>⟨by rw [he,hv],h⟩)
  refine (nibbles_calls w).mono ?_
  rintro e w1 ⟨rfl,f1⟩
  refine ⟨_,rfl,nw_mk (gd_mk (by rw [tabN_len]; rfl) ?_)⟩
  have r1:=RecAt.new w1 Z217 217
  have f2:Fr (fun _=>False) w1 (w1.alloc (.cells Z217.toArray 217)):=Fr.alloc _ _ _
  generalize hw2:w1.alloc (.cells Z217.toArray 217)=w2 at r1 f2 ⊢
  refine r1.st_mk (o:=0) (vs:=tabN 16) (by rw [tabN_len]; decide) (tabN_one 16) (fun r2 f3=>?_)
  rw [splice_full (by rw [tabN_len]; rfl)] at r2
  have f:=(f1.trans1 f2).trans f3 (U:=fun _=>False) (fun _ _ h=>h) (fun k hk h=>by have:=f1.size; omega)
  generalize stB w2 w1.heap.size 0 (tabN 16)=w3 at r2 f ⊢
  have hb:=f.sl h (fun _ _ _ h=>h)
  refine jnC_mk (loop_rule (fun s u=>u=w3/\∃ i:Nat,i<=n/\s=((w1.heap.size,0),((((b.take i).foldl byteS (~~~ 0#32)).toNat:Nat):Int),(A,n,c),(n:Int),(i:Int),())) (fun s _=>(n - s.2.2.2.2.1).toNat) ?_ _ _ ⟨rfl,0,by omega,?_⟩)
  ·rintro s u C ⟨rfl,i,hi,rfl⟩ hC _
   have tb:∀ (y:BitVec 32) (K:Int->Prop),K ((crF4 (y &&& 15#32)).toNat:Int)->gd (decide (0<=(((y &&& 15#32).toNat:Nat):Int))) (gd (decide ((((y &&& 15#32).toNat:Nat):Int) < 16)) (ldI .u32 u w1.heap.size (0+(((y &&& 15#32).toNat:Nat):Int).toNat * 1) K)):=by
    intro y K hK
    have hy:=idx_lt y
    refine gd_mk (decide_eq_true (by omega)) (gd_mk (decide_eq_true (by omega)) ⟨_,?_,hK⟩)
    rw [Int.toNat_natCast,show 0+(y &&& 15#32).toNat * 1=(y &&& 15#32).toNat by omega]
    refine r2.cell ?_
    rw [tabN_get _ _ hy,if_pos hy,BitVec.ofNat_toNat,BitVec.setWidth_eq]; rfl
   refine vIf_mk (fun hlt=>?_) (fun hge=>⟨?_,f⟩)
   ·have hlt:(i:Int) < (n:Int):=of_decide_eq_true hlt
    obtain ⟨b',o',hA,hcl⟩:=le_get hb (i:=i) (by omega) (by omega)
    have hnext:b.take (i+1)=b.take i ++ [b[i]]:=by rw [List.take_add_one,List.getElem?_eq_getElem (by omega)]; rfl
    generalize hx:b[i]=x at hcl hnext
    generalize hq:(b.take i).foldl byteS (~~~ 0#32)=q
    have hq':(b.take (i+1)).foldl byteS (~~~ 0#32)=byteS q x:=by rw [hnext,List.foldl_append,hq]; rfl
    rw [hA]
    refine dr_mk (gd_mk (decide_eq_true (by show (0:Int)<=(i:Int); omega)) (gd_mk (decide_eq_true hlt) ⟨_,hcl,?_⟩))
    dsimp only
    rw [idx_lo]
    refine tb _ _ ?_
    rw [c_shr,c_xor]
    rw [idx_hi]
    refine tb _ _ ?_
    rw [c_shr,c_xor,le_e1 i (by omega),<- hA]
    refine jnC_mk (hC _ _ ⟨rfl,i+1,by omega,?_⟩ ?_)
    ·rw [hq']; rfl
    ·show ((n:Int) - ((i+1:Nat):Int)).toNat < ((n:Int) - (i:Int)).toNat
     omega
   ·have hge:¬ (i:Int) < (n:Int):=of_decide_eq_false hge
    obtain rfl:i=n:=by omega
    dsimp only
    rw [c_not,List.take_of_length_le (by omega)]; rfl
  ·rfl
 refine more.mono ?_
 rintro e u ⟨rfl,f⟩
 exact ⟨_,rfl,rfl,f⟩
def bos (l:List Bool):List Value:=l.map Value.bool
theorem bos_one (l:List Bool):∀ v ∈ bos l,v.oneCell'=true:=by
 intro v hv
 obtain ⟨b,_,rfl⟩:=List.mem_map.1 hv
 rfl
abbrev RT (w0 w:World) (A:Option Addr) (n c:Nat) (l:List Bool):Prop:=Fr (fun _=>False) w0 w/\Row w w0.heap.size 4 1 A n c (bos l)
theorem RT.len {w0 w:World} {A:Option Addr} {n c:Nat} {l:List Bool} (h:RT w0 w A n c l):l.length=n:=by have:=h.2.len; simpa [bos] using this
theorem RT.fr {w0 w w':World} {A:Option Addr} {n c:Nat} {l:List Bool} (h:RT w0 w A n c l) (f:Fr (fun _=>False) w w'):RT w0 w' A n c l:=⟨h.1.trans1 f,f.row h.2 (fun _ _ h=>h)⟩
theorem pushT_mk {w0 w:World} {A:Option Addr} {n c:Nat} {l:List Bool} {x:Bool} {K:Option Addr->Nat->Nat->World->Prop} (h:RT w0 w A n c l) (hm:n < 70368744177664)
  (hK:∀ A' c' w',RT w0 w' A' (n+1) c' (l ++ [x])->K A' (n+1) c' w'):nw w ([Value.bool x] ++ []) 4 fun b w1=>app w1 1 1 [Value.bool false] 4 A n c (.slice (some ⟨b,0,none⟩) 1 1) K:=by
 refine nw_mk ?_
 have h1:=h.fr (Fr.alloc (fun _=>False) w (.cells ([Value.bool x] ++ []).toArray 4))
 refine app_row h1.2 (us:=bos [x]) (m:=1) (Row.new (sz:=1) (n:=1) (B:=0) (Nat.zero_le _) rfl).sl.src (bos_one [x]) rfl (by show (n+1) * 1<=_; omega) (by show n+1<=_; omega) h1.1.size (fun A' c' w' hr f=>hK A' c' w' ⟨h1.1.trans f (fun _ _ h=>h) (fun k hk hb=>by have:=(h1.2.blt hb).1; omega),?_⟩)
 unfold bos; rw [List.map_append]; exact hr
theorem row_putT {w:World} {B:Nat} {e:TypeId} {sz:Nat} {A:Option Addr} {n c:Nat} {vs us:List Value} {o':Nat} {K:World->Prop} (hr:Row w B e sz A n c vs) (hn:n ≠ 0) (hfit:o'+us.length<=n * sz) (h1:∀ v ∈ us,v.oneCell'=true)
  (hK:∀ w',Row w' B e sz A n c (splice vs o' us)->Fr (fun k=>blkOf A=some k) w w'->K w'):dr A fun b o=>st w b (o+o') us K:=by
 rcases hr.at_ with ⟨_,h0,_⟩ | ⟨b,cs,rfl,hB,hh,hs,ht⟩
 ·exact absurd h0 hn
 ·have hle:=hr.le
  have hl:=hr.len
  have hmul:n * sz<=c * sz:=Nat.mul_le_mul_right _ hle
  show st w b (0+o') us K
  rw [Nat.zero_add]
  have hfit2:o'+us.length<=cs.toList.length:=by simp; omega
  refine ⟨⟨cs,e,0,0,hh,by simpa using hfit2,.inl (Nat.zero_le _)⟩,h1,hK _ ⟨by rw [splice_length (by omega)]; exact hl,hle,.inr ⟨b,_,rfl,hB,stB_heap hh,?_,?_⟩⟩ (Fr.st (fun _=>rfl))⟩
  ·simp only [List.size_toArray]; rw [splice_length hfit2]; simpa using hs
  ·apply List.ext_getElem?
   intro j
   simp only [List.getElem?_take]
   by_cases hj:j < n * sz
   ·rw [if_pos hj,splice_get hfit2,splice_get (by omega),<- ht]
    simp only [List.getElem?_take]
    by_cases h2:j < o'
    ·rw [if_pos h2,if_pos h2,if_pos hj]
    ·rw [if_neg h2,if_neg h2]
     split
     ·rfl
     ·first | rfl | rw [if_pos hj]
   ·rw [if_neg hj,List.getElem?_eq_none (by rw [splice_length (by omega)]; omega)]
theorem bit_eq (x k:Nat):((Int.tmod (Int.fdiv (x:Int) (2 ^ k)) 2) == 1)=x.testBit k:=by
 have e:Int.fdiv (x:Int) (2 ^ k)=((x / 2 ^ k:Nat):Int):=by
  rw [Int.fdiv_eq_ediv_of_nonneg _ (by exact_mod_cast Nat.zero_le (2 ^ k))]
  push_cast; rfl
 rw [e,show Int.tmod ((x / 2 ^ k:Nat):Int) 2=_ from tmod_nat (x / 2 ^ k) 2,Nat.testBit_eq_decide_div_mod_eq]
 by_cases h:x / 2 ^ k % 2=1
 ·rw [h]; rfl
 ·rw [decide_eq_false h]
  have:x / 2 ^ k % 2=0:=by omega
  rw [this]; rfl
theorem bits8_take (c:UInt8) (k:Nat) (hk:k < 8):(bits8 c).take (k+1)=(bits8 c).take k ++ [c.toNat.testBit k]:=by
 rw [List.take_add_one]
 congr 1
 unfold bits8
 rw [List.getElem?_map,List.getElem?_range hk]; rfl
theorem bits8_len (c:UInt8):(bits8 c).length=8:=by simp [bits8]
theorem bitsL_take (b:List UInt8) (i:Nat) (h:i < b.length):bitsL (b.take (i+1))=bitsL (b.take i) ++ bits8 b[i]:=by
 unfold bitsL
 rw [List.take_add_one,List.getElem?_eq_getElem h,List.map_append,List.flatten_append]
 simp
set_option maxHeartbeats 1000000 in
theorem bits_calls (A:Option Addr) (n c:Nat) (b:List UInt8) (w:World) (h:Sl w 1 A n (b.map bv)) (hn:n<=1099511627775) :
  Calls Tryz.prog 67 #[.slice A n c] w fun e w'=>∃ A' c',e=.returned (.slice A' (8 * n) c')/\RT w w' A' (8 * n) c' (bitsL b):=by
 have hl:=sl_len h
 refine (F67.of A n c w (Q:=fun v w'=>∃ A' c',v=.slice A' (8 * n) c'/\RT w w' A' (8 * n) c' (bitsL b)) ?_).mono (fun e w' ⟨v,he,A',c',hv,h⟩=>⟨A',c',by rw [he,hv],h⟩)
 refine jnC_mk (loop_rule (fun s u=>∃ (i:Nat) (R:Option Addr) (rc:Nat),i<=n/\s=((A,n,c),(R,8 * i,rc),(i:Int),())/\RT w u R (8 * i) rc (bitsL (b.take i))) (fun s _=>(n - s.2.2.1).toNat) ?_ _ _ ⟨0,none,0,by omega,rfl,Fr.refl _ _,Row.nil _ _ _ _⟩)
 rintro s u C ⟨i,R,rc,hi,rfl,hr⟩ hC _
 refine vIf_mk (fun hlt=>?_) (fun hge=>?_)
 ·have hlt:(i:Int) < (n:Int):=of_decide_eq_true hlt
  have hib:i < b.length:=by omega
  refine jnC_mk (loop_rule (fun s v=>∃ (k:Nat) (R:Option Addr) (rc:Nat),k<=8/\s=((A,n,c),(R,8 * i+k,rc),(i:Int),(k:Int),())/\RT w v R (8 * i+k) rc (bitsL (b.take i) ++ (bits8 b[i]).take k)) (fun s _=>(8 - s.2.2.2.1).toNat) ?_ _ _ ⟨0,R,rc,by omega,rfl,by rw [List.take_zero,List.append_nil]; exact hr⟩)
  rintro s v C' ⟨k,R1,rc1,hk,rfl,hr1⟩ hC' _
  refine vIf_mk (fun hk8=>?_) (fun hk8=>?_)
  ·have hk8:(k:Int) < 8:=of_decide_eq_true hk8
   obtain ⟨b',o',hA,hcl⟩:=le_get (hr1.1.sl h (fun _ _ _ h=>h)) (i:=i) (by omega) hib
   have eu:IntKind.wrap .u64 (k:Int)=(k:Int):=u64_id (by omega) (by omega)
   rw [hA]
   refine dr_mk (gd_mk (decide_eq_true (by show (0:Int)<=(i:Int); omega)) (gd_mk (decide_eq_true hlt) ⟨_,hcl,?_⟩))
   dsimp only
   rw [eu,Int.toNat_natCast,Nat.min_eq_left (show k<=8 by omega),bit_eq,le_e1 k (by omega),<- hA]
   refine gd_mk (decide_eq_true (by omega)) (pushT_mk hr1 (by omega) (fun A' c' w' h2=>jnC_mk (hC' _ _ ⟨k+1,A',c',by omega,rfl,?_⟩ ?_)))
   ·rw [bits8_take _ _ (by omega),<- List.append_assoc]; exact h2
   ·show (8 - ((k+1:Nat):Int)).toNat < (8 - (k:Int)).toNat
    omega
  ·have hk8:¬ (k:Int) < 8:=of_decide_eq_false hk8
   obtain rfl:k=8:=by omega
   dsimp only
   rw [le_e1 i (by omega)]
   refine jnC_mk (hC _ _ ⟨i+1,R1,rc1,by omega,by rw [show 8 * (i+1)=8 * i+8 by omega],?_⟩ ?_)
   ·rw [bitsL_take b i hib,show 8 * (i+1)=8 * i+8 by omega]
    rw [List.take_of_length_le (l:=bits8 b[i]) (by rw [bits8_len]; omega)] at hr1
    exact hr1
   ·show ((n:Int) - ((i+1:Nat):Int)).toNat < ((n:Int) - (i:Int)).toNat
    omega
 ·have hge:¬ (i:Int) < (n:Int):=of_decide_eq_false hge
  obtain rfl:i=n:=by omega
  rw [List.take_of_length_le (by omega)] at hr
  exact ⟨R,rc,rfl,hr⟩
theorem b_shl (x:BitVec 32):IntKind.wrap .u32 ((x.toNat:Int) * 2)=((x <<< 1).toNat:Int):=by
 rw [IntKind.wrap_u32,BitVec.toNat_shiftLeft,Nat.shiftLeft_eq]
 omega
theorem b_or (x:BitVec 32) (t:Bool):(((x <<< 1) ||| bitB t).toNat:Int)=((x <<< 1).toNat:Int)+(if t then 1 else 0):=by
 cases t with
 | false =>
  have:(x <<< 1) ||| bitB false=x <<< 1:=by unfold bitB; simp
  rw [this]; simp
 | true =>
  rw [BitVec.toNat_or,BitVec.toNat_shiftLeft,Nat.shiftLeft_eq]
  have e:(bitB true).toNat=1:=rfl
  rw [e]
  have h:=Nat.two_pow_add_eq_or_of_lt (i:=1) (show 1 < 2 ^ 1 by decide) (x.toNat % 2 ^ 31)
  have e2:x.toNat * 2 ^ 1 % 2 ^ 32=2 ^ 1 * (x.toNat % 2 ^ 31):=by omega
  rw [e2,<- h]
  simp
theorem b_add (x:BitVec 32) (t:Bool):IntKind.wrap .u32 (((x <<< 1).toNat:Int)+(if t then 1 else 0))=(((x <<< 1) ||| bitB t).toNat:Int):=by
 rw [<- b_or]
 have:=((x <<< 1) ||| bitB t).isLt
 exact u32_id (by omega) (by omega)
theorem b_top (x:BitVec 32):decide ((x.toNat:Int) >= 2147483648)=x.getLsbD 31:=by
 have h:x.getLsbD 31=decide (x.toNat >= 2 ^ 31):=by
  rw [BitVec.getLsbD,Nat.testBit_eq_decide_div_mod_eq]
  have:=x.isLt
  exact decide_eq_decide.2 (by omega)
 rw [h]
 exact decide_eq_decide.2 (by omega)
def revF (r:BitVec 32):Nat->BitVec 32
 | 0=>0#32
 | i+1=>(revF r i <<< 1) ||| bitB (r.getLsbD i)
theorem revF_get (r:BitVec 32):∀ i,i<=32->∀ j,j < 32->(revF r i).getLsbD j=(decide (j < i) && r.getLsbD (i - 1 - j))
 | 0,_,j,hj=>by simp [revF]
 | i+1,hi,j,hj=>by
  rw [revF,BitVec.getLsbD_or,BitVec.getLsbD_shiftLeft,bitB_get,decide_eq_true hj]
  cases j with
  | zero=>simp
  | succ j =>
   have ih:=revF_get r i (by omega) j (by omega)
   simp only [Nat.add_sub_cancel,Nat.zero_lt_succ,Nat.lt_add_left_iff_pos]
   rw [ih]
   have:(r.getLsbD i && decide (j+1=0))=false:=by simp
   rw [this]
   have e:i+1 - 1 - (j+1)=i - 1 - j:=by omega
   have e2:decide (j+1 < i+1)=decide (j < i):=decide_eq_decide.2 (by omega)
   have e3:decide (j+1 < 1)=false:=decide_eq_false (by omega)
   rw [show i - (j+1)=i - 1 - j by omega]
   simp [e2,e3]
theorem revF_all (r:BitVec 32):revF r 32=r.reverse:=by
 apply BitVec.eq_of_getLsbD_eq
 intro j hj
 rw [revF_get r 32 (Nat.le_refl _) j hj,rev_get r j hj,decide_eq_true hj]; rfl
theorem flip_put (l:List Bool) (i:Nat) (hi:i < l.length):splice (bos ((l.take i).map (fun b=>!b) ++ l.drop i)) i [Value.bool (!l[i])]=bos ((l.take (i+1)).map (fun b=>!b) ++ l.drop (i+1)):=by
 unfold bos splice
 rw [List.map_append,List.map_append,List.take_left' (by simp; omega),List.take_add_one,List.getElem?_eq_getElem hi]
 rw [List.drop_append,List.drop_of_length_le (by simp; omega)]
 simp only [List.length_map,List.length_take,List.length_cons,List.length_nil,Nat.min_eq_left (Nat.le_of_lt hi),<- List.map_drop,List.drop_drop]
 rw [show i+(i+(0+1) - i)=i+1 by omega,List.map_append,List.map_append,List.nil_append]
 rfl
set_option maxHeartbeats 2000000 in
theorem rcrc_calls (A:Option Addr) (n c:Nat) (b:List UInt8) (w:World) (h:Sl w 1 A n (b.map bv)) (hn:n<=137438953000) :
  Calls Tryz.prog 39 #[.slice A n c] w fun e w'=>e=.returned (.int .u32 ((crcS b).toNat:Int))/\Fr (fun _=>False) w w':=by
 have hl:=sl_len h
 refine (F39.of A n c w (Q:=fun v w'=>v=.int .u32 ((crcS b).toNat:Int)/\Fr (fun _=>False) w w') ?_).mono (fun e w' ⟨v,he,hv,h⟩=>⟨by rw [he,hv],h⟩)
 refine (bits_calls A n c b w h (by omega)).mono ?_
 rintro e w1 ⟨A1,c1,rfl,h1⟩
 refine ⟨A1,_,c1,rfl,jnC_mk (loop_rule (fun s u=>∃ (i:Nat) (R:Option Addr) (rc:Nat),i<=32/\s=((R,8 * n+i,rc),(i:Int),())/\RT w u R (8 * n+i) rc (bitsL b ++ List.replicate i false)) (fun s _=>(32 - s.2.1).toNat) ?_ _ _ ⟨0,A1,c1,by omega,rfl,by rw [List.replicate_zero,List.append_nil]; exact h1⟩)⟩
 rintro s u C ⟨i,R,rc,hi,rfl,hr⟩ hC _
 refine vIf_mk (fun hlt=>?_) (fun hge=>?_)
 ·have hlt:(i:Int) < 32:=of_decide_eq_true hlt
  refine pushT_mk hr (by show 8 * n+i < _; omega) (fun A' c' w' h2=>?_)
  dsimp only
  rw [le_e1 i (by omega)]
  refine jnC_mk (hC _ _ ⟨i+1,A',c',by omega,rfl,?_⟩ ?_)
  ·rw [List.replicate_succ',<- List.append_assoc]; exact h2
  ·show (32 - ((i+1:Nat):Int)).toNat < (32 - (i:Int)).toNat
   omega
 ·have hge:¬ (i:Int) < 32:=of_decide_eq_false hge
  obtain rfl:i=32:=by omega
  have hL:=hr.len
  generalize hl0:bitsL b ++ List.replicate 32 false=l at hr hL
  clear hC
  refine jnC_mk (loop_rule (fun s v=>∃ i:Nat,i<=32/\s=((R,8 * n+32,rc),(i:Int),())/\RT w v R (8 * n+32) rc ((l.take i).map (fun b=>!b) ++ l.drop i)) (fun s _=>(32 - s.2.1).toNat) ?_ _ _ ⟨0,by omega,rfl,by rw [List.take_zero,List.drop_zero]; exact hr⟩)
  rintro s v C ⟨i,hi,rfl,hv⟩ hC _
  refine vIf_mk (fun hlt=>?_) (fun hge=>?_)
  ·have hlt:(i:Int) < 32:=of_decide_eq_true hlt
   have hil:i < l.length:=by omega
   have hget:(bos ((l.take i).map (fun b=>!b) ++ l.drop i))[i]?=some (Value.bool l[i]):=by
    unfold bos
    rw [List.getElem?_map,List.getElem?_append_right (by simp; omega)]
    simp only [List.length_map,List.length_take,Nat.min_eq_left (Nat.le_of_lt hil),Nat.sub_self]
    rw [List.getElem?_drop,Nat.add_zero,List.getElem?_eq_getElem hil]; rfl
   obtain ⟨b',o',hA,hcl⟩:=hv.2.sl.get (i:=i) (by omega) hget
   have hput:=row_putT (K:=fun w17=>jnC C ((R,8 * n+32,rc),((i+1:Nat):Int),()) w17) hv.2 (o':=i) (us:=[Value.bool (!l[i])]) (by omega) (by show i+1<=(8 * n+32) * 1; omega) (fun v hv=>by simp at hv; subst hv; rfl) (fun w' h2 f2=>jnC_mk (hC _ _ ⟨i+1,by omega,rfl,hv.1.trans f2 (fun _ _ h=>h) (fun k hk hb=>by have:=(hv.2.blt hb).1; omega),by rw [<- flip_put l i hil]; exact h2⟩ (by show (32 - ((i+1:Nat):Int)).toNat < (32 - (i:Int)).toNat; omega)))
   rw [hA] at hput ⊢
   refine dr_mk (gd_mk (decide_eq_true (by show (0:Int)<=(i:Int); omega)) (gd_mk (decide_eq_true (by show (i:Int) < ((8 * n+32:Nat):Int); omega)) ⟨_,hcl,dr_mk (gd_mk (decide_eq_true (by show (0:Int)<=(i:Int); omega)) (gd_mk (decide_eq_true (by show (i:Int) < ((8 * n+32:Nat):Int); omega)) ?_))⟩))
   dsimp only
   rw [le_e1 i (by omega),Int.toNat_natCast,Nat.mul_one]
   exact hput
  ·have hge:¬ (i:Int) < 32:=of_decide_eq_false hge
   obtain rfl:i=32:=by omega
   have hfl:(l.take 32).map (fun b=>!b) ++ l.drop 32=flip32 l:=rfl
   rw [hfl] at hv
   have hfL:=hv.len
   clear hC
   have f:=hv.1
   have hs:=hv.2.sl
   refine jnC_mk (loop_rule (fun s x=>x=v/\∃ i:Nat,i<=8 * n+32/\s=((R,8 * n+32,rc),517762881,(((((flip32 l).take i).foldl gN 0#32).toNat:Nat):Int),(i:Int),())) (fun s _=>(8 * n+32 - s.2.2.2.1).toNat) ?_ _ _ ⟨rfl,0,by omega,rfl⟩)
   rintro s x C ⟨rfl,i,hi,rfl⟩ hC _
   refine vIf_mk (fun hlt=>?_) (fun hge=>?_)
   ·have hlt:(i:Int) < ((8 * n+32:Nat):Int):=of_decide_eq_true hlt
    have hil:i < (flip32 l).length:=by omega
    obtain ⟨b',o',hA,hcl⟩:=hs.get (i:=i) (by omega) (v:=Value.bool (flip32 l)[i]) (by unfold bos; rw [List.getElem?_map,List.getElem?_eq_getElem hil]; rfl)
    have hnext:((flip32 l).take (i+1)).foldl gN 0#32=gN (((flip32 l).take i).foldl gN 0#32) (flip32 l)[i]:=by
     rw [List.take_add_one,List.getElem?_eq_getElem hil,List.foldl_append]; rfl
    generalize hx:(flip32 l)[i]=t at hcl hnext
    generalize hq:((flip32 l).take i).foldl gN 0#32=q at hnext
    have eP:(517762881:Int)=((0x1edc6f41#32).toNat:Int):=rfl
    have go:∀ y:BitVec 32,y=gN q t->jnC C ((R,8 * n+32,rc),517762881,((y.toNat:Nat):Int),((i+1:Nat):Int),()) x:=by
     rintro y rfl
     exact jnC_mk (hC _ _ ⟨rfl,i+1,by omega,by rw [hnext]⟩ (by show ((8 * n+32:Int) - ((i+1:Nat):Int)).toNat < ((8 * n+32:Int) - (i:Int)).toNat; omega))
    rw [hA] at go ⊢
    refine dr_mk (gd_mk (decide_eq_true (by show (0:Int)<=(i:Int); omega)) (gd_mk (decide_eq_true hlt) ⟨t,hcl,?_⟩))
    dsimp only
    rw [b_top,le_e1 i (by omega),b_shl]
    have hT:IntKind.wrap .u32 (((q <<< 1).toNat:Int)+1)=(((q <<< 1) ||| bitB true).toNat:Int):=b_add q true
    have hF:((q <<< 1).toNat:Int)=(((q <<< 1) ||| bitB false).toNat:Int):=by rw [b_or]; simp
    refine vIf_mk (fun ht=>vIf_mk (fun hb=>?_) (fun hb=>?_)) (fun ht=>vIf_mk (fun hb=>?_) (fun hb=>?_))
    ·subst ht
     rw [hT,eP,c_xor,<- eP]
     exact go _ (by unfold gN; rw [if_pos hb])
    ·subst ht
     rw [hT]
     exact go _ (by unfold gN; rw [if_neg (by rw [hb]; decide),BitVec.xor_zero])
    ·subst ht
     rw [hF,eP,c_xor,<- eP]
     exact go _ (by unfold gN; rw [if_pos hb])
    ·subst ht
     rw [hF]
     exact go _ (by unfold gN; rw [if_neg (by rw [hb]; decide),BitVec.xor_zero])
   ·have hge:¬ (i:Int) < ((8 * n+32:Nat):Int):=of_decide_eq_false hge
    obtain rfl:i=8 * n+32:=by omega
    rw [List.take_of_length_le (by omega)]
    generalize hq:(flip32 l).foldl gN 0#32=q
    clear hC
    refine jnC_mk (loop_rule (fun s y=>y=x/\∃ i:Nat,i<=32/\s=(((q.toNat:Nat):Int),(((revF q i).toNat:Nat):Int),(i:Int),())) (fun s _=>(32 - s.2.2.1).toNat) ?_ _ _ ⟨rfl,0,by omega,rfl⟩)
    rintro s y C ⟨rfl,i,hi,rfl⟩ hC _
    refine vIf_mk (fun hlt=>?_) (fun hge=>⟨?_,f⟩)
    ·have hlt:(i:Int) < 32:=of_decide_eq_true hlt
     have eu:IntKind.wrap .u64 (i:Int)=(i:Int):=u64_id (by omega) (by omega)
     dsimp only
     rw [eu,Int.toNat_natCast,Nat.min_eq_left (show i<=32 by omega),le_e1 i (by omega)]
     refine gd_mk (decide_eq_true (by omega)) (jnC_mk (hC _ _ ⟨rfl,i+1,by omega,?_⟩ ?_))
     ·have hb:Int.tmod (Int.fdiv (q.toNat:Int) (2 ^ i)) 2=if q.getLsbD i then 1 else 0:=by
       have h2:=bit_eq q.toNat i
       have h3:q.getLsbD i=q.toNat.testBit i:=rfl
       rw [h3,<- h2]
       have e:Int.fdiv (q.toNat:Int) (2 ^ i)=((q.toNat / 2 ^ i:Nat):Int):=by
        rw [Int.fdiv_eq_ediv_of_nonneg _ (by exact_mod_cast Nat.zero_le (2 ^ i))]
        push_cast; rfl
       rw [e,show Int.tmod ((q.toNat / 2 ^ i:Nat):Int) 2=_ from tmod_nat (q.toNat / 2 ^ i) 2]
       rcases Nat.mod_two_eq_zero_or_one (q.toNat / 2 ^ i) with h | h <;> rw [h] <;> rfl
      rw [b_shl,hb,b_add]; rfl
     ·show (32 - ((i+1:Nat):Int)).toNat < (32 - (i:Int)).toNat
      omega
    ·have hge:¬ (i:Int) < 32:=of_decide_eq_false hge
     obtain rfl:i=32:=by omega
     dsimp only
     rw [c_not,revF_all,<- hq,<- hl0,crc_ref]
end Go.Proofs.YtodmachaofepkaaGreatDoor
namespace Go.Proofs.YtodmachaofepkaaGreatDoor
open Go.GV
def kF (b:List UInt8):Nat:=leT (b.take 1)
def sF (b:List UInt8):Nat:=leT ((b.drop 1).take 8)
def zF (b:List UInt8):Nat:=leT ((b.drop 9).take 4)
abbrev whF (b:List UInt8) (n:Nat):Prop:=leT ((b.drop n).take 4)=(crcS (b.take n)).toNat
structure Frm where
 e:Int
 k:Nat
 sq:Nat
 d:List UInt8
 z:Int
def frG (b:List UInt8):Int×Nat×Nat×List UInt8 :=
 if b.length < 17 then (4,0,0,[])
 else if ¬ whF b 13 then (5,0,0,[])
 else if kF b < 1\/kF b > 8\/zF b > 65536 then (3,0,0,[])
 else if b.length < 21+zF b then (4,0,0,[])
 else if ¬ whF b (17+zF b) then (5,0,0,[])
 else (0,kF b,sF b,(b.drop 17).take (zF b))
def frP (b:List UInt8) (at_:Int):Frm :=
 if at_ < 0\/at_ > (b.length:Int) then ⟨2,0,0,[],0⟩
 else if (frG (b.drop at_.toNat)).1=0 then ⟨0,(frG (b.drop at_.toNat)).2.1,(frG (b.drop at_.toNat)).2.2.1,(frG (b.drop at_.toNat)).2.2.2,at_+21+((frG (b.drop at_.toNat)).2.2.2.length:Int)⟩
 else ⟨(frG (b.drop at_.toNat)).1,0,0,[],0⟩
theorem frP_out {b:List UInt8} {at_:Int} (h:at_ < 0\/at_ > (b.length:Int)):frP b at_=⟨2,0,0,[],0⟩:=if_pos h
theorem frP_err {b:List UInt8} {a:Nat} {e:Int} (h:a<=b.length) (he:frG (b.drop a)=(e,0,0,[])) (h0:e ≠ 0):frP b (a:Int)=⟨e,0,0,[],0⟩:=by
 unfold frP
 rw [if_neg (by omega),Int.toNat_natCast,he,if_neg h0]
theorem frP_ok {b:List UInt8} {a k sq:Nat} {d:List UInt8} (h:a<=b.length) (he:frG (b.drop a)=(0,k,sq,d)):frP b (a:Int)=⟨0,k,sq,d,(a:Int)+21+(d.length:Int)⟩:=by
 unfold frP
 rw [if_neg (by omega),Int.toNat_natCast,he,if_pos rfl]
theorem frG_4 {b:List UInt8} (h:b.length < 17):frG b=(4,0,0,[]):=if_pos h
theorem frG_5 {b:List UInt8} (h:¬ b.length < 17) (h1:¬ whF b 13):frG b=(5,0,0,[]):=by rw [frG,if_neg h,if_pos h1]
theorem frG_3 {b:List UInt8} (h:¬ b.length < 17) (h1:whF b 13) (h2:kF b < 1\/kF b > 8\/zF b > 65536):frG b=(3,0,0,[]):=by rw [frG,if_neg h,if_neg (fun h=>h h1),if_pos h2]
theorem frG_4' {b:List UInt8} (h:¬ b.length < 17) (h1:whF b 13) (h2:¬ (kF b < 1\/kF b > 8\/zF b > 65536)) (h3:b.length < 21+zF b):frG b=(4,0,0,[]):=by rw [frG,if_neg h,if_neg (fun h=>h h1),if_neg h2,if_pos h3]
theorem frG_5' {b:List UInt8} (h:¬ b.length < 17) (h1:whF b 13) (h2:¬ (kF b < 1\/kF b > 8\/zF b > 65536)) (h3:¬ b.length < 21+zF b) (h4:¬ whF b (17+zF b)):frG b=(5,0,0,[]):=by rw [frG,if_neg h,if_neg (fun h=>h h1),if_neg h2,if_neg h3,if_pos h4]
theorem frG_0 {b:List UInt8} (h:¬ b.length < 17) (h1:whF b 13) (h2:¬ (kF b < 1\/kF b > 8\/zF b > 65536)) (h3:¬ b.length < 21+zF b) (h4:whF b (17+zF b)):frG b=(0,kF b,sF b,(b.drop 17).take (zF b)):=by rw [frG,if_neg h,if_neg (fun h=>h h1),if_neg h2,if_neg h3,if_neg (fun h=>h h4)]
def hdF (k sq n:Nat):List UInt8:=[UInt8.ofNat (k % 256)] ++ leB sq 8 ++ leB n 4
def bdF (k sq:Nat) (d:List UInt8):List UInt8:=hdF k sq d.length ++ leB (crcS (hdF k sq d.length)).toNat 4 ++ d
def mkF (k sq:Nat) (d:List UInt8):List UInt8:=bdF k sq d ++ leB (crcS (bdF k sq d)).toNat 4
theorem crc_lt (b:List UInt8):(crcS b).toNat < 256 ^ 4:=(crcS b).isLt
theorem leB_of {x:List UInt8} {k:Nat} (h:x.length=k):leB (leT x) k=x:=by rw [<- h]; exact leB_leT x
theorem leB_iff {x:List UInt8} {n:Nat} (h:x.length=4) (hn:n < 256 ^ 4):leB n 4=x ↔ leT x=n:=by
 constructor
 ·intro e; rw [<- e,leT_leB,Nat.mod_eq_of_lt hn]
 ·intro e; rw [<- e]; exact leB_of h
theorem cut2 (b:List UInt8) (i j:Nat):b.take i ++ (b.drop i).take j=b.take (i+j):=by rw [List.take_add]
theorem hdF_eq {b:List UInt8} (h:17<=b.length):hdF (kF b) (sF b) (zF b)=b.take 13:=by
 have h1:[UInt8.ofNat (kF b % 256)]=b.take 1:=leB_of (k:=1) (by rw [List.length_take]; omega)
 unfold hdF
 rw [h1]
 unfold sF zF
 rw [leB_of (k:=8) (by rw [List.length_take,List.length_drop]; omega),leB_of (k:=4) (by rw [List.length_take,List.length_drop]; omega),cut2,cut2]
theorem bdF_eq {b:List UInt8} (h:21+zF b<=b.length) (h1:whF b 13):bdF (kF b) (sF b) ((b.drop 17).take (zF b))=b.take (17+zF b):=by
 unfold bdF
 have hl:((b.drop 17).take (zF b)).length=zF b:=by rw [List.length_take,List.length_drop]; omega
 rw [hl,hdF_eq (by omega),<- h1,leB_of (k:=4) (by rw [List.length_take,List.length_drop]; omega),cut2,cut2]
theorem mkF_iff {b:List UInt8} (h:21+zF b<=b.length) (h1:whF b 13):mkF (kF b) (sF b) ((b.drop 17).take (zF b))=b.take (21+zF b) ↔ whF b (17+zF b):=by
 unfold mkF
 rw [bdF_eq h h1,show 21+zF b=17+zF b+4 by omega,<- cut2 b (17+zF b) 4,List.append_cancel_left_eq]
 exact leB_iff (by rw [List.length_take,List.length_drop]; omega) (crc_lt _)
theorem mkF_len (k sq:Nat) (d:List UInt8):(mkF k sq d).length=21+d.length:=by
 unfold mkF bdF hdF
 simp only [List.length_append,leB_len,List.length_cons,List.length_nil]
 omega
theorem kF_lt (b:List UInt8):kF b < 256:=by
 have:=leT_lt (b.take 1)
 refine Nat.lt_of_lt_of_le this (Nat.pow_le_pow_right (n:=256) (by omega) (show (b.take 1).length<=1 by rw [List.length_take]; omega))
theorem sF_lt (b:List UInt8):sF b < 18446744073709551616:=by
 have:=leT_lt ((b.drop 1).take 8)
 refine Nat.lt_of_lt_of_le this (Nat.pow_le_pow_right (n:=256) (by omega) (show ((b.drop 1).take 8).length<=8 by rw [List.length_take]; omega))
theorem le4_lt (x:List UInt8):leT (x.take 4) < 4294967296:=by
 have:=leT_lt (x.take 4)
 refine Nat.lt_of_lt_of_le this (Nat.pow_le_pow_right (n:=256) (by omega) (show (x.take 4).length<=4 by rw [List.length_take]; omega))
theorem zF_lt (b:List UInt8):zF b < 4294967296:=le4_lt _
end Go.Proofs.YtodmachaofepkaaGreatDoor
namespace Go.Proofs.YtodmachaofepkaaGreatDoor
open Go.GV Go.RowKit
theorem same_calls (A:Option Addr) (n c:Nat) (l:List UInt8) (A':Option Addr) (n' c':Nat) (l':List UInt8) (w:World) (h:Sl w 1 A n (l.map bv)) (h':Sl w 1 A' n' (l'.map bv)) (hn:n < 4611686018427387904) :
  Calls Tryz.prog 62 #[.slice A n c,.slice A' n' c'] w fun e w'=>e=.returned (.bool (l == l'))/\Fr (fun _=>False) w w':=by
 have hl:l.length=n:=by simpa using h.1
 have hl':l'.length=n':=by simpa using h'.1
 refine (F62.of A n c A' n' c' w (Q:=fun v w'=>v=.bool (l == l')/\Fr (fun _=>False) w w') ?_).mono (fun e w' ⟨v,he,hv,h⟩=>⟨by rw [he,hv],h⟩)
 refine vIf_mk (fun h0=>?_) (fun h0=>jnC_mk ?_)
 ·have h0:(n:Int) ≠ n':=by simpa using h0
  refine ⟨?_,Fr.refl _ _⟩
  have:(l == l')=false:=by
   rw [beq_eq_false_iff_ne]
   intro e; subst e; omega
  rw [this]
 ·have h0:n=n':=by
   have:(n:Int)=n':=by simpa using h0
   omega
  refine loop_rule (fun s u=>Fr (fun _=>False) w u/\∃ i:Nat,i<=n/\s=((A,n,c),(A',n',c'),(i:Int),())/\l.take i=l'.take i)
   (fun s _=>(n - s.2.2.1).toNat) ?_ _ _ ⟨Fr.refl _ _,0,by omega,rfl,by simp⟩
  rintro s u C ⟨hf,i,hi,rfl,ht⟩ hC _
  refine vIf_mk (fun hlt=>?_) (fun hge=>?_)
  ·have hlt2:(i:Int) < n:=of_decide_eq_true hlt
   have hf':Fr (fun _=>False) w u.drew:=hf.trans1 (Fr.drew _ _)
   have e1:l[i]?=some (l[i]'(by omega)):=List.getElem?_eq_getElem (by omega)
   have e2:l'[i]?=some (l'[i]'(by omega)):=List.getElem?_eq_getElem (by omega)
   obtain ⟨b,o,hA,hc⟩:=(hf'.sl h (fun _ _ _ h=>h)).get (i:=i) (by omega) (v:=bv (l[i]'(by omega))) (by rw [List.getElem?_map,e1]; rfl)
   obtain ⟨b',o',hA',hc'⟩:=(hf'.sl h' (fun _ _ _ h=>h)).get (i:=i) (by omega) (v:=bv (l'[i]'(by omega))) (by rw [List.getElem?_map,e2]; rfl)
   subst hA; subst hA'
   have hw:IntKind.wrap .i64 ((i:Int)+1)=((i+1:Nat):Int):=by rw [i64_id (by omega) (by omega)]; rfl
   refine dr_mk (gd_mk (decide_eq_true (Int.natCast_nonneg i)) (gd_mk (decide_eq_true hlt2) ⟨_,hc,dr_mk (gd_mk (decide_eq_true (Int.natCast_nonneg i)) (gd_mk (decide_eq_true (show (i:Int) < n' by omega)) ⟨_,hc',vIf_mk (fun hd=>⟨?_,hf'⟩) (fun he=>jnC_mk (hC _ _ ⟨hf',i+1,by omega,?_,?_⟩ ?_))⟩))⟩))
   ·have hd:l[i]'(by omega) ≠ l'[i]'(by omega):=by
     intro e; rw [e] at hd; simp at hd
    have:(l == l')=false:=by
     rw [beq_eq_false_iff_ne]
     intro e; subst e; exact hd rfl
    rw [this]
   ·show ((_,n,c),(_,n',c'),IntKind.wrap .i64 ((i:Int)+1),())=_
    rw [hw]
   ·have he:l[i]'(by omega)=l'[i]'(by omega):=by
     have:((l[i]'(by omega)).toNat:Int)=((l'[i]'(by omega)).toNat:Int):=by simpa using he
     exact UInt8.toNat_inj.1 (by omega)
    rw [List.take_add_one,List.take_add_one,ht,e1,e2,he]
   ·show ((n:Int) - IntKind.wrap .i64 ((i:Int)+1)).toNat < ((n:Int) - i).toNat
    rw [hw]; omega
  ·have hge:¬ ((i:Int) < n):=of_decide_eq_false hge
   refine ⟨?_,hf⟩
   have hin:i=n:=by omega
   subst hin
   rw [List.take_of_length_le (by omega),List.take_of_length_le (by omega)] at ht
   subst ht
   rw [beq_self_eq_true]
end Go.Proofs.YtodmachaofepkaaGreatDoor
namespace Go.Proofs.YtodmachaofepkaaGreatDoor
open Go.GV Go.RowKit Go.Lib
theorem ansN_mk {w:World} {b:Nat} {e:TypeId} {old cs:List Value} {N:Nat} (r:RecAt w b e old) (ho:old.length=N) (hc:cs.length=N) (h1:∀ v ∈ cs,v.oneCell'=true) {K:List Value->World->Prop} (hK:∀ w',Fr (fun k=>k=b) w w'->K cs w') :
  gd (cs.length == N) (st w b 0 cs fun w1=>ldA N w1 b 0 fun a=>K a w1):=by
 refine gd_mk (by rw [hc]; simp) (r.st_mk (o:=0) (by rw [hc,ho]; omega) h1 (fun r1 f1=>?_))
 rw [splice_full (by rw [hc,ho])] at r1
 exact ⟨cs,hc,rec_all r1,hK _ f1⟩
theorem fr_var {w0 w w':World} {b:Nat} (f:Fr (fun _=>False) w0 w) (hb:w0.heap.size<=b) (g:Fr (fun k=>k=b) w w'):Fr (fun _=>False) w0 w':=f.trans g (fun _ _ h=>h) (fun k hk h=>by omega)
theorem tk_eq {b:List UInt8} {a z:Nat} (h:1<=z/\z<=8/\a+z<=b.length):tkN b (a:Int) (z:Int)=leT ((b.drop a).take z):=by
 unfold tkN
 rw [if_pos ⟨by omega,by omega,by omega,by omega⟩,Int.toNat_natCast,Int.toNat_natCast]
theorem sl_zero {w:World} {A:Option Addr} {n c:Nat} {l:List UInt8} (h:Sl w 1 A n (l.map bv)) (hc:n<=c):Sl w 1 (slA A c 0 1) n (l.map bv):=by
 have:=sl_drop h (k:=0) (Nat.zero_le _) hc
 rwa [List.drop_zero,Nat.sub_zero] at this
set_option maxHeartbeats 1000000 in
theorem whole_calls (A:Option Addr) (n c:Nat) (b:List UInt8) (w:World) (h:Sl w 1 A n (b.map bv)) (hc:n<=c) (h4:4<=n) (hn:n<=1099511627776) :
  Calls Tryz.prog 135 #[.slice A n c] w fun e w'=>e=.returned (.bool (decide (whF b (n - 4))))/\Fr (fun _=>False) w w':=by
 have hl:=sl_len h
 refine (F135.of A n c w (Q:=fun v w'=>v=.bool (decide (whF b (n - 4)))/\Fr (fun _=>False) w w') ?_).mono (fun e w' ⟨v,he,hv,h⟩=>⟨by rw [he,hv],h⟩)
 have e1:IntKind.wrap .i64 ((n:Int) - 4)=((n - 4:Nat):Int):=by rw [i64_id (by omega) (by omega)]; omega
 unfold F135.vc
 rw [e1,Int.toNat_natCast]
 refine (take_calls A n c b _ 4 w h hn).mono ?_
 rintro e u ⟨rfl,rfl⟩
 refine ⟨_,_,rfl,gd_mk (decide_eq_true (by omega)) (gd_mk (decide_eq_true (by omega)) ?_)⟩
 refine (crc_calls _ (n - 4) c (b.take (n - 4)) u (sl_take (sl_zero h hc) (by omega)) (by omega)).mono ?_
 rintro e w1 ⟨rfl,f⟩
 refine ⟨_,rfl,?_,f⟩
 rw [show (4:Int)=((4:Nat):Int) from rfl,tk_eq (by omega)]
 have:=le4_lt (b.drop (n - 4))
 rw [u32_id (by omega) (by omega)]
 congr 1
 by_cases hw:whF b (n - 4)
 ·rw [decide_eq_true hw,hw]; simp
 ·rw [decide_eq_false hw,beq_eq_false_iff_ne]
  exact fun e=>hw (by omega)
def stC (k sq z:Nat):List Value:=[.int .i64 (k:Nat),.int .u64 (sq:Nat),.slice none 0 0,.int .i64 0,.int .i64 (z:Nat)]
theorem stC_one (k sq z:Nat):∀ v ∈ stC k sq z,v.oneCell'=true:=by
 intro v hv
 simp only [stC,List.mem_cons,List.not_mem_nil,or_false] at hv
 rcases hv with rfl | rfl | rfl | rfl | rfl <;> rfl
def begP (b:List UInt8):Int :=
 if b.length < 17 then 4 else if ¬ whF b 13 then 5 else if kF b < 1\/kF b > 8\/zF b > 65536 then 3 else 0
set_option maxHeartbeats 2000000 in
theorem begin_calls (A:Option Addr) (n c:Nat) (b:List UInt8) (w:World) (h:Sl w 1 A n (b.map bv)) (hc:n<=c) (hn:n<=1099511627776) :
  Calls Tryz.prog 133 #[.slice A n c] w fun e w'=>e=.returned (.tuple #[ofL (if begP b=0 then stC (kF b) (sF b) (zF b) else stC 0 0 0),.int .i64 (begP b)])/\Fr (fun _=>False) w w':=by
 have hl:=sl_len h
 refine (F133.of A n c w (Q:=fun v w'=>v=.tuple #[ofL (if begP b=0 then stC (kF b) (sF b) (zF b) else stC 0 0 0),.int .i64 (begP b)]/\Fr (fun _=>False) w w') ?_).mono (fun e w' ⟨v,he,hv,h⟩=>⟨by rw [he,hv],h⟩)
 have err:∀ k:Int,begP b=k->k ≠ 0->Value.tuple #[ofL (stC 0 0 0),.int .i64 k]=.tuple #[ofL (if begP b=0 then stC (kF b) (sF b) (zF b) else stC 0 0 0),.int .i64 (begP b)]:=by
  rintro k rfl h0
  rw [if_neg h0]
 refine rec_new (fun b1 w2 f1 hb1 r1=>?_)
 refine vIf_mk (fun hlt=>ansN_mk (cs:=stC 0 0 0) r1 rfl rfl (stC_one _ _ _) (fun w' g=>⟨err 4 ?_ (by decide),fr_var f1 hb1 g⟩)) (fun hlt=>?_)
 ·have hlt:(n:Int) < 17:=of_decide_eq_true hlt
  unfold begP
  rw [if_pos (by omega)]
 ·have hlt:¬ (n:Int) < 17:=of_decide_eq_false hlt
  have h17:¬ b.length < 17:=by omega
  have hs:=f1.sl h (fun _ _ _ h=>h)
  refine (take_calls A n c b 0 1 w2 hs hn).mono ?_
  rintro e u ⟨rfl,rfl⟩
  refine ⟨_,_,rfl,(take_calls A n c b 1 8 u hs hn).mono ?_⟩
  rintro e u ⟨rfl,rfl⟩
  refine ⟨_,_,rfl,(take_calls A n c b 9 4 u hs hn).mono ?_⟩
  rintro e u ⟨rfl,rfl⟩
  refine ⟨_,_,rfl,?_⟩
  have t1:tkN b 0 1=kF b:=by
   have:=tk_eq (b:=b) (a:=0) (z:=1) (by omega)
   rw [List.drop_zero] at this; exact this
  have t2:tkN b 1 8=sF b:=tk_eq (b:=b) (a:=1) (z:=8) (by omega)
  have t3:tkN b 9 4=zF b:=tk_eq (b:=b) (a:=9) (z:=4) (by omega)
  have k1:=kF_lt b
  have k3:=zF_lt b
  rw [t1,t2,t3,i64_id (n:=(kF b:Int)) (by omega) (by omega),i64_id (n:=(zF b:Int)) (by omega) (by omega)]
  refine gd_mk rfl (var_new (cs:=stC (kF b) (sF b) (zF b)) (sz:=5) rfl rfl (stC_one _ _ _) (fun b2 w3 f3 hb3 r3=>gd_mk (decide_eq_true (by omega)) ?_))
  have r1:=r1.fr f3 (fun h=>h)
  have f13:=f1.trans1 f3
  have h13:=f3.sl hs (fun _ _ _ h=>h)
  refine (whole_calls _ 17 c (b.take 17) w3 (sl_take (sl_zero h13 hc) (by omega)) (by omega) (by omega) (by omega)).mono ?_
  rintro e w4 ⟨rfl,f4⟩
  have r1:=r1.fr f4 (fun h=>h)
  have r3:=r3.fr f4 (fun h=>h)
  have f14:=f13.trans1 f4
  have hwh:whF (b.take 17) (17 - 4) ↔ whF b 13:=by
   show leT (((b.take 17).drop 13).take 4)=(crcS ((b.take 17).take 13)).toNat ↔ _
   rw [List.take_take,List.drop_take,List.take_take]
   exact Iff.rfl
  refine ⟨_,rfl,vIf_mk (fun hw=>ansN_mk (cs:=stC 0 0 0) r1 rfl rfl (stC_one _ _ _) (fun w' g=>⟨err 5 ?_ (by decide),fr_var f14 hb1 g⟩)) (fun hw=>?_)⟩
  ·have hw:¬ whF b 13:=fun h=>ndt hw (hwh.2 h)
   unfold begP
   rw [if_neg h17,if_pos hw]
  ·have hw:whF b 13:=hwh.1 (ndf hw)
   have fin:∀ t:Bool,t=decide (kF b < 1\/kF b > 8\/zF b > 65536)->jnC (F133.k10 (fun v w'=>v=.tuple #[ofL (if begP b=0 then stC (kF b) (sF b) (zF b) else stC 0 0 0),.int .i64 (begP b)]/\Fr (fun _=>False) w w')) ((b1,0),(b2,0),t,()) w4:=by
    rintro t rfl
    refine jnC_mk (fun _=>vIf_mk (fun h3=>ansN_mk (cs:=stC 0 0 0) r1 rfl rfl (stC_one _ _ _) (fun w' g=>⟨err 3 ?_ (by decide),fr_var f14 hb1 g⟩)) (fun h3=>jnC_mk (fun _=>⟨stC (kF b) (sF b) (zF b),rfl,rec_all r3,ansN_mk (N:=5) (cs:=stC (kF b) (sF b) (zF b)) r1 rfl rfl (stC_one _ _ _) (fun w' g=>⟨?_,fr_var f14 hb1 g⟩)⟩)))
    ·have h3:=of_decide_eq_true h3
     unfold begP
     rw [if_neg h17,if_neg (fun h=>h hw),if_pos h3]
    ·have h3:=of_decide_eq_false h3
     have:begP b=0:=by unfold begP; rw [if_neg h17,if_neg (fun h=>h hw),if_neg h3]
     rw [this,if_pos rfl]
   refine ⟨_,r3.cell (o:=0) rfl,vIf_mk (fun h3=>fin _ ?_) (fun h3=>⟨_,r3.cell (o:=0) rfl,vIf_mk (fun h4=>fin _ ?_) (fun h4=>⟨_,r3.cell (o:=4) rfl,fin _ ?_⟩)⟩)⟩
   ·have h3:(kF b:Int) < 1:=of_decide_eq_true h3
    exact (decide_eq_true (.inl (by omega))).symm
   ·have h4:(kF b:Int) > 8:=of_decide_eq_true h4
    exact (decide_eq_true (.inr (.inl (by omega)))).symm
   ·have h3:¬ (kF b:Int) < 1:=of_decide_eq_false h3
    have h4:¬ (kF b:Int) > 8:=of_decide_eq_false h4
    exact decide_eq_decide.2 (by omega)
end Go.Proofs.YtodmachaofepkaaGreatDoor
