import Derived.Lib.ItoaNum
import Derived.Lib.Atoi
import Derived.Lib.Repeat
import Derived.Lib.Strings
import Derived.Shelf.Small.Wraps
import Derived.Shelf.Strconv.Atoi
import Derived.Shelf.Strconv.ErrVar
import Derived.Shelf.Strconv.Itoa3
import Derived.Shelf.Strings.Repeat
import Derived.Test.YtkfanhdicnjdlaaGreatDoorProg
import Derived.Test.YtkfanhdicnjdlaaGreatDoorP3
set_option linter.unusedVariables false
set_option linter.unusedSimpArgs false
namespace Go.Proofs.YtkfanhdicnjdlaaGreatDoor
open Go.GV Go.RowKit Go.Lib
set_option maxHeartbeats 4000000 in
theorem file_callsa [Ow] (db r:Nat) (d:Dk) (s:ByteArray) (p0:Nat) (w:World) (g:Ino->Ino×Int) (h:DkAt w db r d) (hb:FoB d.F) (hi:∀ id,InoB (d.f id)) (hp:∀ id,(d.f id).p.length<=1099511627775) (hg:∀ x,InoB x->InoB (g x).1) (hgp:∀ id,(g (d.f id)).1.p.length<=1099511627775)
  (hcall:∀ (w2:World) (cs:List Value) (id:Int),Fr (fun _=>False) w w2->InoAt w2 cs (d.f id)->Calls Tryz.prog 112 #[ofL cs,.pointer (some ⟨p0,0,none⟩)] w2 fun e w'=>Fr (fun _=>False) w2 w'/\∃ cs',e=.returned (.tuple #[ofL cs',.int .i64 (g (d.f id)).2])/\InoAt w' cs' (g (d.f id)).1) :
  Calls Tryz.prog 111 #[.pointer (some ⟨db,0,none⟩),.string s,.func (.func 112) #[] #[.pointer (some ⟨p0,0,none⟩)]] w fun e w'=>Fr (DS db r) w w'/\e=.returned (.int .i64 (fileD d s g).2)/\DkAt w' db r (fileD d s g).1:=by
 refine (F111a.of (some ⟨db,0,none⟩) s (p0,0) w (Q:=fun v w'=>Fr (DS db r) w w'/\v=.int .i64 (fileD d s g).2/\DkAt w' db r (fileD d s g).1) ?_).mono (fun e w' ⟨v,he,hf,hv,h⟩=>⟨hf,by rw [he,hv],h⟩)
 have hlt:=h.lt
 have hne:=h.ne
 refine dr_mk (dk_getF h (fun cs hF=>(find_calls cs d.F s w hF hb).mono ?_))
 rintro e w4 ⟨rfl,f4⟩
 refine ⟨_,_,rfl,?_⟩
 cases hfn:findN s (nowF d.F) with
 | none =>
  have eD:fileD d s g=(d,6):=by unfold fileD; rw [hfn]
  refine vIf_t rfl ⟨fr_up f4,by rw [eD],by rw [eD]; exact h.fr0 f4⟩
 | some id =>
  refine vIf_f rfl ?_
  show dr (some ⟨db,0,none⟩) _
  have h4:=h.fr0 f4
  have h40:=h4
  obtain ⟨u,v,fz,lv,q1,q2,q3,q4⟩:=h40
  refine dr_mk (dk_getM h4 (files_get q3 (fun a12 hI=>?_)))
  have ho:=ino_one hI
  refine var_new rfl ho.1 ho.2 (fun b14 w16 f16 hb14 r14=>⟨a12,ho.1,rec_all r14,?_⟩)
  have f416:=f4.trans1 f16
  refine (hcall w16 a12 id f416 (hI.fr0 f16)).mono ?_
  rintro e w18 ⟨f18,a20,rfl,hX⟩
  have hoX:=ino_one hX
  refine ⟨a20,_,rfl,var_new rfl hoX.1 hoX.2 (fun b22 w24 f24 hb22 r22=>?_)⟩
  have hs4:=f4.size
  have hs16:=f16.size
  have hs18:=f18.size
  have r14:=(r14.fr f18 (fun h=>h)).fr f24 (fun h=>h)
  have f024:=(f416.trans1 f18).trans1 f24
  have h24:=h.fr0 f024
  have hI24:=((hI.fr0 f16).fr0 f18).fr0 f24
  have hX24:=hX.fr0 f24
  have hlt14:=r14.lt
  refine vIf_mk (fun he=>?_) (fun he=>?_)
  ·have he:¬ (g (d.f id)).2=0:=by simpa using he
   have eD:fileD d s g=(d,(g (d.f id)).2):=by unfold fileD; rw [hfn]; dsimp only; rw [if_pos he]
   exact ⟨fr_up f024,by rw [eD],by rw [eD]; exact h24⟩
  ·have he:(g (d.f id)).2=0:=by simpa using he
   have fd:Fr (fun _=>False) w24 w24.drew:=Fr.drew _ _
   have f0d:=f024.trans1 fd
   have hd:=h24.fr0 fd
   have hsd:=fd.size
   have r14:=r14.fr fd (fun h=>h)
   have r22:=r22.fr fd (fun h=>h)
   have hId:=hI24.fr0 fd
   have hXd:=hX24.fr0 fd
   generalize w24.drew=w25 at fd f0d hd hsd r14 r22 hId hXd ⊢
   have hd0:=hd
   obtain ⟨u',v',fz',lv',p1,p2,p3,p4⟩:=hd0
   refine dr_mk (dk_getM hd ⟨a20,hoX.1,rec_all r22,files_put p3 hXd (fun w29 hF29 f29=>?_)⟩)
   have har:∀ k,k=r->Alien w25 k:=fun k hk=>by rw [hk]; exact p3.alien
   have p1:=p1.fr f29 (fun h=>hne h)
   have p2:=fo_fr p2 f29 har
   have r14:=r14.fr f29 (fun h=>by have h:b14=r:=h; omega)
   have r22:=r22.fr f29 (fun h=>by have h:b22=r:=h; omega)
   have hIr:=hId.fr f29 har
   have hXr:=hXd.fr f29 har
   have f029:Fr (DS db r) w w29:=f0d.trans f29 (fun _ _ h=>h.elim) (fun k hk h=>.inr h)
   have f2d:Fr (fun _=>False) w29 w29.drew:=Fr.drew _ _
   have hDk:DkAt w29 db r { d with f:=updF d.f id (g (d.f id)).1 }:=⟨u',v',fz',lv',p1,p2,hF29,p4⟩
   have hDk:=hDk.fr0 f2d
   have r14:=r14.fr f2d (fun h=>h)
   have r22:=r22.fr f2d (fun h=>h)
   have hIr:=hIr.fr0 f2d
   have hXr:=hXr.fr0 f2d
   have f029:=f029.trans f2d (fun _ _ h=>h) (fun _ _ h=>h.elim)
   generalize w29.drew=w30 at f2d hDk r14 r22 hIr hXr f029 ⊢
   refine ⟨a20,hoX.1,rec_all r22,a12,ho.1,rec_all r14,(room_calls a20 _ w30 hXr (hg _ (hi id)) (hgp id)).mono ?_⟩
   rintro e w33 ⟨rfl,f33⟩
   refine ⟨_,rfl,kp_mk f33 r14.lt (fun h=>h) ((room_calls a12 _ w33 (hIr.fr0 f33) (hi id) (hp id)).mono ?_)⟩
   rintro e w36 ⟨rfl,f36⟩
   have f3336:=f33.trans1 f36
   have h36:=hDk.fr0 f3336
   have r14:=r14.fr f3336 (fun h=>h)
   have hI36:=hIr.fr0 f3336
   have f036:Fr (DS db r) w w36:=f029.trans f3336 (fun _ _ h=>h) (fun _ _ h=>h.elim)
   have k10:∀ (t:Bool) (y:World),Fr (fun _=>False) w36 y->(t=true ↔ (roomI (g (d.f id)).1 > roomI (d.f id)/\takenF d.F (updF d.f id (g (d.f id)).1) > d.lb))->jnC (F111a.k10 (fun v w'=>Fr (DS db r) w w'/\v=.int .i64 (fileD d s g).2/\DkAt w' db r (fileD d s g).1)) (some ⟨db,0,none⟩,id,(b14,0),t,()) y:=by
    intro t y fy ht
    have hy:=h36.fr0 fy
    have f0y:Fr (DS db r) w y:=f036.trans fy (fun _ _ h=>h) (fun _ _ h=>h.elim)
    refine jnC_mk (fun _=>vIf_mk (fun htt=>?_) (fun htf=>?_))
    ·have hc:=ht.1 htt
     have eD:fileD d s g=(d,9):=by unfold fileD; rw [hfn]; dsimp only; rw [if_neg (by rw [he]; simp),if_pos hc]
     have fdy:Fr (fun _=>False) y y.drew:=Fr.drew _ _
     have hyd:=hy.fr0 fdy
     have hyd0:=hyd
     obtain ⟨u2,v2,fz2,lv2,m1,m2,m3,m4⟩:=hyd0
     have hIy:=(hI36.fr0 fy).fr0 fdy
     refine dr_mk (dk_getM hyd ⟨a12,ho.1,rec_all ((r14.fr fy (fun h=>h)).fr fdy (fun h=>h)),files_put m3 hIy (fun w49 hF49 f49=>⟨?_,by rw [eD],?_⟩)⟩)
     ·exact (f0y.trans fdy (fun _ _ h=>h) (fun _ _ h=>h.elim)).trans f49 (fun _ _ h=>h) (fun k hk h=>.inr h)
     ·rw [eD]
      have ha2:∀ k,k=r->Alien y.drew k:=fun k hk=>by rw [hk]; exact m3.alien
      have e3:updF (updF d.f id (g (d.f id)).1) id (d.f id)=d.f:=by
       funext j
       unfold updF
       by_cases hj:j=id
       ·rw [if_pos hj,hj]
       ·rw [if_neg hj,if_neg hj]
      have hF49:FilesAt w49 r (updF (updF d.f id (g (d.f id)).1) id (d.f id)):=hF49
      rw [e3] at hF49
      exact ⟨u2,v2,fz2,lv2,m1.fr f49 (fun h=>hne h),fo_fr m2 f49 ha2,hF49,m4⟩
    ·have htf:t=false:=htf
     have hc:¬ (roomI (g (d.f id)).1 > roomI (d.f id)/\takenF d.F (updF d.f id (g (d.f id)).1) > d.lb):=fun hc=>by have:=ht.2 hc; rw [htf] at this; cases this
     have eD:fileD d s g=({ d with f:=updF d.f id (g (d.f id)).1 },0):=by unfold fileD; rw [hfn]; dsimp only; rw [if_neg (by rw [he]; simp),if_neg hc]
     exact ⟨f0y,by rw [eD],by rw [eD]; exact hy⟩
   refine ⟨_,rfl,vIf_mk (fun hgt=>?_) (fun hgt=>k10 false w36 (Fr.refl _ _) ⟨(fun h=>by cases h),fun h=>absurd h.1 (of_decide_eq_false hgt)⟩)⟩
   have hgt:=of_decide_eq_true hgt
   have hi2:∀ k,InoB (updF d.f id (g (d.f id)).1 k):=updF_B hi (hg _ (hi id))
   have hp2:∀ k,(updF d.f id (g (d.f id)).1 k).p.length<=1099511627775:=fun k=>by
    unfold updF
    split
    ·exact hgp id
    ·exact hp k
   refine dr_mk (dk_getI (o:=0) h36 (.inl ⟨rfl,rfl⟩) ((taken_calls db r _ w36 h36 hb hi2 hp2).mono ?_))
   rintro e w42 ⟨rfl,f42⟩
   refine ⟨_,rfl,kp_mk f42 h36.lt.1 (fun h=>h) (k10 _ w42 f42 ?_)⟩
   show decide (takenF d.F (updF d.f id (g (d.f id)).1) > d.lb)=true ↔ _
   rw [decide_eq_true_iff]
   exact ⟨fun h=>⟨hgt,h⟩,fun h=>h.2⟩
set_option maxHeartbeats 4000000 in
theorem file_callsc [Ow] (db r:Nat) (d:Dk) (s:ByteArray) (w:World) (g:Ino->Ino×Int) (h:DkAt w db r d) (hb:FoB d.F) (hi:∀ id,InoB (d.f id)) (hp:∀ id,(d.f id).p.length<=1099511627775) (hg:∀ x,InoB x->InoB (g x).1) (hgp:∀ id,(g (d.f id)).1.p.length<=1099511627775)
  (hcall:∀ (w2:World) (cs:List Value) (id:Int),Fr (fun _=>False) w w2->InoAt w2 cs (d.f id)->Calls Tryz.prog 115 #[ofL cs] w2 fun e w'=>Fr (fun _=>False) w2 w'/\∃ cs',e=.returned (.tuple #[ofL cs',.int .i64 (g (d.f id)).2])/\InoAt w' cs' (g (d.f id)).1) :
  Calls Tryz.prog 111 #[.pointer (some ⟨db,0,none⟩),.string s,.func (.func 115) #[] #[]] w fun e w'=>Fr (DS db r) w w'/\e=.returned (.int .i64 (fileD d s g).2)/\DkAt w' db r (fileD d s g).1:=by
 refine (F111c.of (some ⟨db,0,none⟩) s  w (Q:=fun v w'=>Fr (DS db r) w w'/\v=.int .i64 (fileD d s g).2/\DkAt w' db r (fileD d s g).1) ?_).mono (fun e w' ⟨v,he,hf,hv,h⟩=>⟨hf,by rw [he,hv],h⟩)
 have hlt:=h.lt
 have hne:=h.ne
 refine dr_mk (dk_getF h (fun cs hF=>(find_calls cs d.F s w hF hb).mono ?_))
 rintro e w4 ⟨rfl,f4⟩
 refine ⟨_,_,rfl,?_⟩
 cases hfn:findN s (nowF d.F) with
 | none =>
  have eD:fileD d s g=(d,6):=by unfold fileD; rw [hfn]
  refine vIf_t rfl ⟨fr_up f4,by rw [eD],by rw [eD]; exact h.fr0 f4⟩
 | some id =>
  refine vIf_f rfl ?_
  show dr (some ⟨db,0,none⟩) _
  have h4:=h.fr0 f4
  have h40:=h4
  obtain ⟨u,v,fz,lv,q1,q2,q3,q4⟩:=h40
  refine dr_mk (dk_getM h4 (files_get q3 (fun a12 hI=>?_)))
  have ho:=ino_one hI
  refine var_new rfl ho.1 ho.2 (fun b14 w16 f16 hb14 r14=>⟨a12,ho.1,rec_all r14,?_⟩)
  have f416:=f4.trans1 f16
  refine (hcall w16 a12 id f416 (hI.fr0 f16)).mono ?_
  rintro e w18 ⟨f18,a20,rfl,hX⟩
  have hoX:=ino_one hX
  refine ⟨a20,_,rfl,var_new rfl hoX.1 hoX.2 (fun b22 w24 f24 hb22 r22=>?_)⟩
  have hs4:=f4.size
  have hs16:=f16.size
  have hs18:=f18.size
  have r14:=(r14.fr f18 (fun h=>h)).fr f24 (fun h=>h)
  have f024:=(f416.trans1 f18).trans1 f24
  have h24:=h.fr0 f024
  have hI24:=((hI.fr0 f16).fr0 f18).fr0 f24
  have hX24:=hX.fr0 f24
  have hlt14:=r14.lt
  refine vIf_mk (fun he=>?_) (fun he=>?_)
  ·have he:¬ (g (d.f id)).2=0:=by simpa using he
   have eD:fileD d s g=(d,(g (d.f id)).2):=by unfold fileD; rw [hfn]; dsimp only; rw [if_pos he]
   exact ⟨fr_up f024,by rw [eD],by rw [eD]; exact h24⟩
  ·have he:(g (d.f id)).2=0:=by simpa using he
   have fd:Fr (fun _=>False) w24 w24.drew:=Fr.drew _ _
   have f0d:=f024.trans1 fd
   have hd:=h24.fr0 fd
   have hsd:=fd.size
   have r14:=r14.fr fd (fun h=>h)
   have r22:=r22.fr fd (fun h=>h)
   have hId:=hI24.fr0 fd
   have hXd:=hX24.fr0 fd
   generalize w24.drew=w25 at fd f0d hd hsd r14 r22 hId hXd ⊢
   have hd0:=hd
   obtain ⟨u',v',fz',lv',p1,p2,p3,p4⟩:=hd0
   refine dr_mk (dk_getM hd ⟨a20,hoX.1,rec_all r22,files_put p3 hXd (fun w29 hF29 f29=>?_)⟩)
   have har:∀ k,k=r->Alien w25 k:=fun k hk=>by rw [hk]; exact p3.alien
   have p1:=p1.fr f29 (fun h=>hne h)
   have p2:=fo_fr p2 f29 har
   have r14:=r14.fr f29 (fun h=>by have h:b14=r:=h; omega)
   have r22:=r22.fr f29 (fun h=>by have h:b22=r:=h; omega)
   have hIr:=hId.fr f29 har
   have hXr:=hXd.fr f29 har
   have f029:Fr (DS db r) w w29:=f0d.trans f29 (fun _ _ h=>h.elim) (fun k hk h=>.inr h)
   have f2d:Fr (fun _=>False) w29 w29.drew:=Fr.drew _ _
   have hDk:DkAt w29 db r { d with f:=updF d.f id (g (d.f id)).1 }:=⟨u',v',fz',lv',p1,p2,hF29,p4⟩
   have hDk:=hDk.fr0 f2d
   have r14:=r14.fr f2d (fun h=>h)
   have r22:=r22.fr f2d (fun h=>h)
   have hIr:=hIr.fr0 f2d
   have hXr:=hXr.fr0 f2d
   have f029:=f029.trans f2d (fun _ _ h=>h) (fun _ _ h=>h.elim)
   generalize w29.drew=w30 at f2d hDk r14 r22 hIr hXr f029 ⊢
   refine ⟨a20,hoX.1,rec_all r22,a12,ho.1,rec_all r14,(room_calls a20 _ w30 hXr (hg _ (hi id)) (hgp id)).mono ?_⟩
   rintro e w33 ⟨rfl,f33⟩
   refine ⟨_,rfl,kp_mk f33 r14.lt (fun h=>h) ((room_calls a12 _ w33 (hIr.fr0 f33) (hi id) (hp id)).mono ?_)⟩
   rintro e w36 ⟨rfl,f36⟩
   have f3336:=f33.trans1 f36
   have h36:=hDk.fr0 f3336
   have r14:=r14.fr f3336 (fun h=>h)
   have hI36:=hIr.fr0 f3336
   have f036:Fr (DS db r) w w36:=f029.trans f3336 (fun _ _ h=>h) (fun _ _ h=>h.elim)
   have k10:∀ (t:Bool) (y:World),Fr (fun _=>False) w36 y->(t=true ↔ (roomI (g (d.f id)).1 > roomI (d.f id)/\takenF d.F (updF d.f id (g (d.f id)).1) > d.lb))->jnC (F111c.k10 (fun v w'=>Fr (DS db r) w w'/\v=.int .i64 (fileD d s g).2/\DkAt w' db r (fileD d s g).1)) (some ⟨db,0,none⟩,id,(b14,0),t,()) y:=by
    intro t y fy ht
    have hy:=h36.fr0 fy
    have f0y:Fr (DS db r) w y:=f036.trans fy (fun _ _ h=>h) (fun _ _ h=>h.elim)
    refine jnC_mk (fun _=>vIf_mk (fun htt=>?_) (fun htf=>?_))
    ·have hc:=ht.1 htt
     have eD:fileD d s g=(d,9):=by unfold fileD; rw [hfn]; dsimp only; rw [if_neg (by rw [he]; simp),if_pos hc]
     have fdy:Fr (fun _=>False) y y.drew:=Fr.drew _ _
     have hyd:=hy.fr0 fdy
     have hyd0:=hyd
     obtain ⟨u2,v2,fz2,lv2,m1,m2,m3,m4⟩:=hyd0
     have hIy:=(hI36.fr0 fy).fr0 fdy
     refine dr_mk (dk_getM hyd ⟨a12,ho.1,rec_all ((r14.fr fy (fun h=>h)).fr fdy (fun h=>h)),files_put m3 hIy (fun w49 hF49 f49=>⟨?_,by rw [eD],?_⟩)⟩)
     ·exact (f0y.trans fdy (fun _ _ h=>h) (fun _ _ h=>h.elim)).trans f49 (fun _ _ h=>h) (fun k hk h=>.inr h)
     ·rw [eD]
      have ha2:∀ k,k=r->Alien y.drew k:=fun k hk=>by rw [hk]; exact m3.alien
      have e3:updF (updF d.f id (g (d.f id)).1) id (d.f id)=d.f:=by
       funext j
       unfold updF
       by_cases hj:j=id
       ·rw [if_pos hj,hj]
       ·rw [if_neg hj,if_neg hj]
      have hF49:FilesAt w49 r (updF (updF d.f id (g (d.f id)).1) id (d.f id)):=hF49
      rw [e3] at hF49
      exact ⟨u2,v2,fz2,lv2,m1.fr f49 (fun h=>hne h),fo_fr m2 f49 ha2,hF49,m4⟩
    ·have htf:t=false:=htf
     have hc:¬ (roomI (g (d.f id)).1 > roomI (d.f id)/\takenF d.F (updF d.f id (g (d.f id)).1) > d.lb):=fun hc=>by have:=ht.2 hc; rw [htf] at this; cases this
     have eD:fileD d s g=({ d with f:=updF d.f id (g (d.f id)).1 },0):=by unfold fileD; rw [hfn]; dsimp only; rw [if_neg (by rw [he]; simp),if_neg hc]
     exact ⟨f0y,by rw [eD],by rw [eD]; exact hy⟩
   refine ⟨_,rfl,vIf_mk (fun hgt=>?_) (fun hgt=>k10 false w36 (Fr.refl _ _) ⟨(fun h=>by cases h),fun h=>absurd h.1 (of_decide_eq_false hgt)⟩)⟩
   have hgt:=of_decide_eq_true hgt
   have hi2:∀ k,InoB (updF d.f id (g (d.f id)).1 k):=updF_B hi (hg _ (hi id))
   have hp2:∀ k,(updF d.f id (g (d.f id)).1 k).p.length<=1099511627775:=fun k=>by
    unfold updF
    split
    ·exact hgp id
    ·exact hp k
   refine dr_mk (dk_getI (o:=0) h36 (.inl ⟨rfl,rfl⟩) ((taken_calls db r _ w36 h36 hb hi2 hp2).mono ?_))
   rintro e w42 ⟨rfl,f42⟩
   refine ⟨_,rfl,kp_mk f42 h36.lt.1 (fun h=>h) (k10 _ w42 f42 ?_)⟩
   show decide (takenF d.F (updF d.f id (g (d.f id)).1) > d.lb)=true ↔ _
   rw [decide_eq_true_iff]
   exact ⟨fun h=>⟨hgt,h⟩,fun h=>h.2⟩
set_option maxHeartbeats 1000000 in
theorem power_callsa [Ow] (db r:Nat) (d:Dk) (p0:Nat) (p1:Nat) (w:World) (N:Nat) (call:Dk->Dk×Int) (h:DkAt w db r d) (hB:DkB d N) (hN:N<=349525)
  (hcall:∀ w2:World,Fr (fun k=>k=db) w w2->offD d=false->DkAt w2 db r { d with fu:=d.fu.map (· - 1),calls:=d.calls+1 }->Calls Tryz.prog 107 #[.pointer (some ⟨p0,0,none⟩),.pointer (some ⟨p1,0,none⟩)] w2 fun e w'=>Fr (DS db r) w2 w'/\e=.returned (.int .i64 (call { d with fu:=d.fu.map (· - 1),calls:=d.calls+1 }).2)/\DkAt w' db r (call { d with fu:=d.fu.map (· - 1),calls:=d.calls+1 }).1) :
  Calls Tryz.prog 106 #[.pointer (some ⟨db,0,none⟩),.func (.func 107) #[] #[.pointer (some ⟨p0,0,none⟩),.pointer (some ⟨p1,0,none⟩)]] w fun e w'=>Fr (DS db r) w w'/\e=.returned (.int .i64 (powD d call).2)/\DkAt w' db r (powD d call).1:=by
 refine (F106a.of (some ⟨db,0,none⟩) ((p0,0),(p1,0),()) w (Q:=fun v w'=>Fr (DS db r) w w'/\v=.int .i64 (powD d call).2/\DkAt w' db r (powD d call).1) ?_).mono (fun e w' ⟨v,he,hf,hv,h⟩=>⟨hf,by rw [he,hv],h⟩)
 have hne:=h.ne
 obtain ⟨u,v,fz,lv,h1,h2,h3,h4⟩:=h
 have hc1:=hB.calls
 have k4:∀ t:Bool,t=offD d->jnC (F106a.k4 (fun v w'=>Fr (DS db r) w w'/\v=.int .i64 (powD d call).2/\DkAt w' db r (powD d call).1)) (some ⟨db,0,none⟩,((p0,0),(p1,0),()),t,()) w:=by
  intro t ht
  refine jnC_mk (fun _=>vIf_mk (fun htt=>dr_mk (dk_set (d':={ d with down:=true }) (fz':=fz) (lv':=lv) h1 h2 h3 rfl (by show 0+6+1<=10; omega) (fun x hx=>by simp at hx; subst hx; rfl) rfl rfl hne (fun w6 f6 g1 g2 g3=>?_))) (fun htf=>jnC_mk (fun _=>?_)))
  ·have ho:offD d=true:=by rw [<- ht]; exact htt
   have eP:powD d call=({ d with down:=true },11):=by unfold powD; rw [if_pos ho]
   rw [eP]
   exact ⟨f6.mono (fun _ _ h=>.inl h),rfl,u,v,fz,lv,g1,g2,g3,h4⟩
  ·have ho:offD d=false:=by rw [<- ht]; exact htf
   have eP:powD d call=call { d with fu:=d.fu.map (· - 1),calls:=d.calls+1 }:=by unfold powD; rw [if_neg (by rw [ho]; simp)]
   refine dr_mk ⟨lv,h1.cell (o:=0+8) rfl,dr_mk (dk_set (d':=d) (fz':=fz) (lv':=IntKind.wrap .i64 (lv - 1)) h1 h2 h3 rfl (by show 0+8+1<=10; omega) (fun x hx=>by simp at hx; subst hx; rfl) rfl rfl hne (fun w12 f12 g1 g2 g3=>?_))⟩
   have ec:IntKind.wrap .i64 (d.calls+1)=d.calls+1:=i64_id (by omega) (by omega)
   refine dr_mk ⟨d.calls,g1.cell (o:=0+9) rfl,dr_mk (dk_set (d':={ d with fu:=d.fu.map (· - 1),calls:=d.calls+1 }) (fz':=fz) (lv':=IntKind.wrap .i64 (lv - 1)) g1 g2 g3 (by rw [ec]; rfl) (by show 0+9+1<=10; omega) (fun x hx=>by simp at hx; subst hx; rfl) rfl rfl hne (fun w18 f18 m1 m2 m3=>?_))⟩
   have hfu:fuR (d.fu.map (· - 1)) fz (IntKind.wrap .i64 (lv - 1)):=by
    unfold fuR at h4 ⊢
    cases hd:d.fu with
    | none=>rw [hd] at h4; exact h4
    | some n =>
     rw [hd] at h4
     have hh:=hB.fu n hd
     have hn1:¬ n<=0:=fun hle=>by
      unfold offD at ho
      rw [hd] at ho
      simp at ho
      omega
     have h4:fz=true/\lv=n:=h4
     refine ⟨h4.1,?_⟩
     rw [h4.2]
     exact i64_id (by omega) (by omega)
   have f018:Fr (fun k=>k=db) w w18:=f12.trans1 f18
   refine (hcall w18 f018 ho ⟨u,v,fz,_,m1,m2,m3,hfu⟩).mono ?_
   rintro e w19 ⟨f19,rfl,h19⟩
   refine ⟨_,rfl,?_⟩
   rw [eP]
   exact ⟨f018.trans f19 (fun k _ h=>.inl h) (fun _ _ h=>h),rfl,h19⟩
 refine vIf_f rfl (dr_mk ⟨d.down,h1.cell (o:=0+6) rfl,vIf_mk (fun hd=>k4 true ?_) (fun hd=>dr_mk ⟨fz,h1.cell (o:=0+7) rfl,vIf_mk (fun hz=>dr_mk ⟨lv,h1.cell (o:=0+8) rfl,k4 _ ?_⟩) (fun hz=>k4 false ?_)⟩)⟩)
 ·have hd:d.down=true:=hd
  unfold offD
  rw [hd]; rfl
 ·have hd:d.down=false:=hd
  have hz:fz=true:=hz
  unfold offD
  rw [hd,Bool.false_or]
  unfold fuR at h4
  cases hf:d.fu with
  | none=>rw [hf] at h4; rw [hz] at h4; cases h4
  | some n =>
   rw [hf] at h4
   have h4:fz=true/\lv=n:=h4
   rw [h4.2]
 ·have hd:d.down=false:=hd
  have hz:fz=false:=hz
  unfold offD
  rw [hd,Bool.false_or]
  unfold fuR at h4
  cases hf:d.fu with
  | none=>rfl
  | some n =>
   rw [hf] at h4
   have h4:fz=true/\lv=n:=h4
   rw [hz] at h4; cases h4.1
set_option maxHeartbeats 1000000 in
theorem power_callsb [Ow] (db r:Nat) (d:Dk) (p0:Nat) (p1:Nat) (p2:Nat) (w:World) (N:Nat) (call:Dk->Dk×Int) (h:DkAt w db r d) (hB:DkB d N) (hN:N<=349525)
  (hcall:∀ w2:World,Fr (fun k=>k=db) w w2->offD d=false->DkAt w2 db r { d with fu:=d.fu.map (· - 1),calls:=d.calls+1 }->Calls Tryz.prog 110 #[.pointer (some ⟨p0,0,none⟩),.pointer (some ⟨p1,0,none⟩),.pointer (some ⟨p2,0,none⟩)] w2 fun e w'=>Fr (DS db r) w2 w'/\e=.returned (.int .i64 (call { d with fu:=d.fu.map (· - 1),calls:=d.calls+1 }).2)/\DkAt w' db r (call { d with fu:=d.fu.map (· - 1),calls:=d.calls+1 }).1) :
  Calls Tryz.prog 106 #[.pointer (some ⟨db,0,none⟩),.func (.func 110) #[] #[.pointer (some ⟨p0,0,none⟩),.pointer (some ⟨p1,0,none⟩),.pointer (some ⟨p2,0,none⟩)]] w fun e w'=>Fr (DS db r) w w'/\e=.returned (.int .i64 (powD d call).2)/\DkAt w' db r (powD d call).1:=by
 refine (F106b.of (some ⟨db,0,none⟩) ((p0,0),(p1,0),(p2,0),()) w (Q:=fun v w'=>Fr (DS db r) w w'/\v=.int .i64 (powD d call).2/\DkAt w' db r (powD d call).1) ?_).mono (fun e w' ⟨v,he,hf,hv,h⟩=>⟨hf,by rw [he,hv],h⟩)
 have hne:=h.ne
 obtain ⟨u,v,fz,lv,h1,h2,h3,h4⟩:=h
 have hc1:=hB.calls
 have k4:∀ t:Bool,t=offD d->jnC (F106b.k4 (fun v w'=>Fr (DS db r) w w'/\v=.int .i64 (powD d call).2/\DkAt w' db r (powD d call).1)) (some ⟨db,0,none⟩,((p0,0),(p1,0),(p2,0),()),t,()) w:=by
  intro t ht
  refine jnC_mk (fun _=>vIf_mk (fun htt=>dr_mk (dk_set (d':={ d with down:=true }) (fz':=fz) (lv':=lv) h1 h2 h3 rfl (by show 0+6+1<=10; omega) (fun x hx=>by simp at hx; subst hx; rfl) rfl rfl hne (fun w6 f6 g1 g2 g3=>?_))) (fun htf=>jnC_mk (fun _=>?_)))
  ·have ho:offD d=true:=by rw [<- ht]; exact htt
   have eP:powD d call=({ d with down:=true },11):=by unfold powD; rw [if_pos ho]
   rw [eP]
   exact ⟨f6.mono (fun _ _ h=>.inl h),rfl,u,v,fz,lv,g1,g2,g3,h4⟩
  ·have ho:offD d=false:=by rw [<- ht]; exact htf
   have eP:powD d call=call { d with fu:=d.fu.map (· - 1),calls:=d.calls+1 }:=by unfold powD; rw [if_neg (by rw [ho]; simp)]
   refine dr_mk ⟨lv,h1.cell (o:=0+8) rfl,dr_mk (dk_set (d':=d) (fz':=fz) (lv':=IntKind.wrap .i64 (lv - 1)) h1 h2 h3 rfl (by show 0+8+1<=10; omega) (fun x hx=>by simp at hx; subst hx; rfl) rfl rfl hne (fun w12 f12 g1 g2 g3=>?_))⟩
   have ec:IntKind.wrap .i64 (d.calls+1)=d.calls+1:=i64_id (by omega) (by omega)
   refine dr_mk ⟨d.calls,g1.cell (o:=0+9) rfl,dr_mk (dk_set (d':={ d with fu:=d.fu.map (· - 1),calls:=d.calls+1 }) (fz':=fz) (lv':=IntKind.wrap .i64 (lv - 1)) g1 g2 g3 (by rw [ec]; rfl) (by show 0+9+1<=10; omega) (fun x hx=>by simp at hx; subst hx; rfl) rfl rfl hne (fun w18 f18 m1 m2 m3=>?_))⟩
   have hfu:fuR (d.fu.map (· - 1)) fz (IntKind.wrap .i64 (lv - 1)):=by
    unfold fuR at h4 ⊢
    cases hd:d.fu with
    | none=>rw [hd] at h4; exact h4
    | some n =>
     rw [hd] at h4
     have hh:=hB.fu n hd
     have hn1:¬ n<=0:=fun hle=>by
      unfold offD at ho
      rw [hd] at ho
      simp at ho
      omega
     have h4:fz=true/\lv=n:=h4
     refine ⟨h4.1,?_⟩
     rw [h4.2]
     exact i64_id (by omega) (by omega)
   have f018:Fr (fun k=>k=db) w w18:=f12.trans1 f18
   refine (hcall w18 f018 ho ⟨u,v,fz,_,m1,m2,m3,hfu⟩).mono ?_
   rintro e w19 ⟨f19,rfl,h19⟩
   refine ⟨_,rfl,?_⟩
   rw [eP]
   exact ⟨f018.trans f19 (fun k _ h=>.inl h) (fun _ _ h=>h),rfl,h19⟩
 refine vIf_f rfl (dr_mk ⟨d.down,h1.cell (o:=0+6) rfl,vIf_mk (fun hd=>k4 true ?_) (fun hd=>dr_mk ⟨fz,h1.cell (o:=0+7) rfl,vIf_mk (fun hz=>dr_mk ⟨lv,h1.cell (o:=0+8) rfl,k4 _ ?_⟩) (fun hz=>k4 false ?_)⟩)⟩)
 ·have hd:d.down=true:=hd
  unfold offD
  rw [hd]; rfl
 ·have hd:d.down=false:=hd
  have hz:fz=true:=hz
  unfold offD
  rw [hd,Bool.false_or]
  unfold fuR at h4
  cases hf:d.fu with
  | none=>rw [hf] at h4; rw [hz] at h4; cases h4
  | some n =>
   rw [hf] at h4
   have h4:fz=true/\lv=n:=h4
   rw [h4.2]
 ·have hd:d.down=false:=hd
  have hz:fz=false:=hz
  unfold offD
  rw [hd,Bool.false_or]
  unfold fuR at h4
  cases hf:d.fu with
  | none=>rfl
  | some n =>
   rw [hf] at h4
   have h4:fz=true/\lv=n:=h4
   rw [hz] at h4; cases h4.1
set_option maxHeartbeats 1000000 in
theorem power_callsd [Ow] (db r:Nat) (d:Dk) (p0:Nat) (p1:Nat) (w:World) (N:Nat) (call:Dk->Dk×Int) (h:DkAt w db r d) (hB:DkB d N) (hN:N<=349525)
  (hcall:∀ w2:World,Fr (fun k=>k=db) w w2->offD d=false->DkAt w2 db r { d with fu:=d.fu.map (· - 1),calls:=d.calls+1 }->Calls Tryz.prog 114 #[.pointer (some ⟨p0,0,none⟩),.pointer (some ⟨p1,0,none⟩)] w2 fun e w'=>Fr (DS db r) w2 w'/\e=.returned (.int .i64 (call { d with fu:=d.fu.map (· - 1),calls:=d.calls+1 }).2)/\DkAt w' db r (call { d with fu:=d.fu.map (· - 1),calls:=d.calls+1 }).1) :
  Calls Tryz.prog 106 #[.pointer (some ⟨db,0,none⟩),.func (.func 114) #[] #[.pointer (some ⟨p0,0,none⟩),.pointer (some ⟨p1,0,none⟩)]] w fun e w'=>Fr (DS db r) w w'/\e=.returned (.int .i64 (powD d call).2)/\DkAt w' db r (powD d call).1:=by
 refine (F106d.of (some ⟨db,0,none⟩) ((p0,0),(p1,0),()) w (Q:=fun v w'=>Fr (DS db r) w w'/\v=.int .i64 (powD d call).2/\DkAt w' db r (powD d call).1) ?_).mono (fun e w' ⟨v,he,hf,hv,h⟩=>⟨hf,by rw [he,hv],h⟩)
 have hne:=h.ne
 obtain ⟨u,v,fz,lv,h1,h2,h3,h4⟩:=h
 have hc1:=hB.calls
 have k4:∀ t:Bool,t=offD d->jnC (F106d.k4 (fun v w'=>Fr (DS db r) w w'/\v=.int .i64 (powD d call).2/\DkAt w' db r (powD d call).1)) (some ⟨db,0,none⟩,((p0,0),(p1,0),()),t,()) w:=by
  intro t ht
  refine jnC_mk (fun _=>vIf_mk (fun htt=>dr_mk (dk_set (d':={ d with down:=true }) (fz':=fz) (lv':=lv) h1 h2 h3 rfl (by show 0+6+1<=10; omega) (fun x hx=>by simp at hx; subst hx; rfl) rfl rfl hne (fun w6 f6 g1 g2 g3=>?_))) (fun htf=>jnC_mk (fun _=>?_)))
  ·have ho:offD d=true:=by rw [<- ht]; exact htt
   have eP:powD d call=({ d with down:=true },11):=by unfold powD; rw [if_pos ho]
   rw [eP]
   exact ⟨f6.mono (fun _ _ h=>.inl h),rfl,u,v,fz,lv,g1,g2,g3,h4⟩
  ·have ho:offD d=false:=by rw [<- ht]; exact htf
   have eP:powD d call=call { d with fu:=d.fu.map (· - 1),calls:=d.calls+1 }:=by unfold powD; rw [if_neg (by rw [ho]; simp)]
   refine dr_mk ⟨lv,h1.cell (o:=0+8) rfl,dr_mk (dk_set (d':=d) (fz':=fz) (lv':=IntKind.wrap .i64 (lv - 1)) h1 h2 h3 rfl (by show 0+8+1<=10; omega) (fun x hx=>by simp at hx; subst hx; rfl) rfl rfl hne (fun w12 f12 g1 g2 g3=>?_))⟩
   have ec:IntKind.wrap .i64 (d.calls+1)=d.calls+1:=i64_id (by omega) (by omega)
   refine dr_mk ⟨d.calls,g1.cell (o:=0+9) rfl,dr_mk (dk_set (d':={ d with fu:=d.fu.map (· - 1),calls:=d.calls+1 }) (fz':=fz) (lv':=IntKind.wrap .i64 (lv - 1)) g1 g2 g3 (by rw [ec]; rfl) (by show 0+9+1<=10; omega) (fun x hx=>by simp at hx; subst hx; rfl) rfl rfl hne (fun w18 f18 m1 m2 m3=>?_))⟩
   have hfu:fuR (d.fu.map (· - 1)) fz (IntKind.wrap .i64 (lv - 1)):=by
    unfold fuR at h4 ⊢
    cases hd:d.fu with
    | none=>rw [hd] at h4; exact h4
    | some n =>
     rw [hd] at h4
     have hh:=hB.fu n hd
     have hn1:¬ n<=0:=fun hle=>by
      unfold offD at ho
      rw [hd] at ho
      simp at ho
      omega
     have h4:fz=true/\lv=n:=h4
     refine ⟨h4.1,?_⟩
     rw [h4.2]
     exact i64_id (by omega) (by omega)
   have f018:Fr (fun k=>k=db) w w18:=f12.trans1 f18
   refine (hcall w18 f018 ho ⟨u,v,fz,_,m1,m2,m3,hfu⟩).mono ?_
   rintro e w19 ⟨f19,rfl,h19⟩
   refine ⟨_,rfl,?_⟩
   rw [eP]
   exact ⟨f018.trans f19 (fun k _ h=>.inl h) (fun _ _ h=>h),rfl,h19⟩
 refine vIf_f rfl (dr_mk ⟨d.down,h1.cell (o:=0+6) rfl,vIf_mk (fun hd=>k4 true ?_) (fun hd=>dr_mk ⟨fz,h1.cell (o:=0+7) rfl,vIf_mk (fun hz=>dr_mk ⟨lv,h1.cell (o:=0+8) rfl,k4 _ ?_⟩) (fun hz=>k4 false ?_)⟩)⟩)
 ·have hd:d.down=true:=hd
  unfold offD
  rw [hd]; rfl
 ·have hd:d.down=false:=hd
  have hz:fz=true:=hz
  unfold offD
  rw [hd,Bool.false_or]
  unfold fuR at h4
  cases hf:d.fu with
  | none=>rw [hf] at h4; rw [hz] at h4; cases h4
  | some n =>
   rw [hf] at h4
   have h4:fz=true/\lv=n:=h4
   rw [h4.2]
 ·have hd:d.down=false:=hd
  have hz:fz=false:=hz
  unfold offD
  rw [hd,Bool.false_or]
  unfold fuR at h4
  cases hf:d.fu with
  | none=>rfl
  | some n =>
   rw [hf] at h4
   have h4:fz=true/\lv=n:=h4
   rw [hz] at h4; cases h4.1
set_option maxHeartbeats 1000000 in
theorem power_callsg [Ow] (db r:Nat) (d:Dk) (p0:Nat) (w:World) (N:Nat) (call:Dk->Dk×Int) (h:DkAt w db r d) (hB:DkB d N) (hN:N<=349525)
  (hcall:∀ w2:World,Fr (fun k=>k=db) w w2->offD d=false->DkAt w2 db r { d with fu:=d.fu.map (· - 1),calls:=d.calls+1 }->Calls Tryz.prog 117 #[.pointer (some ⟨p0,0,none⟩)] w2 fun e w'=>Fr (DS db r) w2 w'/\e=.returned (.int .i64 (call { d with fu:=d.fu.map (· - 1),calls:=d.calls+1 }).2)/\DkAt w' db r (call { d with fu:=d.fu.map (· - 1),calls:=d.calls+1 }).1) :
  Calls Tryz.prog 106 #[.pointer (some ⟨db,0,none⟩),.func (.func 117) #[] #[.pointer (some ⟨p0,0,none⟩)]] w fun e w'=>Fr (DS db r) w w'/\e=.returned (.int .i64 (powD d call).2)/\DkAt w' db r (powD d call).1:=by
 refine (F106g.of (some ⟨db,0,none⟩) (p0,0) w (Q:=fun v w'=>Fr (DS db r) w w'/\v=.int .i64 (powD d call).2/\DkAt w' db r (powD d call).1) ?_).mono (fun e w' ⟨v,he,hf,hv,h⟩=>⟨hf,by rw [he,hv],h⟩)
 have hne:=h.ne
 obtain ⟨u,v,fz,lv,h1,h2,h3,h4⟩:=h
 have hc1:=hB.calls
 have k4:∀ t:Bool,t=offD d->jnC (F106g.k4 (fun v w'=>Fr (DS db r) w w'/\v=.int .i64 (powD d call).2/\DkAt w' db r (powD d call).1)) (some ⟨db,0,none⟩,(p0,0),t,()) w:=by
  intro t ht
  refine jnC_mk (fun _=>vIf_mk (fun htt=>dr_mk (dk_set (d':={ d with down:=true }) (fz':=fz) (lv':=lv) h1 h2 h3 rfl (by show 0+6+1<=10; omega) (fun x hx=>by simp at hx; subst hx; rfl) rfl rfl hne (fun w6 f6 g1 g2 g3=>?_))) (fun htf=>jnC_mk (fun _=>?_)))
  ·have ho:offD d=true:=by rw [<- ht]; exact htt
   have eP:powD d call=({ d with down:=true },11):=by unfold powD; rw [if_pos ho]
   rw [eP]
   exact ⟨f6.mono (fun _ _ h=>.inl h),rfl,u,v,fz,lv,g1,g2,g3,h4⟩
  ·have ho:offD d=false:=by rw [<- ht]; exact htf
   have eP:powD d call=call { d with fu:=d.fu.map (· - 1),calls:=d.calls+1 }:=by unfold powD; rw [if_neg (by rw [ho]; simp)]
   refine dr_mk ⟨lv,h1.cell (o:=0+8) rfl,dr_mk (dk_set (d':=d) (fz':=fz) (lv':=IntKind.wrap .i64 (lv - 1)) h1 h2 h3 rfl (by show 0+8+1<=10; omega) (fun x hx=>by simp at hx; subst hx; rfl) rfl rfl hne (fun w12 f12 g1 g2 g3=>?_))⟩
   have ec:IntKind.wrap .i64 (d.calls+1)=d.calls+1:=i64_id (by omega) (by omega)
   refine dr_mk ⟨d.calls,g1.cell (o:=0+9) rfl,dr_mk (dk_set (d':={ d with fu:=d.fu.map (· - 1),calls:=d.calls+1 }) (fz':=fz) (lv':=IntKind.wrap .i64 (lv - 1)) g1 g2 g3 (by rw [ec]; rfl) (by show 0+9+1<=10; omega) (fun x hx=>by simp at hx; subst hx; rfl) rfl rfl hne (fun w18 f18 m1 m2 m3=>?_))⟩
   have hfu:fuR (d.fu.map (· - 1)) fz (IntKind.wrap .i64 (lv - 1)):=by
    unfold fuR at h4 ⊢
    cases hd:d.fu with
    | none=>rw [hd] at h4; exact h4
    | some n =>
     rw [hd] at h4
     have hh:=hB.fu n hd
     have hn1:¬ n<=0:=fun hle=>by
      unfold offD at ho
      rw [hd] at ho
      simp at ho
      omega
     have h4:fz=true/\lv=n:=h4
     refine ⟨h4.1,?_⟩
     rw [h4.2]
     exact i64_id (by omega) (by omega)
   have f018:Fr (fun k=>k=db) w w18:=f12.trans1 f18
   refine (hcall w18 f018 ho ⟨u,v,fz,_,m1,m2,m3,hfu⟩).mono ?_
   rintro e w19 ⟨f19,rfl,h19⟩
   refine ⟨_,rfl,?_⟩
   rw [eP]
   exact ⟨f018.trans f19 (fun k _ h=>.inl h) (fun _ _ h=>h),rfl,h19⟩
 refine vIf_f rfl (dr_mk ⟨d.down,h1.cell (o:=0+6) rfl,vIf_mk (fun hd=>k4 true ?_) (fun hd=>dr_mk ⟨fz,h1.cell (o:=0+7) rfl,vIf_mk (fun hz=>dr_mk ⟨lv,h1.cell (o:=0+8) rfl,k4 _ ?_⟩) (fun hz=>k4 false ?_)⟩)⟩)
 ·have hd:d.down=true:=hd
  unfold offD
  rw [hd]; rfl
 ·have hd:d.down=false:=hd
  have hz:fz=true:=hz
  unfold offD
  rw [hd,Bool.false_or]
  unfold fuR at h4
  cases hf:d.fu with
  | none=>rw [hf] at h4; rw [hz] at h4; cases h4
  | some n =>
   rw [hf] at h4
   have h4:fz=true/\lv=n:=h4
   rw [h4.2]
 ·have hd:d.down=false:=hd
  have hz:fz=false:=hz
  unfold offD
  rw [hd,Bool.false_or]
  unfold fuR at h4
  cases hf:d.fu with
  | none=>rfl
  | some n =>
   rw [hf] at h4
   have h4:fz=true/\lv=n:=h4
   rw [hz] at h4; cases h4.1
theorem app_p (x:Ino) (b:Bs):(appI x b).1.p.length<=x.p.length+1:=by
 unfold appI
 split
 ·exact Nat.le_succ _
 ·split
  ·exact Nat.le_succ _
  ·show (x.p ++ [_]).length<=_
   simp
theorem cut_p (x:Ino) (n:Int):(cutI x n).1.p.length<=x.p.length+1:=by
 unfold cutI
 split
 ·exact Nat.le_succ _
 ·show (x.p ++ [_]).length<=_
  simp
theorem clApp_calls [Ow] (pb:Nat) (e0:TypeId) (C:Option Addr) (nc cc:Nat) (bb:Bs) (cs:List Value) (x:Ino) (w:World) (hr:RecAt w pb e0 [.slice C nc cc]) (hC:Sl w 1 C nc (bys bb)) (h:InoAt w cs x) (hb:InoB x) (hp:x.p.length<=1099511627774) (hn:nc<=1099511627776) :
  Calls Tryz.prog 112 #[ofL cs,.pointer (some ⟨pb,0,none⟩)] w fun e w'=>Fr (fun _=>False) w w'/\∃ cs',e=.returned (.tuple #[ofL cs',.int .i64 (appI x bb).2])/\InoAt w' cs' (appI x bb).1:=by
 refine (F112.of cs (pb,0) w (Q:=fun v w'=>Fr (fun _=>False) w w'/\∃ cs',v=.tuple #[ofL cs',.int .i64 (appI x bb).2]/\InoAt w' cs' (appI x bb).1) ?_).mono (fun e w' ⟨v,he,hf,cs',hv,h⟩=>⟨hf,cs',by rw [he,hv],h⟩)
 have hone:=ino_one h
 refine rec_new (fun b1 w2 f1 hb1 r1=>rec_new (fun b3 w4 f3 hb3 r3=>⟨cs,hone.1,rec_all (r1.fr f3 (fun h=>h)),?_⟩))
 have f13:=f1.trans1 f3
 have hs1:=f1.size
 refine ⟨_,_,_,(hr.fr f13 (fun h=>h)).cell (o:=0) rfl,(app_calls cs x C nc cc bb w4 (h.fr0 f13) (f13.sl hC (fun _ _ _ h=>h)) hb hp hn).mono ?_⟩
 rintro e w9 ⟨f9,cs',rfl,hX⟩
 have hX1:=ino_one hX
 have r3:=r3.fr f9 (fun h=>h)
 refine ⟨_,_,rfl,ans_mk r3 rfl hX1.1 hX1.2 (fun v fv=>⟨(f13.trans1 f9).trans fv (fun _ _ h=>h) (fun j hj h=>by omega),cs',rfl,hX.fr fv (fun j hj=>by have hj:j=b3:=hj; subst hj; exact two_alien r3)⟩)⟩
theorem clSync_calls [Ow] (cs:List Value) (x:Ino) (w:World) (h:InoAt w cs x) (hb:InoB x) (hp:x.p.length<=1099511627774) :
  Calls Tryz.prog 115 #[ofL cs] w fun e w'=>Fr (fun _=>False) w w'/\∃ cs',e=.returned (.tuple #[ofL cs',.int .i64 0])/\InoAt w' cs' (syncI x):=by
 refine (F115.of cs w (Q:=fun v w'=>Fr (fun _=>False) w w'/\∃ cs',v=.tuple #[ofL cs',.int .i64 0]/\InoAt w' cs' (syncI x)) ?_).mono (fun e w' ⟨v,he,hf,cs',hv,h⟩=>⟨hf,cs',by rw [he,hv],h⟩)
 have hone:=ino_one h
 refine rec_new (fun b1 w2 f1 hb1 r1=>rec_new (fun b3 w4 f3 hb3 r3=>⟨cs,hone.1,rec_all (r1.fr f3 (fun h=>h)),?_⟩))
 have f13:=f1.trans1 f3
 have hs1:=f1.size
 refine (sync_calls' cs x w4 (h.fr0 f13) hb (by omega)).mono ?_
 rintro e w9 ⟨f9,cs',rfl,hX⟩
 have hX1:=ino_one hX
 have r3:=r3.fr f9 (fun h=>h)
 refine ⟨_,rfl,ans_mk r3 rfl hX1.1 hX1.2 (fun v fv=>⟨(f13.trans1 f9).trans fv (fun _ _ h=>h) (fun j hj h=>by omega),cs',rfl,hX.fr fv (fun j hj=>by have hj:j=b3:=hj; subst hj; exact two_alien r3)⟩)⟩
theorem Appendc [Ow] (db r:Nat) (d:Dk) (s:ByteArray) (C:Option Addr) (nc cc:Nat) (bb:Bs) (e0 e1 e2:TypeId) (v0 v1 v2:Nat) (w:World) (h:DkAt w db r d) (hb:FoB d.F) (hi:∀ id,InoB (d.f id)) (hp:∀ id,(d.f id).p.length<=349525) (h0:RecAt w v0 e0 [.pointer (some ⟨db,0,none⟩)]) (h1:RecAt w v1 e1 [.string s]) (h2:RecAt w v2 e2 [.slice C nc cc]) (hC:Sl w 1 C nc (bys bb)) (hn:nc<=1099511627776) :
  Calls Tryz.prog 110 #[.pointer (some ⟨v0,0,none⟩),.pointer (some ⟨v1,0,none⟩),.pointer (some ⟨v2,0,none⟩)] w fun e w'=>Fr (DS db r) w w'/\e=.returned (.int .i64 (fileD d s (fun x=>appI x bb)).2)/\DkAt w' db r (fileD d s (fun x=>appI x bb)).1:=by
 refine (F110.of (v0,0) (v1,0) (v2,0) w (Q:=fun v w'=>Fr (DS db r) w w'/\v=.int .i64 (fileD d s (fun x=>appI x bb)).2/\DkAt w' db r (fileD d s (fun x=>appI x bb)).1) ?_).mono (fun e w' ⟨v,he,hf,hv,h⟩=>⟨hf,by rw [he,hv],h⟩)
 refine ⟨_,h0.cell (o:=0) rfl,_,h1.cell (o:=0) rfl,(file_callsa db r d s v2 w (fun x=>appI x bb) h hb hi (fun id=>by have:=hp id; omega) (fun x hx=>appI_B hx bb) (fun id=>by have:=app_p (d.f id) bb; have:=hp id; omega) (fun w2 cs id f2 hI=>clApp_calls v2 e2 C nc cc bb cs (d.f id) w2 (h2.fr f2 (fun h=>h)) (f2.sl hC (fun _ _ _ h=>h)) hI (hi id) (by have:=hp id; omega) hn)).mono ?_⟩
 rintro e w3 ⟨f3,rfl,h3⟩
 exact ⟨_,rfl,f3,rfl,h3⟩
theorem Append_calls [Ow] (db r:Nat) (d:Dk) (s:ByteArray) (C:Option Addr) (nc cc:Nat) (bb:Bs) (w:World) (N:Nat) (h:DkAt w db r d) (hI:DkI d) (hB:DkB d N) (hN:N<=349524) (hC:Sl w 1 C nc (bys bb)) (hn:nc<=1099511627776) :
  Calls Tryz.prog 82 #[.pointer (some ⟨db,0,none⟩),.string s,.slice C nc cc] w fun e w'=>Fr (DS db r) w w'/\e=.returned (.int .i64 (powD d (fun d=>fileD d s (fun x=>appI x bb))).2)/\DkAt w' db r (powD d (fun d=>fileD d s (fun x=>appI x bb))).1:=by
 refine (F82.of (some ⟨db,0,none⟩) s C nc cc w (Q:=fun v w'=>Fr (DS db r) w w'/\v=.int .i64 (powD d (fun d=>fileD d s (fun x=>appI x bb))).2/\DkAt w' db r (powD d (fun d=>fileD d s (fun x=>appI x bb))).1) ?_).mono (fun e w' ⟨v,he,hf,hv,h⟩=>⟨hf,by rw [he,hv],h⟩)
 have hlt:=h.lt
 have hfo:=hB.fo
 refine rec_new (fun b1 w2 f1 hb1 r1=>rec_new (fun b3 w4 f3 hb3 r3=>rec_new (fun b5 w6 f5 hb5 r5=>⟨_,((r1.fr f3 (fun h=>h)).fr f5 (fun h=>h)).cell (o:=0) rfl,?_⟩)))
 have f0:=(f1.trans1 f3).trans1 f5
 have hs1:=f1.size
 have hs3:=f3.size
 have h6:=h.fr0 f0
 refine (power_callsb db r d b1 b3 b5 w6 N (fun d=>fileD d s (fun x=>appI x bb)) h6 hB (by omega) (fun w8 f8 ho h8=>?_)).mono ?_
 ·exact Appendc db r _ s C nc cc bb _ _ _ b1 b3 b5 w8 h8 (by unfold FoB; show d.F.L.length+d.F.P.length<=349525; omega) hI.ino (fun id=>by have:=hB.p id; show (d.f id).p.length<=349525; omega) (RecAt.fr f8 ((r1.fr f3 (fun h=>h)).fr f5 (fun h=>h)) (fun h=>by have h:b1=db:=h; omega)) (RecAt.fr f8 (r3.fr f5 (fun h=>h)) (fun h=>by have h:b3=db:=h; omega)) (RecAt.fr f8 r5 (fun h=>by have h:b5=db:=h; omega)) (by_fr0 (f0.sl hC (fun _ _ _ h=>h)) f8 (fun k hk=>by have hk:k=db:=hk; rw [hk]; exact h6.alien0.1)) hn
 ·rintro e w9 ⟨f9,rfl,h9⟩
  exact ⟨_,rfl,f0.trans f9 (fun _ _ h=>h.elim) (fun _ _ h=>h),rfl,h9⟩
theorem Syncc [Ow] (db r:Nat) (d:Dk) (s:ByteArray) (e0 e1:TypeId) (v0 v1:Nat) (w:World) (h:DkAt w db r d) (hb:FoB d.F) (hi:∀ id,InoB (d.f id)) (hp:∀ id,(d.f id).p.length<=349525) (h0:RecAt w v0 e0 [.pointer (some ⟨db,0,none⟩)]) (h1:RecAt w v1 e1 [.string s]) :
  Calls Tryz.prog 114 #[.pointer (some ⟨v0,0,none⟩),.pointer (some ⟨v1,0,none⟩)] w fun e w'=>Fr (DS db r) w w'/\e=.returned (.int .i64 (fileD d s (fun x=>(syncI x,0))).2)/\DkAt w' db r (fileD d s (fun x=>(syncI x,0))).1:=by
 refine (F114.of (v0,0) (v1,0)  w (Q:=fun v w'=>Fr (DS db r) w w'/\v=.int .i64 (fileD d s (fun x=>(syncI x,0))).2/\DkAt w' db r (fileD d s (fun x=>(syncI x,0))).1) ?_).mono (fun e w' ⟨v,he,hf,hv,h⟩=>⟨hf,by rw [he,hv],h⟩)
 refine ⟨_,h0.cell (o:=0) rfl,_,h1.cell (o:=0) rfl,(file_callsc db r d s  w (fun x=>(syncI x,0)) h hb hi (fun id=>by have:=hp id; omega) (fun x hx=>syncI_B hx) (fun id=>by show 0<=_; omega) (fun w2 cs id f2 hI=>clSync_calls cs (d.f id) w2 hI (hi id) (by have:=hp id; omega))).mono ?_⟩
 rintro e w3 ⟨f3,rfl,h3⟩
 exact ⟨_,rfl,f3,rfl,h3⟩
theorem Sync_calls [Ow] (db r:Nat) (d:Dk) (s:ByteArray) (w:World) (N:Nat) (h:DkAt w db r d) (hI:DkI d) (hB:DkB d N) (hN:N<=349524) :
  Calls Tryz.prog 84 #[.pointer (some ⟨db,0,none⟩),.string s] w fun e w'=>Fr (DS db r) w w'/\e=.returned (.int .i64 (powD d (fun d=>fileD d s (fun x=>(syncI x,0)))).2)/\DkAt w' db r (powD d (fun d=>fileD d s (fun x=>(syncI x,0)))).1:=by
 refine (F84.of (some ⟨db,0,none⟩) s  w (Q:=fun v w'=>Fr (DS db r) w w'/\v=.int .i64 (powD d (fun d=>fileD d s (fun x=>(syncI x,0)))).2/\DkAt w' db r (powD d (fun d=>fileD d s (fun x=>(syncI x,0)))).1) ?_).mono (fun e w' ⟨v,he,hf,hv,h⟩=>⟨hf,by rw [he,hv],h⟩)
 have hlt:=h.lt
 have hfo:=hB.fo
 refine rec_new (fun b1 w2 f1 hb1 r1=>rec_new (fun b3 w4 f3 hb3 r3=> ⟨_,(r1.fr f3 (fun h=>h)).cell (o:=0) rfl,?_⟩))
 have f0:=f1.trans1 f3
 have hs1:=f1.size
 have hs3:=f3.size
 have h6:=h.fr0 f0
 refine (power_callsd db r d b1 b3  w4 N (fun d=>fileD d s (fun x=>(syncI x,0))) h6 hB (by omega) (fun w8 f8 ho h8=>?_)).mono ?_
 ·exact Syncc db r _ s _ _  b1 b3  w8 h8 (by unfold FoB; show d.F.L.length+d.F.P.length<=349525; omega) hI.ino (fun id=>by have:=hB.p id; show (d.f id).p.length<=349525; omega) (RecAt.fr f8 (r1.fr f3 (fun h=>h)) (fun h=>by have h:b1=db:=h; omega)) (RecAt.fr f8 r3 (fun h=>by have h:b3=db:=h; omega))
 ·rintro e w9 ⟨f9,rfl,h9⟩
  exact ⟨_,rfl,f0.trans f9 (fun _ _ h=>h.elim) (fun _ _ h=>h),rfl,h9⟩
set_option maxHeartbeats 1000000 in
theorem SyncDir_calls [Ow] (db r:Nat) (d:Dk) (w:World) (N:Nat) (h:DkAt w db r d) (hI:DkI d) (hB:DkB d N) (hN:N<=349524) :
  Calls Tryz.prog 85 #[.pointer (some ⟨db,0,none⟩)] w fun e w'=>Fr (DS db r) w w'/\e=.returned (.int .i64 (powD d sdD).2)/\DkAt w' db r (powD d sdD).1:=by
 refine (F85.of (some ⟨db,0,none⟩) w (Q:=fun v w'=>Fr (DS db r) w w'/\v=.int .i64 (powD d sdD).2/\DkAt w' db r (powD d sdD).1) ?_).mono (fun e w' ⟨v,he,hf,hv,h⟩=>⟨hf,by rw [he,hv],h⟩)
 have hlt:=h.lt
 have hfo:=hB.fo
 have hbF:FoB d.F:=by unfold FoB; omega
 have hbF':FoB ⟨nowF d.F,[]⟩:=by
  have:=nowF_len d.F
  unfold FoB
  show (nowF d.F).length+0<=349525
  omega
 have hm:=ids_max hbF
 refine rec_new (fun b1 w2 f1 hb1 r1=>⟨_,r1.cell (o:=0) rfl,?_⟩)
 have h2:=h.fr0 f1
 refine (power_callsg db r d b1 w2 N sdD h2 hB (by omega) (fun w8 f8 ho h8=>?_)).mono ?_
 ·have r1:=r1.fr f8 (fun h=>by have h:b1=db:=h; omega)
  refine (F117.of (b1,0) w8 (Q:=fun v w'=>Fr (DS db r) w8 w'/\v=.int .i64 0/\DkAt w' db r (sdD { d with fu:=d.fu.map (· - 1),calls:=d.calls+1 }).1) ?_).mono (fun e w' ⟨v,he,hf,hv,h⟩=>⟨hf,by rw [he,hv]; rfl,h⟩)
  refine ⟨_,r1.cell (o:=0) rfl,dr_mk (dk_getF h8 (fun cs hF=>(ids_calls cs d.F w8 hF hbF).mono ?_))⟩
  rintro e w5 ⟨f5,A7,c9,rfl,r7⟩
  have fd:Fr (fun _=>False) w5 w5.drew:=Fr.drew _ _
  have f5d:=f5.trans1 fd
  have h5:=h8.fr0 f5d
  have r1:=r1.fr f5d (fun h=>h)
  have r7:=fd.row r7 (fun _ _ h=>h)
  have e0:w5.drew.heap.size=w5.heap.size:=rfl
  have hs5:=f5d.size
  generalize w5.drew=w6 at fd f5d h5 r1 r7 e0 hs5 ⊢
  refine ⟨A7,_,c9,rfl,_,r1.cell (o:=0) rfl,_,r1.cell (o:=0) rfl,dr_mk (dk_getF h5 (fun cs hF=>(sync_calls cs d.F w6 hF hbF).mono ?_))⟩
  rintro e w15 ⟨f15,cs',rfl,hF'⟩
  have hl1:=r1.lt
  have r1:=r1.fr f15 (fun h=>h)
  have hl8:=h8.lt
  refine ⟨cs',rfl,kp_mk f15 hl1 (fun h=>h) (dr_mk (dk_setF (h5.fr0 f15) hF' (fun w20 f20 h20=>?_)))⟩
  have r1':=r1.fr f20 (fun h=>by have h:b1=db:=h; omega)
  have hrow:Sl w20 1 A7 (idsF d.F).length (ivs (idsF d.F)):=by
   refine f20.sl (f15.sl r7.sl (fun _ _ _ h=>h)) (fun h0 k hk h=>?_)
   have h:k=db:=h
   have:=(r7.blt hk).1; omega
  refine ⟨_,r1'.cell (o:=0) rfl,(keep_calls db r _ A7 _ c9 (idsF d.F) w20 h20 hbF' hrow (ids_asc _) (by omega)).mono ?_⟩
  rintro e w22 ⟨f22,rfl,h22⟩
  have e2:forg (idsF ⟨nowF d.F,[]⟩) (idsF d.F) d.f=trim ⟨nowF d.F,[]⟩ d.f:=forg_trim hI.out
  have h22:DkAt w22 db r { d with F:=⟨nowF d.F,[]⟩,f:=forg (idsF ⟨nowF d.F,[]⟩) (idsF d.F) d.f,fu:=d.fu.map (· - 1),calls:=d.calls+1 }:=h22
  rw [e2] at h22
  refine ⟨rfl,?_,rfl,h22⟩
  exact ((f5d.trans1 f15).trans f20 (U:=DS db r) (fun _ _ h=>h.elim) (fun k hk h=>.inl h)).trans f22 (fun _ _ h=>h) (fun k hk h=>.inr h)
 ·rintro e w9 ⟨f9,rfl,h9⟩
  exact ⟨_,rfl,f1.trans f9 (fun _ _ h=>h.elim) (fun _ _ h=>h),rfl,h9⟩
set_option maxHeartbeats 2000000 in
theorem Create_calls [Ow] (db r:Nat) (d:Dk) (s:ByteArray) (w:World) (N:Nat) (h:DkAt w db r d) (hI:DkI d) (hB:DkB d N) (hN:N<=349524) (hs:s.size<=1099511627775) :
  Calls Tryz.prog 80 #[.pointer (some ⟨db,0,none⟩),.string s] w fun e w'=>Fr (DS db r) w w'/\e=.returned (.int .i64 (powD d (fun d=>crD d s)).2)/\DkAt w' db r (powD d (fun d=>crD d s)).1:=by
 refine (F80.of (some ⟨db,0,none⟩) s w (Q:=fun v w'=>Fr (DS db r) w w'/\v=.int .i64 (powD d (fun d=>crD d s)).2/\DkAt w' db r (powD d (fun d=>crD d s)).1) ?_).mono (fun e w' ⟨v,he,hf,hv,h⟩=>⟨hf,by rw [he,hv],h⟩)
 have hlt:=h.lt
 have hfo:=hB.fo
 have hlast:=hB.last
 have hbF:FoB d.F:=by unfold FoB; omega
 refine rec_new (fun b1 w2 f1 hb1 r1=>rec_new (fun b3 w4 f3 hb3 r3=>⟨_,(r1.fr f3 (fun h=>h)).cell (o:=0) rfl,?_⟩))
 have f0:=f1.trans1 f3
 have hs1:=f1.size
 have h6:=h.fr0 f0
 have r1:=r1.fr f3 (fun h=>h)
 refine (power_callsa db r d b1 b3 w4 N (fun d=>crD d s) h6 hB (by omega) (fun w8 f8 ho h8=>?_)).mono ?_
 ·have r1:=r1.fr f8 (fun h=>by have h:b1=db:=h; omega)
  have r3:=r3.fr f8 (fun h=>by have h:b3=db:=h; omega)
  have hl1:=r1.lt
  have hl3:=r3.lt
  have hl8:=h8.lt
  generalize hd':({ d with fu:=d.fu.map (· - 1),calls:=d.calls+1 }:Dk)=d' at h8 ⊢
  have eF:d'.F=d.F:=by rw [<- hd']
  have ef:d'.f=d.f:=by rw [<- hd']
  have el:d'.last=d.last:=by rw [<- hd']
  have elf:d'.lf=d.lf:=by rw [<- hd']
  have hout:∀ id,id ∉ idsF d'.F->d'.f id=zI:=by rw [eF,ef]; exact hI.out
  have hbF':FoB d'.F:=by rw [eF]; exact hbF
  refine (F107.of (b1,0) (b3,0) w8 (Q:=fun v w'=>Fr (DS db r) w8 w'/\v=.int .i64 (crD d' s).2/\DkAt w' db r (crD d' s).1) ?_).mono (fun e w' ⟨v,he,hf,hv,h⟩=>⟨hf,by rw [he,hv],h⟩)
  have fd:Fr (fun _=>False) w8 w8.drew:=Fr.drew _ _
  have h9:=h8.fr0 fd
  have r1d:=r1.fr fd (fun h=>h)
  have r3d:=r3.fr fd (fun h=>h)
  have e8:w8.drew.heap.size=w8.heap.size:=rfl
  unfold F107.vc
  dsimp only
  generalize w8.drew=w9 at fd h9 r1d r3d e8 ⊢
  refine ⟨_,r1d.cell (o:=0) rfl,dr_mk (dk_getF h9 (fun cs hF=>⟨_,r1d.cell (o:=0) rfl,dr_mk (dk_getI (o:=1) h9 (.inr (.inl ⟨rfl,rfl⟩)) ((ids_calls cs d'.F w9 hF hbF').mono ?_))⟩))⟩
  rintro e w10 ⟨f10,A11,c13,rfl,r11⟩
  refine ⟨A11,_,c13,rfl,kp_mk f10 (by omega) (fun h=>h) (kp_mk f10 (by omega) (fun h=>h) (vIf_mk (fun hge=>?_) (fun hlt2=>?_)))⟩
  ·have hge:=of_decide_eq_true hge
   have eC:crD d' s=(d',8):=by unfold crD; rw [if_pos hge]
   rw [eC]
   exact ⟨fr_up (fd.trans1 f10),rfl,h9.fr0 f10⟩
  ·have hlt2:=of_decide_eq_false hlt2
   have fdd:Fr (fun _=>False) w10 w10.drew:=Fr.drew _ _
   have f1011:=f10.trans1 fdd
   have h11:=h9.fr0 f1011
   have r1e:=r1d.fr f1011 (fun h=>h)
   have r3e:=r3d.fr f1011 (fun h=>h)
   have f011:=fd.trans1 f1011
   generalize w10.drew=w11 at fdd f1011 h11 r1e r3e f011 ⊢
   have ew:IntKind.wrap .i64 (d'.last+1)=d'.last+1:=i64_id (by omega) (by omega)
   refine ⟨_,r1e.cell (o:=0) rfl,_,r3e.cell (o:=0) rfl,_,r1e.cell (o:=0) rfl,dr_mk (dk_getI (o:=5) h11 (.inr (.inr (.inl ⟨rfl,rfl⟩))) ?_)⟩
   rw [ew]
   have hchb:ChB ⟨1,s,⟨#[]⟩,d'.last+1⟩:=⟨hs,by show 0<=_; omega⟩
   refine (change_calls db r d' ⟨1,s,⟨#[]⟩,d'.last+1⟩ w11 h11 hchb (by rw [eF]; omega) hout).mono ?_
   rintro e w20 ⟨f20,rfl,h20⟩
   have hne:∀ k,DS db r k->k < w.heap.size:=by
    rintro k (rfl | rfl) <;> omega
   have r1f:=r1e.fr f20 (fun h=>by have:=hne _ h; omega)
   have f020:Fr (DS db r) w8 w20:=f011.trans f20 (fun _ _ h=>h.elim) (fun _ _ h=>h)
   refine ⟨_,rfl,vIf_mk (fun h0=>?_) (fun h0=>?_)⟩
   ·have h0:wrongF d'.F ⟨1,s,⟨#[]⟩,d'.last+1⟩=0:=by simpa [chD] using h0
    have eC:crD d' s=({ (chD d' ⟨1,s,⟨#[]⟩,d'.last+1⟩).1 with last:=d'.last+1 },0):=by unfold crD; rw [if_neg hlt2,if_pos h0]
    have e20:(chD d' ⟨1,s,⟨#[]⟩,d'.last+1⟩).1.last=d'.last:=rfl
    refine ⟨_,r1f.cell (o:=0) rfl,dr_mk (dk_getI (o:=5) h20 (.inr (.inr (.inl ⟨rfl,rfl⟩))) (dr_mk ?_))⟩
    rw [e20,ew]
    have hne2:=h20.ne
    obtain ⟨u,v,fz,lv,q1,q2,q3,q4⟩:=h20
    refine dk_set (d':={ (chD d' ⟨1,s,⟨#[]⟩,d'.last+1⟩).1 with last:=d'.last+1 }) (fz':=fz) (lv':=lv) q1 q2 q3 rfl (by show 0+5+1<=10; omega) (fun x hx=>by simp at hx; subst hx; rfl) rfl rfl hne2 (fun w29 f29 g1 g2 g3=>?_)
    have h29:DkAt w29 db r { (chD d' ⟨1,s,⟨#[]⟩,d'.last+1⟩).1 with last:=d'.last+1 }:=⟨u,v,fz,lv,g1,g2,g3,q4⟩
    have r1g:=r1f.fr f29 (fun h=>by have h:b1=db:=h; omega)
    have fd3:Fr (fun _=>False) w29 w29.drew:=Fr.drew _ _
    have h30:=h29.fr0 fd3
    have r1g:=r1g.fr fd3 (fun h=>h)
    have f030:Fr (DS db r) w8 w29.drew:=(f020.trans f29 (fun _ _ h=>h) (fun k hk h=>.inl h)).trans fd3 (fun _ _ h=>h) (fun _ _ h=>h.elim)
    generalize w29.drew=w30 at fd3 h30 r1g f030 ⊢
    have h300:=h30
    obtain ⟨u',v',fz',lv',m1,m2,m3,m4⟩:=h300
    refine ⟨_,r1g.cell (o:=0) rfl,dr_mk (dk_getM h30 ⟨_,r1g.cell (o:=0) rfl,dr_mk (dk_getI (o:=5) h30 (.inr (.inr (.inl ⟨rfl,rfl⟩))) (files_put m3 (zI_at ((FilesAt.ok m3)))  (fun w38 hF38 f38=>?_)))⟩)⟩
    rw [eC]
    refine ⟨f030.trans f38 (fun _ _ h=>h) (fun k hk h=>.inr h),congrArg (Value.int .i64) h0,u',v',fz',lv',m1.fr f38 (fun h=>hne2 h),fo_fr m2 f38 (fun k hk=>by have hk:k=r:=hk; rw [hk]; exact m3.alien),?_,m4⟩
    have e3:updF (trim (doF d'.F ⟨1,s,⟨#[]⟩,d'.last+1⟩) d'.f) (d'.last+1) zI=trim (doF d'.F ⟨1,s,⟨#[]⟩,d'.last+1⟩) d'.f:=by
     funext j
     unfold updF
     by_cases hj:j=d'.last+1
     ·rw [if_pos hj]
      unfold trim
      split
      ·refine (hout j (fun hm=>?_)).symm
       rw [eF] at hm
       have:=(hI.rng j hm).2
       omega
      ·rfl
     ·rw [if_neg hj]
    have hF38:FilesAt w38 r (updF (trim (doF d'.F ⟨1,s,⟨#[]⟩,d'.last+1⟩) d'.f) (d'.last+1) zI):=hF38
    rw [e3] at hF38
    exact hF38
   ·have h0:¬ wrongF d'.F ⟨1,s,⟨#[]⟩,d'.last+1⟩=0:=by simpa [chD] using h0
    have eC:crD d' s=chD d' ⟨1,s,⟨#[]⟩,d'.last+1⟩:=by unfold crD; rw [if_neg hlt2,if_neg h0]
    rw [eC]
    exact ⟨f020,rfl,h20⟩
 ·rintro e w9 ⟨f9,rfl,h9⟩
  exact ⟨_,rfl,f0.trans f9 (fun _ _ h=>h.elim) (fun _ _ h=>h),rfl,h9⟩
theorem look_calls [Ow] (db r:Nat) (d:Dk) (s:ByteArray) (w:World) (h:DkAt w db r d) (hb:FoB d.F) (hi:∀ id,InoB (d.f id)) (hp:∀ id,(d.f id).p.length<=1099511627775) :
  Calls Tryz.prog 34 #[.pointer (some ⟨db,0,none⟩),.string s] w fun e w'=>Fr (fun _=>False) w w'/\∃ B k,e=.returned (.tuple #[.slice B (lookD d s).1.length k,.int .i64 (lookD d s).2])/\Sl w' 1 B (lookD d s).1.length (bys (lookD d s).1)/\(lookD d s).1.length<=k:=by
 refine (F34.of (some ⟨db,0,none⟩) s w (Q:=fun v w'=>Fr (fun _=>False) w w'/\∃ B k,v=.tuple #[.slice B (lookD d s).1.length k,.int .i64 (lookD d s).2]/\Sl w' 1 B (lookD d s).1.length (bys (lookD d s).1)/\(lookD d s).1.length<=k) ?_).mono (fun e w' ⟨v,he,hf,B,k,hv,h⟩=>⟨hf,B,k,by rw [he,hv],h⟩)
 have h0:=h
 obtain ⟨u,v,fz,lv,h1,h2,h3,h4⟩:=h0
 refine vIf_f rfl (dr_mk ⟨d.down,h1.cell (o:=0+6) rfl,vIf_mk (fun hd=>?_) (fun hd=>dr_mk (dk_getF h (fun cs hF=>(find_calls cs d.F s w hF hb).mono ?_)))⟩)
 ·have e:lookD d s=([],11):=by unfold lookD; rw [if_pos hd]
  rw [e]
  exact ⟨Fr.refl _ _,none,0,rfl,Sl.nil _ _ _,Nat.le_refl _⟩
 ·have hd:d.down=false:=hd
  rintro e w7 ⟨rfl,f7⟩
  refine ⟨_,_,rfl,?_⟩
  cases hfn:findN s (nowF d.F) with
  | none =>
   have eL:lookD d s=([],6):=by unfold lookD; rw [if_neg (by rw [hd]; simp),hfn]
   rw [eL]
   exact vIf_t rfl ⟨f7,none,0,rfl,Sl.nil _ _ _,Nat.le_refl _⟩
  | some id =>
   have eL:lookD d s=(nowI (d.f id),0):=by unfold lookD; rw [if_neg (by rw [hd]; simp),hfn]
   rw [eL]
   refine vIf_f rfl (dr_mk (dk_getM (h.fr0 f7) (files_get (h3.fr f7 (fun h=>h) (fun _ h=>h.elim)) (fun cs hX=>(now_calls' cs _ w7 hX (hi id) (hp id)).mono ?_))))
   rintro e w17 ⟨f17,B,k,rfl,hr⟩
   exact ⟨B,_,k,rfl,f7.trans1 f17,B,k,rfl,hr.sl,hr.le⟩
theorem look_len {d:Dk} (hi:∀ id,InoB (d.f id)) (s:ByteArray):(lookD d s).1.length<=1048576:=by
 unfold lookD
 split
 ·show 0<=_; omega
 ·split
  ·show 0<=_; omega
  ·exact now_le (hi _)
theorem ReadE_calls [Ow] (db r:Nat) (d:Dk) (s:ByteArray) (off n:Int) (w:World) (h:DkAt w db r d) (hb:FoB d.F) (hi:∀ id,InoB (d.f id)) (hp:∀ id,(d.f id).p.length<=1099511627775) :
  Calls Tryz.prog 18 #[.pointer (some ⟨db,0,none⟩),.string s,.int .i64 off,.int .i64 n] w fun e w'=>Fr (fun _=>False) w w'/\∃ B k,e=.returned (.tuple #[.slice B (readD d s off n).1.length k,.int .i64 (readD d s off n).2])/\Sl w' 1 B (readD d s off n).1.length (bys (readD d s off n).1)/\(readD d s off n).1.length<=k:=by
 refine (F18.of (some ⟨db,0,none⟩) s off n w (Q:=fun v w'=>Fr (fun _=>False) w w'/\∃ B k,v=.tuple #[.slice B (readD d s off n).1.length k,.int .i64 (readD d s off n).2]/\Sl w' 1 B (readD d s off n).1.length (bys (readD d s off n).1)/\(readD d s off n).1.length<=k) ?_).mono (fun e w' ⟨v,he,hf,B,k,hv,h⟩=>⟨hf,B,k,by rw [he,hv],h⟩)
 have hll:=look_len hi s
 refine (look_calls db r d s w h hb hi hp).mono ?_
 rintro e w1 ⟨f1,B,k,rfl,hB,hk⟩
 refine ⟨B,_,k,_,rfl,?_⟩
 unfold readD
 generalize hL:lookD d s=L at hll hB hk ⊢
 obtain ⟨b,er⟩:=L
 have bad:∀ x:Int,Fr (fun _=>False) w w1/\∃ B' k',Value.tuple #[Value.slice none 0 0,Value.int .i64 x]=.tuple #[.slice B' ((([],x):Bs×Int)).1.length k',.int .i64 (([],x):Bs×Int).2]/\Sl w1 1 B' ((([],x):Bs×Int)).1.length (bys (([],x):Bs×Int).1)/\((([],x):Bs×Int)).1.length<=k':=fun x=>⟨f1,none,0,rfl,Sl.nil _ _ _,Nat.le_refl _⟩
 dsimp only at hll hB hk ⊢
 refine vIf_mk (fun he=>?_) (fun he=>?_)
 ·have he:¬ er=0:=by simpa using he
  rw [if_pos he]
  exact bad er
 ·have he:er=0:=by simpa using he
  rw [if_neg (by rw [he]; simp)]
  have ew:0<=off->off<=(b.length:Int)->IntKind.wrap .i64 (((b.length:Nat):Int) - off)=(b.length:Int) - off:=fun h1 h2=>i64_id (by omega) (by omega)
  refine vIf_mk (fun h1=>?_) (fun h1=>vIf_mk (fun h2=>?_) (fun h2=>vIf_mk (fun h3=>?_) (fun h3=>vIf_mk (fun h4=>?_) (fun h4=>jnC_mk (fun _=>?_)))))
  ·rw [if_pos (.inl (of_decide_eq_true h1))]; exact bad 20
  ·rw [if_pos (.inr (.inl (of_decide_eq_true h2)))]; exact bad 20
  ·rw [if_pos (.inr (.inr (.inl (of_decide_eq_true h3))))]; exact bad 20
  ·have h1:=of_decide_eq_false h1
   have h3:=of_decide_eq_false h3
   have h4:=of_decide_eq_true h4
   rw [ew (by omega) (by omega)] at h4
   rw [if_pos (.inr (.inr (.inr h4)))]; exact bad 20
  ·have h1:=of_decide_eq_false h1
   have h2:=of_decide_eq_false h2
   have h3:=of_decide_eq_false h3
   have h4:=of_decide_eq_false h4
   rw [ew (by omega) (by omega)] at h4
   rw [if_neg (fun h=>h.elim h1 (fun h=>h.elim h2 (fun h=>h.elim h3 h4)))]
   obtain ⟨o,rfl⟩:∃ o:Nat,off=(o:Int):=⟨off.toNat,by omega⟩
   obtain ⟨m,rfl⟩:∃ m:Nat,n=(m:Int):=⟨n.toNat,by omega⟩
   have e1:IntKind.wrap .i64 ((o:Int)+(m:Int))=((o+m:Nat):Int):=by rw [i64_id (by omega) (by omega)]; omega
   unfold F18.k6c
   dsimp only
   rw [e1]
   refine gd_mk (decide_eq_true (by omega)) (gd_mk (decide_eq_true (by omega)) (gd_mk (decide_eq_true (by omega)) (gd_mk (decide_eq_true (by omega)) (gd_mk (decide_eq_true (by omega)) (gd_mk (decide_eq_true (by omega)) ⟨f1,slA B (o+m) o 1,m,?_,?_,?_⟩)))))
   ·simp only [Int.toNat_natCast]
    have:((b.drop o).take m).length=m:=by rw [List.length_take,List.length_drop]; omega
    rw [this,Nat.add_sub_cancel_left]
   ·simp only [Int.toNat_natCast]
    have hl:((b.drop o).take m).length=m:=by rw [List.length_take,List.length_drop]; omega
    rw [hl]
    have e2:bys ((b.drop o).take m)=((bys b).drop o).take m:=by simp [bys,List.map_take,List.map_drop]
    rw [e2]
    refine ⟨by rw [<- e2,List.length_map,hl,Nat.mul_one],fun h0=>?_⟩
    obtain ⟨bb,oo,rfl,hc⟩:=hB.2 (by omega)
    refine ⟨bb,oo+o,?_,fun j v hj=>?_⟩
    ·unfold slA
     rw [if_neg (by omega),Option.map_some,add_none,Nat.mul_one]
    ·rw [List.getElem?_take] at hj
     split at hj
     ·rw [List.getElem?_drop] at hj
      rw [Nat.add_assoc]
      exact hc _ v hj
     ·cases hj
   ·simp only [Int.toNat_natCast]
    rw [List.length_take,List.length_drop]; omega
theorem NewO_calls [Ow] (lb lf:Int) (w:World) (ho:∀ k,w.heap.size<=k->Ow.O k) :
  Calls Tryz.prog 14 #[ofL [.int .i64 lb,.int .i64 lf]] w fun e w'=>Fr (fun _=>False) w w'/\∃ db r,e=.returned (.pointer (some ⟨db,0,none⟩))/\DkAt w' db r (newD lb lf)/\w.heap.size<=db/\w.heap.size<=r:=by
 refine (F14.of _ w (Q:=fun v w'=>Fr (fun _=>False) w w'/\∃ db r,v=.pointer (some ⟨db,0,none⟩)/\DkAt w' db r (newD lb lf)/\w.heap.size<=db/\w.heap.size<=r) ?_).mono (fun e w' ⟨v,he,hf,db,r,hv,h⟩=>⟨hf,db,r,by rw [he,hv],h⟩)
 refine rec_new (fun b1 w2 f1 hb1 r1=>⟨_,rfl,rec_all r1,mmk_mk (fun w5 hM f5 hs5=>gd_mk rfl (rec_new (fun b6 w7 f7 hb6 r6=>⟨(f1.trans1 f5).trans1 f7,b6,w2.heap.size,rfl,?_,?_,f1.size⟩)))⟩)
 ·have ho7:OkA w7 none 0:=⟨fun k hk=>ho k (Nat.le_trans ((f1.trans1 f5).trans1 f7).size hk),fun h0=>absurd rfl h0⟩
  refine ⟨.slice none 0 0,.slice none 0 0,false,0,r6,⟨none,0,0,none,0,0,rfl,⟨Sl.nil _ _ _,rfl⟩,⟨Sl.nil _ _ _,rfl⟩,Nat.le_refl _,ho7,ho7⟩,⟨_,hM.fr f7 (fun h=>h),fun id=>⟨ZI,rfl,zI_at ho7⟩⟩,rfl⟩
 ·have:=f1.size
  omega
end Go.Proofs.YtkfanhdicnjdlaaGreatDoor
namespace Go.GV
open Go Go.RowKit
structure RowW (w:World) (B:Nat) (e:TypeId) (sz:Nat) (z:List Value) (A:Option Addr) (n c:Nat) (vs:List Value):Prop where
 len:vs.length=n * sz
 le:n<=c
 at_:(A=none/\n=0/\c=0)\/∃ b,A=some ⟨b,0,none⟩/\B<=b/\w.heap[b]?=some (.cells (vs ++ zeros (c - n) z).toArray e (0,0))
end Go.GV
namespace Go.Proofs.YtkfanhdicnjdlaaGreatDoor
open Go.GV Go.RowKit Go.Lib
structure AlienI (w:World) (b:Nat):Prop where
 u:∀ o x,cellAt w b o ≠ some (.int .u8 x)
 t:∀ o t,cellAt w b o ≠ some (.bool t)
def KL (it:ByteArray) (id:Int) (l:List Nm):Prop:=findN it l=some id/\∀ x ∈ l,x.2=id->x.1=it
structure Kp (d:Dk) (it:ByteArray) (id:Int) (b:Bs):Prop where
 all:∀ i:Nat,i<=d.F.P.length->KL it id (behF d.F (i:Nat))
 file:d.f id=⟨b,[]⟩
 old:id<=d.last
theorem DkB.mono {d:Dk} {M N:Nat} (h:DkB d M) (hMN:M<=N):DkB d N :=
 ⟨by have:=h.fo; omega,fun id=>by have:=h.p id; omega,by have:=h.last; omega,by have:=h.calls; omega,h.fu,h.lb,h.lf⟩
theorem trim_p {F:Fo} {f:Int->Ino} {N:Nat} (h:∀ id,(f id).p.length<=N) (id:Int):(trim F f id).p.length<=N:=by
 unfold trim
 split
 ·exact h id
 ·exact Nat.zero_le _
theorem updF_p {f:Int->Ino} {N:Nat} (h:∀ id,(f id).p.length<=N) {k:Int} {x:Ino} (hx:x.p.length<=N) (id:Int):(updF f k x id).p.length<=N:=by
 unfold updF
 split
 ·exact hx
 ·exact h id
theorem crashS_p:∀ (l:List Int) (f:Int->Ino) (c:Bs) (N:Nat),(∀ id,(f id).p.length<=N)->∀ id,(crashS f l c id).p.length<=N
 | [],f,c,N,h,id=>h id
 | k :: l,f,c,N,h,id=>crashS_p l _ _ N (updF_p h (Nat.zero_le _)) id
theorem do_len (F:Fo) (c:Ch):(doF F c).L.length+(doF F c).P.length<=F.L.length+F.P.length+1:=by
 unfold doF
 split
 ·show F.L.length+(F.P ++ [c]).length<=_
  rw [List.length_append,List.length_singleton]; omega
 ·omega
theorem fu_map {o:Option Int} (h:∀ n,o=some n->n<=9223372036854775807):∀ n,o.map (· - 1)=some n->n<=9223372036854775807:=by
 intro n hn
 cases o with
 | none=>cases hn
 | some m =>
  simp only [Option.map_some,Option.some.injEq] at hn
  have:=h m rfl
  omega
structure UpB (d d':Dk):Prop where
 fo:d'.F.L.length+d'.F.P.length<=d.F.L.length+d.F.P.length+1
 p:∀ N,(∀ id,(d.f id).p.length<=N)->∀ id,(d'.f id).p.length<=N+1
 last:d.last<=d'.last/\d'.last<=d.last+1
 calls:d.calls<=d'.calls/\d'.calls<=d.calls+1
 lb:d'.lb=d.lb
 lf:d'.lf=d.lf
theorem UpB.dk {d d':Dk} {N:Nat} (u:UpB d d') (h:DkB d N) (hfu:∀ n,d'.fu=some n->n<=9223372036854775807):DkB d' (N+1) :=
 ⟨by have:=u.fo; have:=h.fo; omega,u.p N h.p,by have:=u.last; have:=h.last; omega,by have:=u.calls; have:=h.calls; omega,hfu,by rw [u.lb]; exact h.lb,by rw [u.lf]; exact h.lf⟩
theorem ch_up (d:Dk) (c:Ch):UpB d (chD d c).1:=⟨do_len _ _,fun N h id=>by have:=trim_p (F:=doF d.F c) h id; show (trim (doF d.F c) d.f id).p.length<=_; omega,⟨Int.le_refl _,by show d.last<=d.last+1; omega⟩,⟨Int.le_refl _,by show d.calls<=d.calls+1; omega⟩,rfl,rfl⟩
theorem up_refl (d:Dk):UpB d d:=⟨by omega,fun N h id=>by have:=h id; omega,⟨Int.le_refl _,by omega⟩,⟨Int.le_refl _,by omega⟩,rfl,rfl⟩
theorem cr_up (d:Dk) (s:ByteArray):UpB d (crD d s).1/\(crD d s).1.fu=d.fu/\(crD d s).1.calls=d.calls:=by
 unfold crD
 split
 ·exact ⟨up_refl d,rfl,rfl⟩
 ·split
  ·have h:=ch_up d ⟨1,s,⟨#[]⟩,d.last+1⟩
   exact ⟨⟨h.fo,h.p,⟨by show d.last<=d.last+1; omega,Int.le_refl _⟩,h.calls,rfl,rfl⟩,rfl,rfl⟩
  ·exact ⟨ch_up _ _,rfl,rfl⟩
theorem file_up (d:Dk) (s:ByteArray) (g:Ino->Ino×Int) (hg:∀ x,(g x).1.p.length<=x.p.length+1):UpB d (fileD d s g).1/\(fileD d s g).1.fu=d.fu/\(fileD d s g).1.calls=d.calls:=by
 unfold fileD
 split
 ·exact ⟨up_refl d,rfl,rfl⟩
 ·rename_i id _
  split
  ·exact ⟨up_refl d,rfl,rfl⟩
  ·split
   ·exact ⟨up_refl d,rfl,rfl⟩
   ·refine ⟨⟨by show d.F.L.length+d.F.P.length<=_; omega,fun N h k=>?_,⟨Int.le_refl _,by show d.last<=d.last+1; omega⟩,⟨Int.le_refl _,by show d.calls<=d.calls+1; omega⟩,rfl,rfl⟩,rfl,rfl⟩
    refine updF_p (fun k=>by have:=h k; omega) ?_ k
    have:=hg (d.f id)
    have:=h id
    omega
theorem sd_up (d:Dk):UpB d (sdD d).1:=by
 refine ⟨?_,fun N h id=>by have:=trim_p (F:=⟨nowF d.F,[]⟩) h id; show (trim ⟨nowF d.F,[]⟩ d.f id).p.length<=_; omega,⟨Int.le_refl _,by show d.last<=d.last+1; omega⟩,⟨Int.le_refl _,by show d.calls<=d.calls+1; omega⟩,rfl,rfl⟩
 have:=nowF_len d.F
 show (nowF d.F).length+0<=_
 omega
theorem crash_up (d:Dk) (c:Bs):UpB d (crashD d c):=by
 refine ⟨?_,fun N h id=>?_,⟨Int.le_refl _,by show d.last<=d.last+1; omega⟩,⟨Int.le_refl _,by show d.calls<=d.calls+1; omega⟩,rfl,rfl⟩
 ·have:=behF_len d.F (headC c)
  show (behF d.F (headC c)).length+0<=_
  omega
 ·have:=trim_p (F:=⟨behF d.F (headC c),[]⟩) (crashS_p (idsF d.F) d.f c.tail N h) id
  show (trim ⟨behF d.F (headC c),[]⟩ (crashS d.f (idsF d.F) c.tail) id).p.length<=_
  omega
theorem pow_B {d:Dk} {N:Nat} {call:Dk->Dk×Int} (h:DkB d N) (hc:∀ d',UpB d' (call d').1/\(call d').1.fu=d'.fu/\(call d').1.calls=d'.calls):DkB (powD d call).1 (N+1):=by
 unfold powD
 split
 ·have h':=h.mono (Nat.le_succ N)
  exact ⟨h'.fo,h'.p,h'.last,h'.calls,h'.fu,h'.lb,h'.lf⟩
 ·obtain ⟨u,e1,e2⟩:=hc { d with fu:=d.fu.map (· - 1),calls:=d.calls+1 }
  have hcl:=h.calls
  refine ⟨Nat.le_trans u.fo (by have:=h.fo; show d.F.L.length+d.F.P.length+1<=_; omega),u.p N h.p,?_,?_,?_,?_,?_⟩
  ·have:=u.last
   have hl:=h.last
   have e3:({ d with fu:=d.fu.map (· - 1),calls:=d.calls+1 }:Dk).last=d.last:=rfl
   rw [e3] at this
   omega
  ·rw [e2]
   show 0<=d.calls+1/\d.calls+1<=_
   omega
  ·rw [e1]; exact fu_map h.fu
  ·rw [u.lb]; exact h.lb
  ·rw [u.lf]; exact h.lf
theorem do_B {d:Dk} {N:Nat} (h:DkB d N) (c:Cl) (hn:c.n<=9223372036854775807):DkB (doD d c).1 (N+1):=by
 unfold doD
 split
 ·exact pow_B h (fun d'=>cr_up d' _)
 split
 ·exact pow_B h (fun d'=>file_up d' _ _ (fun x=>app_p x _))
 split
 ·exact pow_B h (fun d'=>file_up d' _ _ (fun x=>cut_p x _))
 split
 ·exact pow_B h (fun d'=>file_up d' _ _ (fun x=>Nat.zero_le _))
 split
 ·exact pow_B h (fun d'=>⟨ch_up d' _,rfl,rfl⟩)
 split
 ·exact pow_B h (fun d'=>⟨ch_up d' _,rfl,rfl⟩)
 split
 ·exact pow_B h (fun d'=>⟨sd_up d',rfl,rfl⟩)
 split
 ·have h':=h.mono (Nat.le_succ N)
  refine ⟨h'.fo,h'.p,h'.last,h'.calls,fun n hn'=>?_,h'.lb,h'.lf⟩
  have hn':(if c.n >= 0 then some c.n else none)=some n:=hn'
  split at hn'
  ·injection hn' with hn'; omega
  ·cases hn'
 split
 ·exact (crash_up d c.data).dk h (fun n hn=>by cases hn)
 ·exact h.mono (Nat.le_succ N)
theorem new_B (lb lf:Int) (h1:lb<=9223372036854775807) (h2:lf<=9223372036854775807):DkB (newD lb lf) 0 :=
 ⟨Nat.le_refl _,fun id=>Nat.le_refl _,⟨Int.le_refl _,Int.le_refl _⟩,⟨Int.le_refl _,by show (0:Int)<=((0:Nat):Int) * 1000000+1000000; omega⟩,(fun n hn=>by cases hn),h1,h2⟩
def sA:ByteArray:=⟨#[97]⟩
theorem pow_on {d:Dk} (h1:d.down=false) (h2:d.fu=none) (call:Dk->Dk×Int):powD d call=call { d with fu:=none,calls:=d.calls+1 }:=by
 have ho:offD d=false:=by unfold offD; rw [h1,h2]; rfl
 unfold powD
 rw [if_neg (by rw [ho]; simp),h2]; rfl
theorem file_ok {d:Dk} {s:ByteArray} {id:Int} {g:Ino->Ino×Int} (hf:findN s (nowF d.F)=some id) (h0:(g (d.f id)).2=0) (hr:¬ (roomI (g (d.f id)).1 > roomI (d.f id)/\takenF d.F (updF d.f id (g (d.f id)).1) > d.lb)):fileD d s g=({ d with f:=updF d.f id (g (d.f id)).1 },0):=by
 unfold fileD
 rw [hf]
 dsimp only
 rw [if_neg (by rw [h0]; simp),if_neg hr]
def cA:Ch:=⟨1,sA,⟨#[]⟩,1⟩
def FA:Fo:=⟨[],[cA]⟩
def XA:Ino:=⟨[],[⟨false,0,[120,121]⟩]⟩
noncomputable def D1:Dk:={ newD 100 4 with F:=FA,f:=trim FA (newD 100 4).f,last:=1,calls:=1 }
noncomputable def D2:Dk:={ D1 with f:=updF D1.f 1 XA,calls:=2 }
theorem fA:findN sA (nowF FA)=some 1:=by decide
theorem iA:idsF FA=[1]:=by decide
theorem tk1 {F:Fo} (h:idsF F=[1]) (f:Int->Ino):takenF F f=roomI (f 1):=by unfold takenF; rw [h]; simp
theorem D1f:D1.f 1=zI:=by show trim FA (newD 100 4).f 1=_; unfold trim; split <;> rfl
theorem upd1 (f:Int->Ino) (x:Ino):updF f 1 x 1=x:=by unfold updF; rw [if_pos rfl]
theorem lv2:powD D1 (fun d=>fileD d sA (fun x=>appI x [120,121]))=(D2,0):=by
 rw [pow_on rfl rfl]
 have e:appI zI [120,121]=(XA,0):=rfl
 have h:=file_ok (d:={ D1 with fu:=none,calls:=D1.calls+1 }) (s:=sA) (id:=1) (g:=fun x=>appI x [120,121]) fA (by show (appI (D1.f 1) [120,121]).2=0; rw [D1f,e]) (by
  show ¬ (roomI (appI (D1.f 1) [120,121]).1 > roomI (D1.f 1)/\takenF FA (updF D1.f 1 (appI (D1.f 1) [120,121]).1) > 100)
  rw [tk1 iA,upd1,D1f,e]; decide)
 rw [h]
 show (({ D1 with f:=updF D1.f 1 (appI (D1.f 1) [120,121]).1,calls:=1+1 }:Dk),(0:Int))=_
 rw [D1f,e]; rfl
structure ClB (c:Cl):Prop where
 nm:c.nm.size<=1099511627775
 «to»:c.to.size<=1099511627775
 data:c.data.length<=1099511627775
 n : -9223372036854775808<=c.n/\c.n<=9223372036854775807
theorem doD1 (d:Dk) (s:ByteArray):doD d ⟨1,s,⟨#[]⟩,[],0⟩=powD d (fun d=>crD d s):=by unfold doD; rw [if_pos rfl]
theorem doD2 (d:Dk) (s:ByteArray) (b:Bs):doD d ⟨2,s,⟨#[]⟩,b,0⟩=powD d (fun d=>fileD d s (fun x=>appI x b)):=by unfold doD; rw [if_neg (by show ¬ (2:Int)=1; decide),if_pos rfl]
theorem doD4 (d:Dk) (s:ByteArray):doD d ⟨4,s,⟨#[]⟩,[],0⟩=powD d (fun d=>fileD d s (fun x=>(syncI x,0))):=by
 unfold doD
 rw [if_neg (by show ¬ (4:Int)=1; decide),if_neg (by show ¬ (4:Int)=2; decide),if_neg (by show ¬ (4:Int)=3; decide),if_pos rfl]
theorem doD7 (d:Dk):doD d ⟨7,⟨#[]⟩,⟨#[]⟩,[],0⟩=powD d sdD:=by
 unfold doD
 rw [if_neg (by show ¬ (7:Int)=1; decide),if_neg (by show ¬ (7:Int)=2; decide),if_neg (by show ¬ (7:Int)=3; decide),if_neg (by show ¬ (7:Int)=4; decide),if_neg (by show ¬ (7:Int)=5; decide),if_neg (by show ¬ (7:Int)=6; decide),if_pos rfl]
structure DkG (d:Dk) (N:Nat):Prop where
 i:DkI d
 b:DkB d N
theorem DkG.step {d d':Dk} {N:Nat} {v:Int} {c:Cl} (h:DkG d N) (hn:c.n<=9223372036854775807) (e:doD d c=(d',v)):DkG d' (N+1):=by
 have h1:=(do_I h.i h.b.last.1 c).1
 have h2:=do_B h.b c hn
 rw [e] at h1 h2
 exact ⟨h1,h2⟩
theorem DkG.p {d:Dk} {N:Nat} (h:DkG d N) (hN:N<=349525) (id:Int):(d.f id).p.length<=1099511627775:=by have:=h.b.p id; omega
theorem DkG.fo {d:Dk} {N:Nat} (h:DkG d N) (hN:N<=349525):FoB d.F:=by have:=h.b.fo; unfold FoB; omega
end Go.Proofs.YtkfanhdicnjdlaaGreatDoor
namespace Go.Proofs.YtkfanhdicnjdlaaGreatDoor
open Go.GV
def leB (n:Nat):Nat->List UInt8
 | 0=>[]
 | k+1=>UInt8.ofNat (n % 256) :: leB (n / 256) k
def leT:List UInt8->Nat
 | []=>0
 | c :: r=>c.toNat+256 * leT r
theorem leB_len:∀ (k n:Nat),(leB n k).length=k
 | 0,n=>rfl
 | k+1,n=>by rw [leB,List.length_cons,leB_len k]
theorem u8n (n:Nat):(UInt8.ofNat (n % 256)).toNat=n % 256:=by simp
theorem u8n' {n:Nat} (h:n < 256):(UInt8.ofNat n).toNat=n:=by simp; omega
theorem leT_lt:∀ b:List UInt8,leT b < 256 ^ b.length
 | []=>by simp [leT]
 | c :: r=>by
  have h:=leT_lt r
  have hc:c.toNat < 256:=c.toNat_lt
  rw [leT,List.length_cons,Nat.pow_succ]
  omega
theorem leT_leB:∀ (k n:Nat),leT (leB n k)=n % 256 ^ k
 | 0,n=>by simp [leB,leT,Nat.mod_one]
 | k+1,n=>by
  rw [leB,leT,leT_leB k,u8n,Nat.pow_succ,Nat.mul_comm (256 ^ k) 256,Nat.mod_mul]
theorem leB_snoc:∀ (k n:Nat),leB n (k+1)=leB n k ++ [UInt8.ofNat (n / 256 ^ k % 256)]
 | 0,n=>by simp [leB]
 | k+1,n=>by
  rw [leB,leB_snoc k,leB]
  rw [List.cons_append,Nat.div_div_eq_div_mul,Nat.pow_succ,Nat.mul_comm (256 ^ k)]
theorem leT_app:∀ a b:List UInt8,leT (a ++ b)=leT a+256 ^ a.length * leT b
 | [],b=>by simp [leT]
 | c :: a,b=>by
  rw [List.cons_append,leT,leT,leT_app a b,List.length_cons,Nat.pow_succ]
  rw [Nat.mul_add,<- Nat.mul_assoc,Nat.mul_comm 256 (256 ^ a.length)]; omega
def crP:BitVec 32:=0x82f63b78#32
def crF (x:BitVec 32):BitVec 32:=(x >>> 1) ^^^ (if x.getLsbD 0 then crP else 0#32)
def crF4 (x:BitVec 32):BitVec 32:=crF (crF (crF (crF x)))
def nibS (x n:BitVec 32):BitVec 32:=((x >>> 4) ^^^ crF4 ((x ^^^ n) &&& 15#32))
def byteS (x:BitVec 32) (c:UInt8):BitVec 32:=nibS (nibS x (BitVec.ofNat 32 (c.toNat % 16))) (BitVec.ofNat 32 (c.toNat / 16))
def crcS (b:List UInt8):BitVec 32 := ~~~ (b.foldl byteS (~~~ 0#32))
end Go.Proofs.YtkfanhdicnjdlaaGreatDoor
namespace Go.Proofs.YtkfanhdicnjdlaaGreatDoor
open Go.GV Go.RowKit
theorem le_e1 (i:Nat) (h:i < 1099511627776):IntKind.wrap .i64 ((i:Int)+1)=((i+1:Nat):Int):=by rw [i64_id (by omega) (by omega)]; rfl
theorem u64_id {n:Int} (h1:0<=n) (h2:n < 18446744073709551616):IntKind.wrap .u64 n=n:=by
 rw [IntKind.wrap_u64]; omega
theorem le_get {w:World} {A:Option Addr} {n:Nat} {l:List UInt8} (h:Sl w 1 A n (l.map bv)) {i:Nat} (hi:i < n) (hl:i < l.length):∃ b o,A=some ⟨b,o,none⟩/\cellAt w b (o+i * 1)=some (.int .u8 (l[i].toNat:Int)) :=
 h.get hi (v:=bv l[i]) (by rw [List.getElem?_map,List.getElem?_eq_getElem hl]; rfl)
theorem sl_len {w:World} {A:Option Addr} {n:Nat} {l:List UInt8} (h:Sl w 1 A n (l.map bv)):l.length=n:=by simpa using h.1
theorem sl_drop {w:World} {A:Option Addr} {n c k:Nat} {l:List UInt8} (h:Sl w 1 A n (l.map bv)) (hk:k<=n) (hc:n<=c):Sl w 1 (slA A c k 1) (n - k) ((l.drop k).map bv):=by
 have hl:=sl_len h
 refine ⟨by simp [hl],fun h0=>?_⟩
 obtain ⟨b,o,hA,hcs⟩:=h.2 (by omega)
 subst hA
 refine ⟨b,o+k,?_,fun j v hv=>?_⟩
 ·unfold slA
  rw [if_neg (by omega)]
  simp [Addr.add]
 ·rw [List.getElem?_map,List.getElem?_drop,<- List.getElem?_map] at hv
  rw [show o+k+j=o+(k+j) by omega]
  exact hcs _ _ hv
theorem sl_take {w:World} {A:Option Addr} {n k:Nat} {l:List UInt8} (h:Sl w 1 A n (l.map bv)) (hk:k<=n):Sl w 1 A k ((l.take k).map bv):=by
 have hl:=sl_len h
 refine ⟨by simp [hl]; omega,fun h0=>?_⟩
 obtain ⟨b,o,hA,hcs⟩:=h.2 (by omega)
 refine ⟨b,o,hA,fun j v hv=>hcs j v ?_⟩
 rw [List.map_take,List.getElem?_take] at hv
 split at hv
 ·exact hv
 ·cases hv
abbrev okT (n:Nat) (at_ size:Int):Prop:=1<=size/\size<=8/\0<=at_/\at_+size<=(n:Int)
def tkN (b:List UInt8) (at_ size:Int):Nat:=if okT b.length at_ size then leT ((b.drop at_.toNat).take size.toNat) else 0
theorem leT_take (b:List UInt8) (i:Nat) (h:i < b.length):leT (b.take (i+1))=leT (b.take i)+256 ^ i * b[i].toNat:=by
 rw [List.take_add_one,List.getElem?_eq_getElem h,leT_app,List.length_take,Nat.min_eq_left (by omega)]
 simp [leT]
theorem or_add {k a x:Nat} (ha:a < 2 ^ k) (hx:a+2 ^ k * x < 2 ^ 64):iOr .u64 (a:Int) (IntKind.wrap .u64 ((x:Int) * 2 ^ k))=((a+2 ^ k * x:Nat):Int):=by
 have h1:IntKind.wrap .u64 ((x:Int) * 2 ^ k)=((2 ^ k * x:Nat):Int):=by
  have e:(x:Int) * 2 ^ k=((2 ^ k * x:Nat):Int):=by push_cast; rw [Int.mul_comm]
  rw [e]
  exact u64_id (by omega) (by have:(2:Nat)^64=18446744073709551616:=rfl; omega)
 rw [h1]
 unfold iOr
 show IntKind.wrap .u64 (((BitVec.ofInt 64 (a:Int) ||| BitVec.ofInt 64 ((2 ^ k * x:Nat):Int)).toNat:Nat):Int)=_
 have ea:BitVec.ofInt 64 (a:Int)=BitVec.ofNat 64 a:=by simp
 have eb:BitVec.ofInt 64 ((2 ^ k * x:Nat):Int)=BitVec.ofNat 64 (2 ^ k * x):=by
  apply BitVec.eq_of_toNat_eq
  rw [BitVec.toNat_ofInt,BitVec.toNat_ofNat]; omega
 rw [ea,eb,BitVec.toNat_or,BitVec.toNat_ofNat,BitVec.toNat_ofNat,Nat.mod_eq_of_lt (by omega),Nat.mod_eq_of_lt (by omega),Nat.or_comm,<- Nat.two_pow_add_eq_or_of_lt ha]
 rw [u64_id (by omega) (by have:(2:Nat)^64=18446744073709551616:=rfl; omega)]
 congr 1; omega
theorem pow8 (i:Nat):(256:Nat) ^ i=2 ^ (8 * i):=by rw [show (256:Nat)=2 ^ 8 from rfl,<- Nat.pow_mul]
theorem has_calls (A:Option Addr) (n c:Nat) (at_ size:Int) (w:World) (hn:n<=1099511627776) :
  Calls Tryz.prog 66 #[.slice A n c,.int .i64 at_,.int .i64 size] w fun e w'=>e=.returned (.bool (decide (0<=at_/\at_<=(n:Int)/\size<=(n:Int) - at_)))/\w'=w:=by
 refine (F66.of A n c at_ size w (Q:=fun v w'=>v=.bool (decide (0<=at_/\at_<=(n:Int)/\size<=(n:Int) - at_))/\w'=w) ?_).mono (fun e w' ⟨v,he,hv,h⟩=>⟨by rw [he,hv],h⟩)
 refine vIf_mk (fun h1=>vIf_mk (fun h2=>⟨?_,rfl⟩) (fun h2=>⟨?_,rfl⟩)) (fun h1=>⟨?_,rfl⟩)
 ·have h1:at_ >= 0:=of_decide_eq_true h1
  have h2:at_<=(n:Int):=of_decide_eq_true h2
  rw [i64_id (by omega) (by omega)]
  congr 1
  exact decide_eq_decide.2 ⟨fun h=>⟨h1,h2,h⟩,fun h=>h.2.2⟩
 ·have h2:¬ at_<=(n:Int):=of_decide_eq_false h2
  rw [decide_eq_false (fun h=>h2 h.2.1)]
 ·have h1:¬ at_ >= 0:=of_decide_eq_false h1
  rw [decide_eq_false (fun h=>h1 h.1)]
theorem tkN_no {b:List UInt8} {at_ size:Int} (h:¬ okT b.length at_ size):tkN b at_ size=0:=if_neg h
theorem ndt {p:Prop} [Decidable p] (h:(!decide p)=true):¬ p:=by simpa using h
theorem ndf {p:Prop} [Decidable p] (h:(!decide p)=false):p:=by simpa using h
set_option maxHeartbeats 1000000 in
theorem take_calls (A:Option Addr) (n c:Nat) (b:List UInt8) (at_ size:Int) (w:World) (h:Sl w 1 A n (b.map bv)) (hn:n<=1099511627776) :
  Calls Tryz.prog 64 #[.slice A n c,.int .i64 at_,.int .i64 size] w fun e w'=>e=.returned (.tuple #[.int .u64 (tkN b at_ size:Nat),.bool (decide (okT n at_ size))])/\w'=w:=by
 have hl:=sl_len h
 refine (F64.of A n c at_ size w (Q:=fun v w'=>v=.tuple #[.int .u64 (tkN b at_ size:Nat),.bool (decide (okT n at_ size))]/\w'=w) ?_).mono (fun e w' ⟨v,he,hv,h⟩=>⟨by rw [he,hv],h⟩)
 have no:¬ okT n at_ size->Value.tuple #[.int .u64 0,.bool false]=.tuple #[.int .u64 (tkN b at_ size:Nat),.bool (decide (okT n at_ size))]:=fun h=>by
  rw [tkN_no (by rw [hl]; exact h),decide_eq_false h]; rfl
 refine vIf_mk (fun h1=>⟨no ?_,rfl⟩) (fun h1=>vIf_mk (fun h2=>⟨no ?_,rfl⟩) (fun h2=>?_))
 ·have h1:size < 1:=of_decide_eq_true h1
  exact fun h=>by have:=h.1; omega
 ·have h2:size > 8:=of_decide_eq_true h2
  exact fun h=>by have:=h.2.1; omega
 ·have h1:¬ size < 1:=of_decide_eq_false h1
  have h2:¬ size > 8:=of_decide_eq_false h2
  refine (has_calls A n c at_ size w hn).mono ?_
  rintro e u ⟨rfl,rfl⟩
  refine ⟨_,rfl,vIf_mk (fun h3=>⟨no ?_,rfl⟩) (fun h3=>jnC_mk (fun _=>?_))⟩
  ·exact fun h=>ndt h3 ⟨h.2.2.1,by omega,by omega⟩
  ·obtain ⟨h4,h5,h6⟩:=ndf h3
   have hok:okT n at_ size:=⟨by omega,by omega,h4,by omega⟩
   obtain ⟨a,rfl⟩:∃ a:Nat,at_=(a:Int):=⟨at_.toNat,by omega⟩
   obtain ⟨z,rfl⟩:∃ z:Nat,size=(z:Int):=⟨size.toNat,by omega⟩
   have hok':=hok
   obtain ⟨o1,o2,o3,o4⟩:=hok'
   have hdl:z<=(b.drop a).length:=by rw [List.length_drop]; omega
   have htk:tkN b (a:Int) (z:Int)=leT ((b.drop a).take z):=by
    unfold tkN
    rw [if_pos (by rw [hl]; exact hok)]; rfl
   refine jnC_mk (loop_rule (fun s x=>x=u/\∃ i:Nat,i<=z/\s=((A,n,c),(a:Int),((leT ((b.drop a).take i):Nat):Int),(z:Int),(i:Int),())) (fun s _=>(z - s.2.2.2.2.1).toNat) ?_ _ _ ⟨rfl,0,by omega,by simp [leT]⟩)
   rintro s x C ⟨rfl,i,hi,rfl⟩ hC _
   refine vIf_mk (fun hlt=>?_) (fun hge=>?_)
   ·have hlt:(i:Int) < (z:Int):=of_decide_eq_true hlt
    obtain ⟨b',o',hA,hc⟩:=le_get h (i:=a+i) (by omega) (by omega)
    subst hA
    have ew:IntKind.wrap .i64 ((a:Int)+(i:Int))=((a+i:Nat):Int):=by rw [i64_id (by omega) (by omega)]; rfl
    have e8:IntKind.wrap .i64 (8 * (i:Int))=((8 * i:Nat):Int):=by rw [i64_id (by omega) (by omega)]; rfl
    have hbl:b[a+i].toNat < 256:=b[a+i].toNat_lt
    have hlt':i < (b.drop a).length:=by omega
    have hgd:(b.drop a)[i]=b[a+i]:=by simp
    have hlow:leT ((b.drop a).take i) < 2 ^ (8 * i):=by
     have:=leT_lt ((b.drop a).take i)
     rw [List.length_take,Nat.min_eq_left (by omega),pow8] at this
     exact this
    have hup:leT ((b.drop a).take (i+1)) < 2 ^ 64:=by
     have:=leT_lt ((b.drop a).take (i+1))
     rw [List.length_take,Nat.min_eq_left (by omega),pow8] at this
     exact Nat.lt_of_lt_of_le this (Nat.pow_le_pow_right (by omega) (by omega))
    have hst:=leT_take (b.drop a) i hlt'
    rw [hgd,pow8] at hst
    refine dr_mk (gd_mk (decide_eq_true (by rw [ew]; omega)) (gd_mk (decide_eq_true (by rw [ew]; show ((a+i:Nat):Int) < (n:Int); omega)) ⟨_,by rw [ew]; exact hc,gd_mk (decide_eq_true (by rw [e8]; omega)) (jnC_mk (hC _ _ ⟨rfl,i+1,by omega,?_⟩ ?_))⟩))
    ·rw [e8,le_e1 i (by omega),u64_id (n:=(b[a+i].toNat:Int)) (by omega) (by omega)]
     show ((_,n,c),(a:Int),iOr .u64 _ (IntKind.wrap .u64 ((b[a+i].toNat:Int) * 2 ^ (min ((8 * i:Nat):Int).toNat 64))),(z:Int),((i+1:Nat):Int),())=_
     rw [Int.toNat_natCast,Nat.min_eq_left (by omega),or_add hlow (by rw [<- hst]; exact hup),<- hst]
    ·show ((z:Int) - IntKind.wrap .i64 ((i:Int)+1)).toNat < ((z:Int) - (i:Int)).toNat
     rw [le_e1 i (by omega)]; omega
   ·have hge:¬ (i:Int) < (z:Int):=of_decide_eq_false hge
    obtain rfl:i=z:=by omega
    rw [htk,decide_eq_true hok]
    exact ⟨rfl,rfl⟩
abbrev RB (w0 w:World) (A:Option Addr) (n c:Nat) (l:List UInt8):Prop:=Fr (fun _=>False) w0 w/\Row w w0.heap.size 5 1 A n c (l.map bv)
theorem RB.nil (w:World):RB w w none 0 0 []:=⟨Fr.refl _ _,Row.nil _ _ _ _⟩
theorem RB.len {w0 w:World} {A:Option Addr} {n c:Nat} {l:List UInt8} (h:RB w0 w A n c l):l.length=n:=by have:=h.2.len; simpa using this
theorem RB.sl {w0 w:World} {A:Option Addr} {n c:Nat} {l:List UInt8} (h:RB w0 w A n c l):Sl w 1 A n (l.map bv):=h.2.sl
theorem RB.fr {w0 w w':World} {A:Option Addr} {n c:Nat} {l:List UInt8} (h:RB w0 w A n c l) (f:Fr (fun _=>False) w w'):RB w0 w' A n c l:=⟨h.1.trans1 f,f.row h.2 (fun _ _ h=>h)⟩
theorem RB.le {w0 w w1:World} {A:Option Addr} {n c:Nat} {l:List UInt8} (h:RB w w1 A n c l) (f:Fr (fun _=>False) w0 w):RB w0 w1 A n c l:=by
 refine ⟨f.trans1 h.1,h.2.len,h.2.le,h.2.at_.elim .inl (fun ⟨b,cs,h1,h2,h3⟩=>.inr ⟨b,cs,h1,?_,h3⟩)⟩
 have:=f.size; omega
theorem appB_mk {w0 w:World} {A A2:Option Addr} {n c m c2:Nat} {l l2:List UInt8} {K:Option Addr->Nat->Nat->World->Prop} (h:RB w0 w A n c l) (hx:Sl w 1 A2 m (l2.map bv)) (hm:n+m<=1099511627776)
  (hK:∀ A' c' w',RB w0 w' A' (n+m) c' (l ++ l2)->K A' (n+m) c' w'):app w 1 1 [Value.int .u8 0] 5 A n c (.slice A2 m c2) K:=by
 refine app_row h.2 hx.src (bvs_one l2) rfl (by show (n+m) * 1<=_; omega) (by omega) h.1.size (fun A' c' w' hr f=>hK A' c' w' ⟨h.1.trans f (fun _ _ h=>h) (fun k hk hb=>by have:=(h.2.blt hb).1; omega),?_⟩)
 rw [List.map_append]; exact hr
theorem RB.alloc {w0 w:World} {A:Option Addr} {n c:Nat} {l:List UInt8} (h:RB w0 w A n c l) (o:Obj):RB w0 (w.alloc o) A n c l:=h.fr (Fr.alloc _ _ _)
theorem push_mk {w0 w:World} {A:Option Addr} {n c:Nat} {l:List UInt8} {x:UInt8} {K:Option Addr->Nat->Nat->World->Prop} (h:RB w0 w A n c l) (hm:n < 1099511627776)
  (hK:∀ A' c' w',RB w0 w' A' (n+1) c' (l ++ [x])->K A' (n+1) c' w'):nw w ([bv x] ++ []) 5 fun b w1=>app w1 1 1 [Value.int .u8 0] 5 A n c (.slice (some ⟨b,0,none⟩) 1 1) K:=by
 refine nw_mk (appB_mk (l2:=[x]) (h.alloc _) ?_ (by omega) hK)
 exact (Row.new (sz:=1) (n:=1) (B:=0) (Nat.zero_le _) rfl).sl
theorem leB_take (n:Nat):∀ k,leB n (k+1)=leB n k ++ [UInt8.ofNat (n / 256 ^ k % 256)]:=fun k=>leB_snoc k n
theorem bv_nat {n:Nat} (h:n < 256):Value.int .u8 (n:Int)=bv (UInt8.ofNat n):=by unfold bv; rw [u8n' h]
def txP (b:List UInt8) (at_:Int):Option (List UInt8×Int) :=
 if okT b.length at_ 1/\at_+1+(tkN b at_ 1:Int)<=(b.length:Int) then some ((b.drop (at_.toNat+1)).take (tkN b at_ 1),at_+1+(tkN b at_ 1:Int)) else none
def txV:Option (List UInt8×Int)->Value
 | some (t,e)=>.tuple #[.string ⟨t.toArray⟩,.int .i64 e,.bool true]
 | none=>.tuple #[.string (⟨#[]⟩:ByteArray),.int .i64 0,.bool false]
theorem tkOne {b:List UInt8} {a:Nat} (h:a < b.length):tkN b (a:Int) 1=b[a].toNat:=by
 unfold tkN
 rw [if_pos ⟨by omega,by omega,by omega,by omega⟩]
 show leT ((b.drop a).take 1)=_
 rw [List.drop_eq_getElem_cons h,List.take_succ_cons,List.take_zero]
 show b[a].toNat+256 * 0=_
 omega
theorem tkOne_lt (b:List UInt8) (at_:Int):tkN b at_ 1 < 256:=by
 by_cases h:okT b.length at_ 1
 ·obtain ⟨a,rfl⟩:∃ a:Nat,at_=(a:Int):=⟨at_.toNat,by have:=h.2.2.1; omega⟩
  rw [tkOne (by have:=h.2.2.2; omega)]
  exact UInt8.toNat_lt _
 ·rw [tkN_no h]; omega
set_option maxHeartbeats 1000000 in
theorem text_calls (A:Option Addr) (n c:Nat) (b:List UInt8) (at_:Int) (w:World) (h:Sl w 1 A n (b.map bv)) (hc:n<=c) (hn:n<=1099511627776) (ha : -9223372036854775808<=at_/\at_<=9223372036854775807) :
  Calls Tryz.prog 41 #[.slice A n c,.int .i64 at_] w fun e w'=>e=.returned (txV (txP b at_))/\w'=w:=by
 have hl:=sl_len h
 refine (F41.of A n c at_ w (Q:=fun v w'=>v=txV (txP b at_)/\w'=w) ?_).mono (fun e w' ⟨v,he,hv,h⟩=>⟨by rw [he,hv],h⟩)
 refine (take_calls A n c b at_ 1 w h hn).mono ?_
 rintro e u ⟨rfl,rfl⟩
 refine ⟨_,_,rfl,vIf_mk (fun h1=>jnC_mk (fun _=>vIf_t rfl ⟨?_,rfl⟩)) (fun h1=>?_)⟩
 ·unfold txP
  rw [if_neg (fun h=>ndt h1 (by rw [<- hl]; exact h.1))]; rfl
 ·have hok:=ndf h1
  obtain ⟨a,rfl⟩:∃ a:Nat,at_=(a:Int):=⟨at_.toNat,by have:=hok.2.2.1; omega⟩
  have hlt:a < n:=by have:=hok.2.2.2; omega
  have hb:=tkOne_lt b (a:Int)
  have e1:IntKind.wrap .i64 ((a:Int)+1)=((a+1:Nat):Int):=le_e1 a (by omega)
  have e2:IntKind.wrap .i64 ((tkN b (a:Int) 1:Nat):Int)=((tkN b (a:Int) 1:Nat):Int):=i64_id (by omega) (by omega)
  have e3:IntKind.wrap .i64 (((a+1:Nat):Int)+((tkN b (a:Int) 1:Nat):Int))=((a+1+tkN b (a:Int) 1:Nat):Int):=by rw [i64_id (by omega) (by omega)]; omega
  rw [e1,e2]
  refine (has_calls A n c _ _ u hn).mono ?_
  rintro e v ⟨rfl,rfl⟩
  refine ⟨_,rfl,jnC_mk (fun _=>vIf_mk (fun h2=>⟨?_,rfl⟩) (fun h2=>jnC_mk (fun _=>?_)))⟩
  ·unfold txP
   rw [if_neg (fun h=>ndt h2 ⟨by omega,by omega,by have:=h.2; omega⟩)]; rfl
  ·obtain ⟨_,h3,h4⟩:=ndf h2
   have hle:a+1+tkN b (a:Int) 1<=n:=by omega
   show gd (decide (0<=IntKind.wrap .i64 (IntKind.wrap .i64 ((a:Int)+1)+IntKind.wrap .i64 ((tkN b (a:Int) 1:Nat):Int)))) _
   unfold F41.k4c at *
   dsimp only
   rw [e1,e2,e3]
   refine gd_mk (decide_eq_true (by omega)) (gd_mk (decide_eq_true (by omega)) (gd_mk (decide_eq_true (by omega)) (gd_mk (decide_eq_true (by omega)) ?_)))
   rw [Int.toNat_natCast,Int.toNat_natCast,show a+1+tkN b (a:Int) 1 - (a+1)=tkN b (a:Int) 1 by omega]
   refine b2s_sl (l:=(b.drop (a+1)).take (tkN b (a:Int) 1)) (sl_take (sl_drop h (by omega) hc) (by omega)) ⟨?_,rfl⟩
   unfold txP
   rw [if_pos ⟨by rw [hl]; exact hok,by rw [hl]; omega⟩]
   show Value.tuple #[_,.int .i64 ((a+1+tkN b (a:Int) 1:Nat):Int),_]=Value.tuple #[_,.int .i64 ((a:Int)+1+(tkN b (a:Int) 1:Int)),_]
   congr 4
def cv (x:BitVec 32):Value:=.int .u32 (x.toNat:Int)
theorem u32_id {n:Int} (h1:0<=n) (h2:n < 4294967296):IntKind.wrap .u32 n=n:=by
 rw [IntKind.wrap_u32]; omega
theorem cofInt (x:BitVec 32):BitVec.ofInt 32 (x.toNat:Int)=x:=by
 apply BitVec.eq_of_toNat_eq
 have:=x.isLt
 simp
theorem c_xor (a b:BitVec 32):iXor .u32 (a.toNat:Int) (b.toNat:Int)=((a ^^^ b).toNat:Int):=by
 unfold iXor
 show IntKind.wrap .u32 (((BitVec.ofInt 32 (a.toNat:Int) ^^^ BitVec.ofInt 32 (b.toNat:Int)).toNat:Nat):Int)=_
 rw [cofInt,cofInt]
 have:=(a ^^^ b).isLt
 exact u32_id (by omega) (by omega)
theorem c_not (a:BitVec 32):iXor .u32 4294967295 (a.toNat:Int)=((~~~a).toNat:Int):=by
 have h:=c_xor (BitVec.allOnes 32) a
 rw [BitVec.allOnes_xor] at h
 exact h
theorem c_shr (a:BitVec 32) (k:Nat):Int.fdiv (a.toNat:Int) (2 ^ k)=((a >>> k).toNat:Int):=by
 rw [BitVec.toNat_ushiftRight,Nat.shiftRight_eq_div_pow,Int.fdiv_eq_ediv_of_nonneg _ (by exact_mod_cast Nat.zero_le (2 ^ k))]
 push_cast
 rfl
theorem c_low (a:BitVec 32):(iAnd .u32 (a.toNat:Int) 1 == 1)=a.getLsbD 0:=by
 unfold iAnd
 show (IntKind.wrap .u32 (((BitVec.ofInt 32 (a.toNat:Int) &&& BitVec.ofInt 32 1).toNat:Nat):Int) == 1)=_
 have e:BitVec.ofInt 32 1=1#32:=rfl
 rw [cofInt,e]
 have h:(a &&& 1#32).toNat=a.toNat % 2:=by
  rw [BitVec.toNat_and]
  exact Nat.and_one_is_mod _
 rw [h,u32_id (by omega) (by omega),BitVec.getLsbD,Nat.testBit_zero]
 by_cases h2:a.toNat % 2=1
 ·rw [h2]; rfl
 ·have h3:a.toNat % 2=0:=by omega
  rw [h3]; rfl
theorem and15:∀ v:Fin 256,iAnd .u8 (v.val:Int) 15=((v.val % 16:Nat):Int):=by decide +kernel
theorem and15n {v:Nat} (h:v < 256):iAnd .u8 (v:Int) 15=((v % 16:Nat):Int):=and15 ⟨v,h⟩
theorem xor16:∀ a b:Fin 16,iXor .u8 (a.val:Int) (b.val:Int)=((a.val ^^^ b.val:Nat):Int):=by decide +kernel
theorem xor16n {a b:Nat} (ha:a < 16) (hb:b < 16):iXor .u8 (a:Int) (b:Int)=((a ^^^ b:Nat):Int):=xor16 ⟨a,ha⟩ ⟨b,hb⟩
theorem cu8_of (x:BitVec 32):IntKind.wrap .u8 (x.toNat:Int)=((x.toNat % 256:Nat):Int):=by rw [IntKind.wrap_u8]; omega
theorem idx_nat (x:BitVec 32) (m:Nat) (hm:m < 16):((x ^^^ BitVec.ofNat 32 m) &&& 15#32).toNat=(x.toNat % 16) ^^^ m:=by
 rw [BitVec.toNat_and,BitVec.toNat_xor,BitVec.toNat_ofNat,Nat.mod_eq_of_lt (show m < 2 ^ 32 by omega)]
 have:(15#32).toNat=2 ^ 4 - 1:=rfl
 rw [this,Nat.and_two_pow_sub_one_eq_mod,Nat.xor_mod_two_pow]
 rw [show 2 ^ 4=16 from rfl,Nat.mod_eq_of_lt hm]
theorem idx_lo (x:BitVec 32) (c:UInt8):iXor .u8 (iAnd .u8 (IntKind.wrap .u8 (x.toNat:Int)) 15) (iAnd .u8 (c.toNat:Int) 15)=(((x ^^^ BitVec.ofNat 32 (c.toNat % 16)) &&& 15#32).toNat:Int):=by
 have hc:c.toNat < 256:=c.toNat_lt
 rw [cu8_of,and15n (Nat.mod_lt _ (by omega)),and15n hc,xor16n (by omega) (by omega),idx_nat x _ (by omega),show x.toNat % 256 % 16=x.toNat % 16 by omega]
theorem idx_hi (x:BitVec 32) (c:UInt8):iXor .u8 (iAnd .u8 (IntKind.wrap .u8 (x.toNat:Int)) 15) (Int.fdiv (c.toNat:Int) (2 ^ 4))=(((x ^^^ BitVec.ofNat 32 (c.toNat / 16)) &&& 15#32).toNat:Int):=by
 have hc:c.toNat < 256:=c.toNat_lt
 have e:Int.fdiv (c.toNat:Int) (2 ^ 4)=((c.toNat / 16:Nat):Int):=by
  rw [Int.fdiv_eq_ediv_of_nonneg _ (by decide)]; rfl
 rw [cu8_of,and15n (Nat.mod_lt _ (by omega)),e,xor16n (by omega) (by omega),idx_nat x _ (by omega),show x.toNat % 256 % 16=x.toNat % 16 by omega]
theorem idx_lt (y:BitVec 32):(y &&& 15#32).toNat < 16:=by
 rw [BitVec.toNat_and]
 have:y.toNat &&& (15#32).toNat<=(15#32).toNat:=Nat.and_le_right
 have e:(15#32).toNat=15:=rfl
 omega
def tabN (i:Nat):List Value:=(List.range 16).map fun j=>if j < i then cv (crF4 (BitVec.ofNat 32 j)) else .int .u32 0
theorem tabN_len (i:Nat):(tabN i).length=16:=by simp [tabN]
theorem tabN_get (i j:Nat) (hj:j < 16):(tabN i)[j]?=some (if j < i then cv (crF4 (BitVec.ofNat 32 j)) else .int .u32 0):=by
 unfold tabN
 rw [List.getElem?_map,List.getElem?_range hj]; rfl
theorem tabN_one (i:Nat):∀ v ∈ tabN i,v.oneCell'=true:=by
 intro v hv
 obtain ⟨j,_,rfl⟩:=List.mem_map.1 hv
 show Value.oneCell' (if j < i then cv (crF4 (BitVec.ofNat 32 j)) else .int .u32 0)=true
 split <;> rfl
theorem tabN_zero:tabN 0=Z207:=rfl
theorem tabN_next (i:Nat) (hi:i < 16):splice (tabN i) i [cv (crF4 (BitVec.ofNat 32 i))]=tabN (i+1):=by
 apply List.ext_getElem?
 intro j
 rw [splice_get (by rw [tabN_len]; show i+1<=16; omega)]
 by_cases h1:j < i
 ·rw [if_pos h1,tabN_get _ _ (by omega),tabN_get _ _ (by omega),if_pos h1,if_pos (by omega)]
 ·rw [if_neg h1]
  by_cases h2:j=i
  ·subst h2
   rw [if_pos (by show j < j+1; omega),tabN_get _ _ (by omega),if_pos (by omega),Nat.sub_self]; rfl
  ·rw [if_neg (by show ¬ j < i+1; omega)]
   by_cases h3:j < 16
   ·rw [tabN_get _ _ h3,tabN_get _ _ h3,if_neg h1,if_neg (by omega)]
   ·rw [List.getElem?_eq_none (by rw [tabN_len]; omega),List.getElem?_eq_none (by rw [tabN_len]; omega)]
set_option maxHeartbeats 1000000 in
theorem nibbles_calls (w:World):Calls Tryz.prog 130 #[] w fun e w'=>e=.returned (ofL (tabN 16))/\Fr (fun _=>False) w w':=by
 refine (F130.of w (Q:=fun v w'=>v=ofL (tabN 16)/\Fr (fun _=>False) w w') ?_).mono (fun e w' ⟨v,he,hv,h⟩=>⟨by rw [he,hv],h⟩)
 refine nw_mk (nw_mk ?_)
 have r1:=RecAt.new w Z207 207
 have f1:Fr (fun _=>False) w (w.alloc (.cells Z207.toArray 207)):=Fr.alloc _ _ _
 have s1:=f1.size
 have e1:(w.alloc (.cells Z207.toArray 207)).heap.size=w.heap.size+1:=alloc_size _ _
 generalize hw1:w.alloc (.cells Z207.toArray 207)=w1 at r1 f1 s1 e1 ⊢
 have r2:=RecAt.new w1 Z207 207
 have f2:Fr (fun _=>False) w1 (w1.alloc (.cells Z207.toArray 207)):=Fr.alloc _ _ _
 have r1:=r1.fr f2 (fun h=>h)
 have f12:=f1.trans1 f2
 generalize hw2:w1.alloc (.cells Z207.toArray 207)=w2 at r1 r2 f2 f12 ⊢
 rw [<- tabN_zero] at r2
 refine jnC_mk (loop_rule (fun s u=>∃ i:Nat,i<=16/\s=((w.heap.size,0),(w1.heap.size,0),(i:Int),())/\Fr (fun _=>False) w u/\RecAt u w.heap.size 207 Z207/\RecAt u w1.heap.size 207 (tabN i)) (fun s _=>(16 - s.2.2.1).toNat) ?_ _ _ ⟨0,by omega,rfl,f12,r1,r2⟩)
 rintro s u C ⟨i,hi,rfl,hf,q1,q2⟩ hC _
 refine vIf_mk (fun hlt=>?_) (fun hge=>?_)
 ·have hlt:(i:Int) < 16:=of_decide_eq_true hlt
  have ei:IntKind.wrap .u32 (i:Int)=(((BitVec.ofNat 32 i).toNat:Nat):Int):=by
   rw [u32_id (by omega) (by omega),BitVec.toNat_ofNat,Nat.mod_eq_of_lt (by omega)]
  refine jnC_mk (loop_rule (fun s v=>v=u/\∃ k:Nat,k<=4/\s=((w.heap.size,0),(w1.heap.size,0),(i:Int),(((Nat.repeat crF k (BitVec.ofNat 32 i)).toNat:Nat):Int),(i:Int),(k:Int),())) (fun s _=>(4 - s.2.2.2.2.2.1).toNat) ?_ _ _ ⟨rfl,0,by omega,?_⟩)
  ·rintro s v C' ⟨rfl,k,hk,rfl⟩ hC' _
   refine vIf_mk (fun hk4=>?_) (fun hk4=>?_)
   ·have hk4:(k:Int) < 4:=of_decide_eq_true hk4
    generalize hx:Nat.repeat crF k (BitVec.ofNat 32 i)=x
    have hnext:Nat.repeat crF (k+1) (BitVec.ofNat 32 i)=crF x:=by rw [<- hx]; rfl
    have eP:(2197175160:Int)=(crP.toNat:Int):=rfl
    dsimp only
    rw [c_low,c_shr,eP,c_xor,le_e1 k (by omega)]
    refine vIf_mk (fun hb=>jnC_mk (hC' _ _ ⟨rfl,k+1,by omega,?_⟩ ?_)) (fun hb=>jnC_mk (hC' _ _ ⟨rfl,k+1,by omega,?_⟩ ?_))
    ·rw [hnext]; unfold crF; rw [if_pos hb]
    ·show (4 - ((k+1:Nat):Int)).toNat < (4 - (k:Int)).toNat
     omega
    ·rw [hnext]; unfold crF; rw [if_neg (by rw [hb]; decide),BitVec.xor_zero]
    ·show (4 - ((k+1:Nat):Int)).toNat < (4 - (k:Int)).toNat
     omega
   ·have hk4:¬ (k:Int) < 4:=of_decide_eq_false hk4
    obtain rfl:k=4:=by omega
    refine gd_mk (decide_eq_true (by show (0:Int)<=(i:Int); omega)) (gd_mk (decide_eq_true hlt) ?_)
    dsimp only
    rw [Int.toNat_natCast,show 0+i * 1=i by omega]
    have hv:Nat.repeat crF 4 (BitVec.ofNat 32 i)=crF4 (BitVec.ofNat 32 i):=rfl
    rw [hv]
    refine q2.st_mk (vs:=[cv (crF4 (BitVec.ofNat 32 i))]) (by rw [tabN_len]; show i+1<=16; omega) (fun v hv=>by simp at hv; subst hv; rfl) (fun q3 f3=>?_)
    rw [tabN_next i (by omega)] at q3
    rw [le_e1 i (by omega)]
    refine jnC_mk (hC _ _ ⟨i+1,by omega,rfl,hf.trans f3 (fun _ _ h=>h) (fun k hk h=>by omega),q1.fr f3 (fun h=>by omega),q3⟩ ?_)
    show (16 - ((i+1:Nat):Int)).toNat < (16 - (i:Int)).toNat
    omega
  ·rw [ei]; rfl
 ·have hge:¬ (i:Int) < 16:=of_decide_eq_false hge
  obtain rfl:i=16:=by omega
  refine ⟨tabN 16,rfl,q2.cells (o:=0) (fun j v hj=>by rw [Nat.zero_add]; exact hj),gd_mk rfl ?_⟩
  refine q1.st_mk (o:=0) (vs:=tabN 16) (by rw [tabN_len]; decide) (tabN_one 16) (fun q3 f3=>?_)
  rw [splice_full (by rw [tabN_len]; rfl)] at q3
  exact ⟨tabN 16,rfl,q3.cells (o:=0) (fun j v hj=>by rw [Nat.zero_add]; exact hj),rfl,hf.trans f3 (fun _ _ h=>h) (fun k hk h=>by omega)⟩
set_option maxHeartbeats 1000000 in
theorem crc_calls (A:Option Addr) (n c:Nat) (b:List UInt8) (w:World) (h:Sl w 1 A n (b.map bv)) (hn:n<=1099511627776) :
  Calls Tryz.prog 65 #[.slice A n c] w fun e w'=>e=.returned (.int .u32 ((crcS b).toNat:Int))/\Fr (fun _=>False) w w':=by
 have hl:=sl_len h
 refine (F65.of A n c w (Q:=fun v w'=>v=.int .u32 ((crcS b).toNat:Int)/\Fr (fun _=>False) w w') ?_).mono (fun e w' ⟨v,he,hv,h⟩=>⟨by rw [he,hv],h⟩)
 have more:Calls Tryz.prog 98 #[.int .u32 0,.slice A n c] w fun e w'=>e=.returned (.int .u32 ((crcS b).toNat:Int))/\Fr (fun _=>False) w w':=by
  refine (F98.of 0 A n c w (Q:=fun v w'=>v=.int .u32 ((crcS b).toNat:Int)/\Fr (fun _=>False) w w') ?_).mono (fun e w' ⟨v,he,hv,h⟩=>⟨by rw [he,hv],h⟩)
  refine (nibbles_calls w).mono ?_
  rintro e w1 ⟨rfl,f1⟩
  refine ⟨_,rfl,nw_mk (gd_mk (by rw [tabN_len]; rfl) ?_)⟩
  have r1:=RecAt.new w1 Z207 207
  have f2:Fr (fun _=>False) w1 (w1.alloc (.cells Z207.toArray 207)):=Fr.alloc _ _ _
  generalize hw2:w1.alloc (.cells Z207.toArray 207)=w2 at r1 f2 ⊢
  refine r1.st_mk (o:=0) (vs:=tabN 16) (by rw [tabN_len]; decide) (tabN_one 16) (fun r2 f3=>?_)
  rw [splice_full (by rw [tabN_len]; rfl)] at r2
  have f:=(f1.trans1 f2).trans f3 (U:=fun _=>False) (fun _ _ h=>h) (fun k hk h=>by have:=f1.size; omega)
  generalize stB w2 w1.heap.size 0 (tabN 16)=w3 at r2 f ⊢
  have hb:=f.sl h (fun _ _ _ h=>h)
  refine jnC_mk (loop_rule (fun s u=>u=w3/\∃ i:Nat,i<=n/\s=((w1.heap.size,0),((((b.take i).foldl byteS (~~~ 0#32)).toNat:Nat):Int),(A,n,c),(n:Int),(i:Int),())) (fun s _=>(n - s.2.2.2.2.1).toNat) ?_ _ _ ⟨rfl,0,by omega,?_⟩)
  ·rintro s u C ⟨rfl,i,hi,rfl⟩ hC _
   have tb:∀ (y:BitVec 32) (K:Int->Prop),K ((crF4 (y &&& 15#32)).toNat:Int)->gd (decide (0<=(((y &&& 15#32).toNat:Nat):Int))) (gd (decide ((((y &&& 15#32).toNat:Nat):Int) < 16)) (ldI .u32 u w1.heap.size (0+(((y &&& 15#32).toNat:Nat):Int).toNat * 1) K)):=by
    intro y K hK
    have hy:=idx_lt y
    refine gd_mk (decide_eq_true (by omega)) (gd_mk (decide_eq_true (by omega)) ⟨_,?_,hK⟩)
    rw [Int.toNat_natCast,show 0+(y &&& 15#32).toNat * 1=(y &&& 15#32).toNat by omega]
    refine r2.cell ?_
    rw [tabN_get _ _ hy,if_pos hy,BitVec.ofNat_toNat,BitVec.setWidth_eq]; rfl
   refine vIf_mk (fun hlt=>?_) (fun hge=>⟨?_,f⟩)
   ·have hlt:(i:Int) < (n:Int):=of_decide_eq_true hlt
    obtain ⟨b',o',hA,hcl⟩:=le_get hb (i:=i) (by omega) (by omega)
    have hnext:b.take (i+1)=b.take i ++ [b[i]]:=by rw [List.take_add_one,List.getElem?_eq_getElem (by omega)]; rfl
    generalize hx:b[i]=x at hcl hnext
    generalize hq:(b.take i).foldl byteS (~~~ 0#32)=q
    have hq':(b.take (i+1)).foldl byteS (~~~ 0#32)=byteS q x:=by rw [hnext,List.foldl_append,hq]; rfl
    rw [hA]
    refine dr_mk (gd_mk (decide_eq_true (by show (0:Int)<=(i:Int); omega)) (gd_mk (decide_eq_true hlt) ⟨_,hcl,?_⟩))
    dsimp only
    rw [idx_lo]
    refine tb _ _ ?_
    rw [c_shr,c_xor]
    rw [idx_hi]
    refine tb _ _ ?_
    rw [c_shr,c_xor,le_e1 i (by omega),<- hA]
    refine jnC_mk (hC _ _ ⟨rfl,i+1,by omega,?_⟩ ?_)
    ·rw [hq']; rfl
    ·show ((n:Int) - ((i+1:Nat):Int)).toNat < ((n:Int) - (i:Int)).toNat
     omega
   ·have hge:¬ (i:Int) < (n:Int):=of_decide_eq_false hge
    obtain rfl:i=n:=by omega
    dsimp only
    rw [c_not,List.take_of_length_le (by omega)]; rfl
  ·rfl
 refine more.mono ?_
 rintro e u ⟨rfl,f⟩
 exact ⟨_,rfl,rfl,f⟩
end Go.Proofs.YtkfanhdicnjdlaaGreatDoor
namespace Go.Proofs.YtkfanhdicnjdlaaGreatDoor
open Go.GV
def kF (b:List UInt8):Nat:=leT (b.take 1)
def sF (b:List UInt8):Nat:=leT ((b.drop 1).take 8)
def zF (b:List UInt8):Nat:=leT ((b.drop 9).take 4)
abbrev whF (b:List UInt8) (n:Nat):Prop:=leT ((b.drop n).take 4)=(crcS (b.take n)).toNat
structure Frm where
 e:Int
 k:Nat
 sq:Nat
 d:List UInt8
 z:Int
def frG (b:List UInt8):Int×Nat×Nat×List UInt8 :=
 if b.length < 17 then (4,0,0,[])
 else if ¬ whF b 13 then (5,0,0,[])
 else if kF b < 1\/kF b > 8\/zF b > 65536 then (3,0,0,[])
 else if b.length < 21+zF b then (4,0,0,[])
 else if ¬ whF b (17+zF b) then (5,0,0,[])
 else (0,kF b,sF b,(b.drop 17).take (zF b))
def frP (b:List UInt8) (at_:Int):Frm :=
 if at_ < 0\/at_ > (b.length:Int) then ⟨2,0,0,[],0⟩
 else if (frG (b.drop at_.toNat)).1=0 then ⟨0,(frG (b.drop at_.toNat)).2.1,(frG (b.drop at_.toNat)).2.2.1,(frG (b.drop at_.toNat)).2.2.2,at_+21+((frG (b.drop at_.toNat)).2.2.2.length:Int)⟩
 else ⟨(frG (b.drop at_.toNat)).1,0,0,[],0⟩
theorem frP_out {b:List UInt8} {at_:Int} (h:at_ < 0\/at_ > (b.length:Int)):frP b at_=⟨2,0,0,[],0⟩:=if_pos h
theorem frP_err {b:List UInt8} {a:Nat} {e:Int} (h:a<=b.length) (he:frG (b.drop a)=(e,0,0,[])) (h0:e ≠ 0):frP b (a:Int)=⟨e,0,0,[],0⟩:=by
 unfold frP
 rw [if_neg (by omega),Int.toNat_natCast,he,if_neg h0]
theorem frP_ok {b:List UInt8} {a k sq:Nat} {d:List UInt8} (h:a<=b.length) (he:frG (b.drop a)=(0,k,sq,d)):frP b (a:Int)=⟨0,k,sq,d,(a:Int)+21+(d.length:Int)⟩:=by
 unfold frP
 rw [if_neg (by omega),Int.toNat_natCast,he,if_pos rfl]
theorem frG_4 {b:List UInt8} (h:b.length < 17):frG b=(4,0,0,[]):=if_pos h
theorem frG_5 {b:List UInt8} (h:¬ b.length < 17) (h1:¬ whF b 13):frG b=(5,0,0,[]):=by rw [frG,if_neg h,if_pos h1]
theorem frG_3 {b:List UInt8} (h:¬ b.length < 17) (h1:whF b 13) (h2:kF b < 1\/kF b > 8\/zF b > 65536):frG b=(3,0,0,[]):=by rw [frG,if_neg h,if_neg (fun h=>h h1),if_pos h2]
theorem frG_4' {b:List UInt8} (h:¬ b.length < 17) (h1:whF b 13) (h2:¬ (kF b < 1\/kF b > 8\/zF b > 65536)) (h3:b.length < 21+zF b):frG b=(4,0,0,[]):=by rw [frG,if_neg h,if_neg (fun h=>h h1),if_neg h2,if_pos h3]
theorem frG_5' {b:List UInt8} (h:¬ b.length < 17) (h1:whF b 13) (h2:¬ (kF b < 1\/kF b > 8\/zF b > 65536)) (h3:¬ b.length < 21+zF b) (h4:¬ whF b (17+zF b)):frG b=(5,0,0,[]):=by rw [frG,if_neg h,if_neg (fun h=>h h1),if_neg h2,if_neg h3,if_pos h4]
theorem frG_0 {b:List UInt8} (h:¬ b.length < 17) (h1:whF b 13) (h2:¬ (kF b < 1\/kF b > 8\/zF b > 65536)) (h3:¬ b.length < 21+zF b) (h4:whF b (17+zF b)):frG b=(0,kF b,sF b,(b.drop 17).take (zF b)):=by rw [frG,if_neg h,if_neg (fun h=>h h1),if_neg h2,if_neg h3,if_neg (fun h=>h h4)]
def hdF (k sq n:Nat):List UInt8:=[UInt8.ofNat (k % 256)] ++ leB sq 8 ++ leB n 4
def bdF (k sq:Nat) (d:List UInt8):List UInt8:=hdF k sq d.length ++ leB (crcS (hdF k sq d.length)).toNat 4 ++ d
def mkF (k sq:Nat) (d:List UInt8):List UInt8:=bdF k sq d ++ leB (crcS (bdF k sq d)).toNat 4
theorem crc_lt (b:List UInt8):(crcS b).toNat < 256 ^ 4:=(crcS b).isLt
theorem mkF_len (k sq:Nat) (d:List UInt8):(mkF k sq d).length=21+d.length:=by
 unfold mkF bdF hdF
 simp only [List.length_append,leB_len,List.length_cons,List.length_nil]
 omega
theorem kF_lt (b:List UInt8):kF b < 256:=by
 have:=leT_lt (b.take 1)
 refine Nat.lt_of_lt_of_le this (Nat.pow_le_pow_right (n:=256) (by omega) (show (b.take 1).length<=1 by rw [List.length_take]; omega))
theorem le4_lt (x:List UInt8):leT (x.take 4) < 4294967296:=by
 have:=leT_lt (x.take 4)
 refine Nat.lt_of_lt_of_le this (Nat.pow_le_pow_right (n:=256) (by omega) (show (x.take 4).length<=4 by rw [List.length_take]; omega))
theorem zF_lt (b:List UInt8):zF b < 4294967296:=le4_lt _
end Go.Proofs.YtkfanhdicnjdlaaGreatDoor
namespace Go.Proofs.YtkfanhdicnjdlaaGreatDoor
open Go.GV Go.RowKit
theorem same_calls (A:Option Addr) (n c:Nat) (l:List UInt8) (A':Option Addr) (n' c':Nat) (l':List UInt8) (w:World) (h:Sl w 1 A n (l.map bv)) (h':Sl w 1 A' n' (l'.map bv)) (hn:n < 4611686018427387904) :
  Calls Tryz.prog 13 #[.slice A n c,.slice A' n' c'] w fun e w'=>e=.returned (.bool (l == l'))/\Fr (fun _=>False) w w':=by
 have hl:l.length=n:=by simpa using h.1
 have hl':l'.length=n':=by simpa using h'.1
 refine (F13.of A n c A' n' c' w (Q:=fun v w'=>v=.bool (l == l')/\Fr (fun _=>False) w w') ?_).mono (fun e w' ⟨v,he,hv,h⟩=>⟨by rw [he,hv],h⟩)
 refine vIf_mk (fun h0=>?_) (fun h0=>jnC_mk ?_)
 ·have h0:(n:Int) ≠ n':=by simpa using h0
  refine ⟨?_,Fr.refl _ _⟩
  have:(l == l')=false:=by
   rw [beq_eq_false_iff_ne]
   intro e; subst e; omega
  rw [this]
 ·have h0:n=n':=by
   have:(n:Int)=n':=by simpa using h0
   omega
  refine loop_rule (fun s u=>Fr (fun _=>False) w u/\∃ i:Nat,i<=n/\s=((A,n,c),(A',n',c'),(i:Int),())/\l.take i=l'.take i)
   (fun s _=>(n - s.2.2.1).toNat) ?_ _ _ ⟨Fr.refl _ _,0,by omega,rfl,by simp⟩
  rintro s u C ⟨hf,i,hi,rfl,ht⟩ hC _
  refine vIf_mk (fun hlt=>?_) (fun hge=>?_)
  ·have hlt2:(i:Int) < n:=of_decide_eq_true hlt
   have hf':Fr (fun _=>False) w u.drew:=hf.trans1 (Fr.drew _ _)
   have e1:l[i]?=some (l[i]'(by omega)):=List.getElem?_eq_getElem (by omega)
   have e2:l'[i]?=some (l'[i]'(by omega)):=List.getElem?_eq_getElem (by omega)
   obtain ⟨b,o,hA,hc⟩:=(hf'.sl h (fun _ _ _ h=>h)).get (i:=i) (by omega) (v:=bv (l[i]'(by omega))) (by rw [List.getElem?_map,e1]; rfl)
   obtain ⟨b',o',hA',hc'⟩:=(hf'.sl h' (fun _ _ _ h=>h)).get (i:=i) (by omega) (v:=bv (l'[i]'(by omega))) (by rw [List.getElem?_map,e2]; rfl)
   subst hA; subst hA'
   have hw:IntKind.wrap .i64 ((i:Int)+1)=((i+1:Nat):Int):=by rw [i64_id (by omega) (by omega)]; rfl
   refine dr_mk (gd_mk (decide_eq_true (Int.natCast_nonneg i)) (gd_mk (decide_eq_true hlt2) ⟨_,hc,dr_mk (gd_mk (decide_eq_true (Int.natCast_nonneg i)) (gd_mk (decide_eq_true (show (i:Int) < n' by omega)) ⟨_,hc',vIf_mk (fun hd=>⟨?_,hf'⟩) (fun he=>jnC_mk (hC _ _ ⟨hf',i+1,by omega,?_,?_⟩ ?_))⟩))⟩))
   ·have hd:l[i]'(by omega) ≠ l'[i]'(by omega):=by
     intro e; rw [e] at hd; simp at hd
    have:(l == l')=false:=by
     rw [beq_eq_false_iff_ne]
     intro e; subst e; exact hd rfl
    rw [this]
   ·show ((_,n,c),(_,n',c'),IntKind.wrap .i64 ((i:Int)+1),())=_
    rw [hw]
   ·have he:l[i]'(by omega)=l'[i]'(by omega):=by
     have:((l[i]'(by omega)).toNat:Int)=((l'[i]'(by omega)).toNat:Int):=by simpa using he
     exact UInt8.toNat_inj.1 (by omega)
    rw [List.take_add_one,List.take_add_one,ht,e1,e2,he]
   ·show ((n:Int) - IntKind.wrap .i64 ((i:Int)+1)).toNat < ((n:Int) - i).toNat
    rw [hw]; omega
  ·have hge:¬ ((i:Int) < n):=of_decide_eq_false hge
   refine ⟨?_,hf⟩
   have hin:i=n:=by omega
   subst hin
   rw [List.take_of_length_le (by omega),List.take_of_length_le (by omega)] at ht
   subst ht
   rw [beq_self_eq_true]
end Go.Proofs.YtkfanhdicnjdlaaGreatDoor
namespace Go.Proofs.YtkfanhdicnjdlaaGreatDoor
open Go.GV Go.RowKit Go.Lib
theorem ansN_mk {w:World} {b:Nat} {e:TypeId} {old cs:List Value} {N:Nat} (r:RecAt w b e old) (ho:old.length=N) (hc:cs.length=N) (h1:∀ v ∈ cs,v.oneCell'=true) {K:List Value->World->Prop} (hK:∀ w',Fr (fun k=>k=b) w w'->K cs w') :
  gd (cs.length == N) (st w b 0 cs fun w1=>ldA N w1 b 0 fun a=>K a w1):=by
 refine gd_mk (by rw [hc]; simp) (r.st_mk (o:=0) (by rw [hc,ho]; omega) h1 (fun r1 f1=>?_))
 rw [splice_full (by rw [hc,ho])] at r1
 exact ⟨cs,hc,rec_all r1,hK _ f1⟩
theorem fr_var {w0 w w':World} {b:Nat} (f:Fr (fun _=>False) w0 w) (hb:w0.heap.size<=b) (g:Fr (fun k=>k=b) w w'):Fr (fun _=>False) w0 w':=f.trans g (fun _ _ h=>h) (fun k hk h=>by omega)
theorem tk_eq {b:List UInt8} {a z:Nat} (h:1<=z/\z<=8/\a+z<=b.length):tkN b (a:Int) (z:Int)=leT ((b.drop a).take z):=by
 unfold tkN
 rw [if_pos ⟨by omega,by omega,by omega,by omega⟩,Int.toNat_natCast,Int.toNat_natCast]
theorem sl_zero {w:World} {A:Option Addr} {n c:Nat} {l:List UInt8} (h:Sl w 1 A n (l.map bv)) (hc:n<=c):Sl w 1 (slA A c 0 1) n (l.map bv):=by
 have:=sl_drop h (k:=0) (Nat.zero_le _) hc
 rwa [List.drop_zero,Nat.sub_zero] at this
set_option maxHeartbeats 1000000 in
theorem whole_calls (A:Option Addr) (n c:Nat) (b:List UInt8) (w:World) (h:Sl w 1 A n (b.map bv)) (hc:n<=c) (h4:4<=n) (hn:n<=1099511627776) :
  Calls Tryz.prog 40 #[.slice A n c] w fun e w'=>e=.returned (.bool (decide (whF b (n - 4))))/\Fr (fun _=>False) w w':=by
 have hl:=sl_len h
 refine (F40.of A n c w (Q:=fun v w'=>v=.bool (decide (whF b (n - 4)))/\Fr (fun _=>False) w w') ?_).mono (fun e w' ⟨v,he,hv,h⟩=>⟨by rw [he,hv],h⟩)
 have e1:IntKind.wrap .i64 ((n:Int) - 4)=((n - 4:Nat):Int):=by rw [i64_id (by omega) (by omega)]; omega
 unfold F40.vc
 rw [e1,Int.toNat_natCast]
 refine (take_calls A n c b _ 4 w h hn).mono ?_
 rintro e u ⟨rfl,rfl⟩
 refine ⟨_,_,rfl,gd_mk (decide_eq_true (by omega)) (gd_mk (decide_eq_true (by omega)) ?_)⟩
 refine (crc_calls _ (n - 4) c (b.take (n - 4)) u (sl_take (sl_zero h hc) (by omega)) (by omega)).mono ?_
 rintro e w1 ⟨rfl,f⟩
 refine ⟨_,rfl,?_,f⟩
 rw [show (4:Int)=((4:Nat):Int) from rfl,tk_eq (by omega)]
 have:=le4_lt (b.drop (n - 4))
 rw [u32_id (by omega) (by omega)]
 congr 1
 by_cases hw:whF b (n - 4)
 ·rw [decide_eq_true hw,hw]; simp
 ·rw [decide_eq_false hw,beq_eq_false_iff_ne]
  exact fun e=>hw (by omega)
def stC (k sq z:Nat):List Value:=[.int .i64 (k:Nat),.int .u64 (sq:Nat),.slice none 0 0,.int .i64 0,.int .i64 (z:Nat)]
theorem stC_one (k sq z:Nat):∀ v ∈ stC k sq z,v.oneCell'=true:=by
 intro v hv
 simp only [stC,List.mem_cons,List.not_mem_nil,or_false] at hv
 rcases hv with rfl | rfl | rfl | rfl | rfl <;> rfl
def begP (b:List UInt8):Int :=
 if b.length < 17 then 4 else if ¬ whF b 13 then 5 else if kF b < 1\/kF b > 8\/zF b > 65536 then 3 else 0
set_option maxHeartbeats 2000000 in
theorem begin_calls (A:Option Addr) (n c:Nat) (b:List UInt8) (w:World) (h:Sl w 1 A n (b.map bv)) (hc:n<=c) (hn:n<=1099511627776) :
  Calls Tryz.prog 38 #[.slice A n c] w fun e w'=>e=.returned (.tuple #[ofL (if begP b=0 then stC (kF b) (sF b) (zF b) else stC 0 0 0),.int .i64 (begP b)])/\Fr (fun _=>False) w w':=by
 have hl:=sl_len h
 refine (F38.of A n c w (Q:=fun v w'=>v=.tuple #[ofL (if begP b=0 then stC (kF b) (sF b) (zF b) else stC 0 0 0),.int .i64 (begP b)]/\Fr (fun _=>False) w w') ?_).mono (fun e w' ⟨v,he,hv,h⟩=>⟨by rw [he,hv],h⟩)
 have err:∀ k:Int,begP b=k->k ≠ 0->Value.tuple #[ofL (stC 0 0 0),.int .i64 k]=.tuple #[ofL (if begP b=0 then stC (kF b) (sF b) (zF b) else stC 0 0 0),.int .i64 (begP b)]:=by
  rintro k rfl h0
  rw [if_neg h0]
 refine rec_new (fun b1 w2 f1 hb1 r1=>?_)
 refine vIf_mk (fun hlt=>ansN_mk (cs:=stC 0 0 0) r1 rfl rfl (stC_one _ _ _) (fun w' g=>⟨err 4 ?_ (by decide),fr_var f1 hb1 g⟩)) (fun hlt=>?_)
 ·have hlt:(n:Int) < 17:=of_decide_eq_true hlt
  unfold begP
  rw [if_pos (by omega)]
 ·have hlt:¬ (n:Int) < 17:=of_decide_eq_false hlt
  have h17:¬ b.length < 17:=by omega
  have hs:=f1.sl h (fun _ _ _ h=>h)
  refine (take_calls A n c b 0 1 w2 hs hn).mono ?_
  rintro e u ⟨rfl,rfl⟩
  refine ⟨_,_,rfl,(take_calls A n c b 1 8 u hs hn).mono ?_⟩
  rintro e u ⟨rfl,rfl⟩
  refine ⟨_,_,rfl,(take_calls A n c b 9 4 u hs hn).mono ?_⟩
  rintro e u ⟨rfl,rfl⟩
  refine ⟨_,_,rfl,?_⟩
  have t1:tkN b 0 1=kF b:=by
   have:=tk_eq (b:=b) (a:=0) (z:=1) (by omega)
   rw [List.drop_zero] at this; exact this
  have t2:tkN b 1 8=sF b:=tk_eq (b:=b) (a:=1) (z:=8) (by omega)
  have t3:tkN b 9 4=zF b:=tk_eq (b:=b) (a:=9) (z:=4) (by omega)
  have k1:=kF_lt b
  have k3:=zF_lt b
  rw [t1,t2,t3,i64_id (n:=(kF b:Int)) (by omega) (by omega),i64_id (n:=(zF b:Int)) (by omega) (by omega)]
  refine gd_mk rfl (var_new (cs:=stC (kF b) (sF b) (zF b)) (sz:=5) rfl rfl (stC_one _ _ _) (fun b2 w3 f3 hb3 r3=>gd_mk (decide_eq_true (by omega)) ?_))
  have r1:=r1.fr f3 (fun h=>h)
  have f13:=f1.trans1 f3
  have h13:=f3.sl hs (fun _ _ _ h=>h)
  refine (whole_calls _ 17 c (b.take 17) w3 (sl_take (sl_zero h13 hc) (by omega)) (by omega) (by omega) (by omega)).mono ?_
  rintro e w4 ⟨rfl,f4⟩
  have r1:=r1.fr f4 (fun h=>h)
  have r3:=r3.fr f4 (fun h=>h)
  have f14:=f13.trans1 f4
  have hwh:whF (b.take 17) (17 - 4) ↔ whF b 13:=by
   show leT (((b.take 17).drop 13).take 4)=(crcS ((b.take 17).take 13)).toNat ↔ _
   rw [List.take_take,List.drop_take,List.take_take]
   exact Iff.rfl
  refine ⟨_,rfl,vIf_mk (fun hw=>ansN_mk (cs:=stC 0 0 0) r1 rfl rfl (stC_one _ _ _) (fun w' g=>⟨err 5 ?_ (by decide),fr_var f14 hb1 g⟩)) (fun hw=>?_)⟩
  ·have hw:¬ whF b 13:=fun h=>ndt hw (hwh.2 h)
   unfold begP
   rw [if_neg h17,if_pos hw]
  ·have hw:whF b 13:=hwh.1 (ndf hw)
   have fin:∀ t:Bool,t=decide (kF b < 1\/kF b > 8\/zF b > 65536)->jnC (F38.k10 (fun v w'=>v=.tuple #[ofL (if begP b=0 then stC (kF b) (sF b) (zF b) else stC 0 0 0),.int .i64 (begP b)]/\Fr (fun _=>False) w w')) ((b1,0),(b2,0),t,()) w4:=by
    rintro t rfl
    refine jnC_mk (fun _=>vIf_mk (fun h3=>ansN_mk (cs:=stC 0 0 0) r1 rfl rfl (stC_one _ _ _) (fun w' g=>⟨err 3 ?_ (by decide),fr_var f14 hb1 g⟩)) (fun h3=>jnC_mk (fun _=>⟨stC (kF b) (sF b) (zF b),rfl,rec_all r3,ansN_mk (N:=5) (cs:=stC (kF b) (sF b) (zF b)) r1 rfl rfl (stC_one _ _ _) (fun w' g=>⟨?_,fr_var f14 hb1 g⟩)⟩)))
    ·have h3:=of_decide_eq_true h3
     unfold begP
     rw [if_neg h17,if_neg (fun h=>h hw),if_pos h3]
    ·have h3:=of_decide_eq_false h3
     have:begP b=0:=by unfold begP; rw [if_neg h17,if_neg (fun h=>h hw),if_neg h3]
     rw [this,if_pos rfl]
   refine ⟨_,r3.cell (o:=0) rfl,vIf_mk (fun h3=>fin _ ?_) (fun h3=>⟨_,r3.cell (o:=0) rfl,vIf_mk (fun h4=>fin _ ?_) (fun h4=>⟨_,r3.cell (o:=4) rfl,fin _ ?_⟩)⟩)⟩
   ·have h3:(kF b:Int) < 1:=of_decide_eq_true h3
    exact (decide_eq_true (.inl (by omega))).symm
   ·have h4:(kF b:Int) > 8:=of_decide_eq_true h4
    exact (decide_eq_true (.inr (.inl (by omega)))).symm
   ·have h3:¬ (kF b:Int) < 1:=of_decide_eq_false h3
    have h4:¬ (kF b:Int) > 8:=of_decide_eq_false h4
    exact decide_eq_decide.2 (by omega)
def frC (x:Frm) (A:Option Addr) (n c:Nat):List Value:=[.int .i64 (x.k:Nat),.int .u64 (x.sq:Nat),.slice A n c,.int .i64 x.z]
theorem frC_one (x:Frm) (A:Option Addr) (n c:Nat):∀ v ∈ frC x A n c,v.oneCell'=true:=by
 intro v hv
 simp only [frC,List.mem_cons,List.not_mem_nil,or_false] at hv
 rcases hv with rfl | rfl | rfl | rfl <;> rfl
theorem beg_err {b:List UInt8} (h:begP b ≠ 0):frG b=(begP b,0,0,[]):=by
 unfold begP at h ⊢
 split
 ·rename_i h1; exact frG_4 h1
 ·rename_i h1
  split
  ·rename_i h2; exact frG_5 h1 h2
  ·rename_i h2
   split
   ·rename_i h3; exact frG_3 h1 (Decidable.not_not.1 h2) h3
   ·rename_i h3; rw [if_neg h1,if_neg h2,if_neg h3] at h; exact absurd rfl h
theorem beg_ok {b:List UInt8} (h:begP b=0):¬ b.length < 17/\whF b 13/\¬ (kF b < 1\/kF b > 8\/zF b > 65536):=by
 unfold begP at h
 split at h
 ·omega
 ·rename_i h1
  split at h
  ·omega
  ·rename_i h2
   split at h
   ·omega
   ·rename_i h3; exact ⟨h1,Decidable.not_not.1 h2,h3⟩
abbrev FrA (w w':World) (v:Value) (x:Frm):Prop:=Fr (fun _=>False) w w'/\∃ (A:Option Addr) (n c:Nat),v=.tuple #[ofL (frC x A n c),.int .i64 x.e]/\Sl w' 1 A n (x.d.map bv)/\n<=c
set_option maxHeartbeats 2000000 in
theorem fparse_calls (A:Option Addr) (n c:Nat) (b:List UInt8) (at_:Int) (w:World) (h:Sl w 1 A n (b.map bv)) (hc:n<=c) (hn:n<=1099511627776) :
  Calls Tryz.prog 21 #[.slice A n c,.int .i64 at_] w fun e w'=>∃ v,e=.returned v/\FrA w w' v (frP b at_):=by
 have hl:=sl_len h
 refine (F21.of A n c at_ w (Q:=fun v w'=>FrA w w' v (frP b at_)) ?_)
 have err:∀ (k:Int) (w':World),frP b at_=⟨k,0,0,[],0⟩->Fr (fun _=>False) w w'->FrA w w' (.tuple #[ofL [.int .i64 0,.int .u64 0,.slice none 0 0,.int .i64 0],.int .i64 k]) (frP b at_):=by
  intro k w' hk f
  rw [hk]
  exact ⟨f,none,0,0,rfl,Sl.nil _ _ _,Nat.le_refl _⟩
 have z1:∀ v ∈ [Value.int .i64 0,.int .u64 0,.slice none 0 0,.int .i64 0],v.oneCell'=true:=frC_one ⟨0,0,0,[],0⟩ none 0 0
 refine rec_new (fun b1 w2 f1 hb1 r1=>?_)
 have two:∀ t:Bool,(t=true->frP b at_=⟨2,0,0,[],0⟩)->(t=false->jnC (F21.k3 (fun v w'=>FrA w w' v (frP b at_))) ((A,n,c),at_,(b1,0),()) w2)->jnC (F21.k2 (fun v w'=>FrA w w' v (frP b at_))) ((A,n,c),at_,(b1,0),t,()) w2:=by
  intro t h1 h2
  refine jnC_mk (fun _=>vIf_mk (fun ht=>?_) (fun ht=>h2 ht))
  exact ansN_mk (N:=4) (cs:=[.int .i64 0,.int .u64 0,.slice none 0 0,.int .i64 0]) r1 rfl rfl z1 (fun w' g=>err 2 w' (h1 ht) (fr_var f1 hb1 g))
 refine vIf_mk (fun hlt=>two true (fun _=>frP_out (.inl (of_decide_eq_true hlt))) (fun h=>by cases h)) (fun hlt=>two _ (fun h=>frP_out (.inr (by have:=of_decide_eq_true h; omega))) (fun hgt=>jnC_mk (fun _=>?_)))
 have hlt:¬ at_ < 0:=of_decide_eq_false hlt
 have hgt:¬ at_ > (n:Int):=of_decide_eq_false hgt
 obtain ⟨a,rfl⟩:∃ a:Nat,at_=(a:Int):=⟨at_.toNat,by omega⟩
 clear two
 have han:a<=n:=by omega
 refine gd_mk (decide_eq_true (by show (0:Int)<=(a:Int); omega)) (gd_mk (decide_eq_true (by show (a:Int)<=(n:Int); omega)) ?_)
 dsimp only
 rw [Int.toNat_natCast]
 have hs:=f1.sl h (fun _ _ _ h=>h)
 have hr:=sl_drop hs han hc
 have hrl:(b.drop a).length=n - a:=by rw [List.length_drop,hl]
 have ferr:∀ e:Int,frG (b.drop a)=(e,0,0,[])->e ≠ 0->frP b (a:Int)=⟨e,0,0,[],0⟩:=fun e he h0=>frP_err (by omega) he h0
 have fok:∀ k sq d,frG (b.drop a)=(0,k,sq,d)->frP b (a:Int)=⟨0,k,sq,d,(a:Int)+21+(d.length:Int)⟩:=fun k sq d he=>frP_ok (by omega) he
 generalize hrd:b.drop a=r at hr hrl ferr fok
 generalize hR:slA A c a 1=R at hr ⊢
 refine (begin_calls R (n - a) (c - a) r w2 hr (by omega) (by omega)).mono ?_
 rintro e w3 ⟨rfl,f3⟩
 have r1:=r1.fr f3 (fun h=>h)
 have f13:=f1.trans1 f3
 have hr:=f3.sl hr (fun _ _ _ h=>h)
 refine ⟨_,_,rfl,?_⟩
 by_cases hb:begP r=0
 ·rw [hb,if_pos rfl]
  obtain ⟨g1,g2,g3⟩:=beg_ok hb
  have k3:=zF_lt r
  refine var_new (sz:=5) rfl rfl (stC_one _ _ _) (fun b2 w4 f4 hb2 r2=>?_)
  have r1:=r1.fr f4 (fun h=>h)
  have f14:=f13.trans1 f4
  have hr:=f4.sl hr (fun _ _ _ h=>h)
  have hb12:b1 ≠ b2:=by
   have:=r1.lt
   have:=r2.lt
   have h3:=f3.size
   intro e; subst e
   have:=(RecAt.lt (w:=w3) (by assumption)); omega
  have size:∀ (u:World) (K:Int->World->Prop),K (21+(zF r:Int)) u->Calls Tryz.prog 39 #[.int .i64 (zF r:Nat)] u fun e x=>∃ i:Int,e=.returned (.int .i64 i)/\K i x:=by
   intro u K hK
   refine (F39.of (zF r:Nat) u (Q:=fun v x=>v=.int .i64 (21+(zF r:Int))/\x=u) ⟨?_,rfl⟩).mono (fun e x ⟨v,he,hv,hx⟩=>⟨21+(zF r:Int),by rw [he,hv],by rw [hx]; exact hK⟩)
   rw [i64_id (n:=17+(zF r:Int)) (by omega) (by omega),i64_id (by omega) (by omega)]
   congr 1; omega
  refine vIf_f (by rfl) ⟨_,r2.cell (o:=4) rfl,size _ _ (vIf_mk (fun h4=>?_) (fun h4=>⟨_,r2.cell (o:=4) rfl,size _ _ ?_⟩))⟩
  ·have h4:((n - a:Nat):Int) < 21+(zF r:Int):=of_decide_eq_true h4
   exact ansN_mk (N:=4) (cs:=[.int .i64 0,.int .u64 0,.slice none 0 0,.int .i64 0]) r1 rfl rfl z1 (fun w' g=>err 4 w' (ferr 4 (frG_4' g1 g2 g3 (by omega)) (by decide)) (fr_var f14 hb1 g))
  ·have h4:¬ ((n - a:Nat):Int) < 21+(zF r:Int):=of_decide_eq_false h4
   have e21:(21+(zF r:Int))=((21+zF r:Nat):Int):=by omega
   have e17:IntKind.wrap .i64 (17+(zF r:Int))=((17+zF r:Nat):Int):=by rw [i64_id (by omega) (by omega)]; omega
   rw [e21,Int.toNat_natCast]
   have h0:=sl_zero hr (show n - a<=c - a by omega)
   refine gd_mk (decide_eq_true (by omega)) (gd_mk (decide_eq_true (by omega)) ((whole_calls _ (21+zF r) (c - a) (r.take (21+zF r)) w4 (sl_take h0 (by omega)) (by omega) (by omega) (by omega)).mono ?_))
   rintro e w5 ⟨rfl,f5⟩
   have r1:=r1.fr f5 (fun h=>h)
   have r2:=r2.fr f5 (fun h=>h)
   have f15:=f14.trans1 f5
   have h0:=f5.sl h0 (fun _ _ _ h=>h)
   have hwh:whF (r.take (21+zF r)) (21+zF r - 4) ↔ whF r (17+zF r):=by
    show leT (((r.take (21+zF r)).drop (21+zF r - 4)).take 4)=(crcS ((r.take (21+zF r)).take (21+zF r - 4))).toNat ↔ _
    rw [List.take_take,List.drop_take,List.take_take,show 21+zF r - 4=17+zF r by omega,show min 4 (21+zF r - (17+zF r))=4 by omega,Nat.min_eq_left (show 17+zF r<=21+zF r by omega)]
   refine ⟨_,rfl,vIf_mk (fun hw=>?_) (fun hw=>⟨_,r2.cell (o:=4) rfl,?_⟩)⟩
   ·have hw:¬ whF r (17+zF r):=fun h=>ndt hw (hwh.2 h)
    exact ansN_mk (N:=4) (cs:=[.int .i64 0,.int .u64 0,.slice none 0 0,.int .i64 0]) r1 rfl rfl z1 (fun w' g=>err 5 w' (ferr 5 (frG_5' g1 g2 g3 (by omega) hw) (by decide)) (fr_var f15 hb1 g))
   ·have hw:whF r (17+zF r):=hwh.1 (ndf hw)
    have hok:=fok _ _ _ (frG_0 g1 g2 g3 (by omega) hw)
    have hdl:((r.drop 17).take (zF r)).length=zF r:=by rw [List.length_take,List.length_drop]; omega
    dsimp only
    rw [e17,Int.toNat_natCast,show 17+zF r - 17=zF r by omega]
    refine gd_mk (decide_eq_true (by omega)) (gd_mk (decide_eq_true (by omega)) (gd_mk (decide_eq_true (by omega)) ?_))
    have h17:Sl w5 1 (slA (slA R (c - a) 0 1) (c - a) 17 1) (zF r) (((r.drop 17).take (zF r)).map bv):=sl_take (sl_drop h0 (by omega) (by omega)) (by omega)
    refine (clone_by _ (zF r) (c - a - 17) ((r.drop 17).take (zF r)) w5 h17 (by omega)).mono ?_
    rintro e w6 ⟨f6,A',c',rfl,hrow⟩
    have r1:=r1.fr f6 (fun h=>h)
    have r2:=r2.fr f6 (fun h=>h)
    have f16:=f15.trans1 f6
    have hA'b:∀ k,blkOf A'=some k->k ≠ b1/\k ≠ b2:=fun k hk=>by
     have:=(hrow.blt hk).1
     have l1:=RecAt.lt (w:=w5) (by assumption:RecAt w5 b1 _ _)
     have l2:=RecAt.lt (w:=w5) (by assumption:RecAt w5 b2 _ _)
     exact ⟨by omega,by omega⟩
    refine ⟨_,_,_,rfl,r2.st_mk (o:=2) (vs:=[Value.slice A' (zF r) c']) (show 2+1<=5 by omega) (fun v hv=>by simp at hv; subst hv; rfl) (fun r3 f7=>?_)⟩
    have r3:RecAt _ b2 _ [.int .i64 (kF r:Nat),.int .u64 (sF r:Nat),.slice A' (zF r) c',.int .i64 0,.int .i64 (zF r:Nat)]:=r3
    have r1:=r1.fr f7 (fun h=>hb12 h)
    have ez:IntKind.wrap .i64 ((a:Int)+((21+zF r:Nat):Int))=(a:Int)+21+(((r.drop 17).take (zF r)).length:Int):=by rw [hdl,i64_id (by omega) (by omega)]; omega
    rw [ez]
    refine r3.st_mk (o:=3) (vs:=[Value.int .i64 ((a:Int)+21+(((r.drop 17).take (zF r)).length:Int))]) (show 3+1<=5 by omega) (fun v hv=>by simp at hv; subst hv; rfl) (fun r4 f8=>?_)
    have r4:RecAt _ b2 _ [.int .i64 (kF r:Nat),.int .u64 (sF r:Nat),.slice A' (zF r) c',.int .i64 ((a:Int)+21+(((r.drop 17).take (zF r)).length:Int)),.int .i64 (zF r:Nat)]:=r4
    have r1:=r1.fr f8 (fun h=>hb12 h)
    refine ⟨frC (frP b (a:Int)) A' (zF r) c',rfl,?_,ansN_mk (N:=4) r1 rfl rfl (frC_one _ _ _ _) (fun w' g=>?_)⟩
    ·rw [hok]
     exact r4.cells (o:=0) (fun j v hj=>by
      match j,hj with
      | 0,hj=>exact hj
      | 1,hj=>exact hj
      | 2,hj=>exact hj
      | 3,hj=>exact hj)
    ·have ff:=fr_var (fr_var (fr_var f16 (by have:=f13.size; omega) f7) (by have:=f13.size; omega) f8) hb1 g
     refine ⟨ff,A',zF r,c',by rw [hok],?_,?_⟩
     ·rw [hok]
      exact g.sl (f8.sl (f7.sl hrow.sl (fun _ k hk=>(hA'b k hk).2)) (fun _ k hk=>(hA'b k hk).2)) (fun _ k hk=>(hA'b k hk).1)
     ·exact hrow.le
 ·rw [if_neg hb]
  refine var_new (sz:=5) rfl rfl (stC_one _ _ _) (fun b2 w4 f4 hb2 r2=>vIf_t ?_ ?_)
  ·simpa using hb
  ·have r1:=r1.fr f4 (fun h=>h)
   exact ansN_mk (N:=4) (cs:=[.int .i64 0,.int .u64 0,.slice none 0 0,.int .i64 0]) r1 rfl rfl z1 (fun w' g=>err _ w' (ferr _ (beg_err hb) hb) (fr_var (f13.trans1 f4) hb1 g))
theorem ndec_t {p:Prop} [Decidable p] (h:(!decide p)=true):¬ p:=by simpa using h
theorem ndec_f {p:Prop} [Decidable p] (h:(!decide p)=false):p:=by simpa using h
abbrev plainI (c:Int):Prop:=(97<=c/\c<=122)\/(48<=c/\c<=57)
abbrev extraI (c:Int):Prop:=c=46\/c=95\/c=45
theorem plain_calls (c:Int) (w:World):Calls Tryz.prog 67 #[.int .u8 c] w fun e w'=>e=.returned (.bool (decide (plainI c)))/\w'=w:=by
 refine (F67.of c w (Q:=fun v w'=>v=.bool (decide (plainI c))/\w'=w) ?_).mono (fun e w' ⟨v,he,hv,h⟩=>⟨by rw [he,hv],h⟩)
 refine vIf_mk (fun h1=>vIf_mk (fun h2=>⟨?_,rfl⟩) (fun h2=>vIf_mk (fun h3=>⟨?_,rfl⟩) (fun h3=>⟨?_,rfl⟩))) (fun h1=>vIf_mk (fun h3=>⟨?_,rfl⟩) (fun h3=>⟨?_,rfl⟩))
 ·have h1:=of_decide_eq_true h1; have h2:=of_decide_eq_true h2
  rw [decide_eq_true (p:=plainI c) (.inl ⟨h1,h2⟩)]
 ·have h1:=of_decide_eq_true h1; have h2:=of_decide_eq_false h2
  have h3:=of_decide_eq_true h3
  congr 1
  exact decide_eq_decide.2 ⟨fun h=>.inr ⟨h3,h⟩,fun h=>h.elim (fun h=>absurd h.2 h2) (fun h=>h.2)⟩
 ·have h1:=of_decide_eq_true h1; have h2:=of_decide_eq_false h2
  have h3:=of_decide_eq_false h3
  exact absurd (show c >= 48 by omega) h3
 ·have h1:=of_decide_eq_false h1
  have h3:=of_decide_eq_true h3
  congr 1
  exact decide_eq_decide.2 ⟨fun h=>.inr ⟨h3,h⟩,fun h=>h.elim (fun h=>absurd h.1 h1) (fun h=>h.2)⟩
 ·have h1:=of_decide_eq_false h1
  have h3:=of_decide_eq_false h3
  rw [decide_eq_false (p:=plainI c) (fun h=>h.elim (fun h=>h1 h.1) (fun h=>h3 h.1))]
def tagOk (s:ByteArray) (i:Nat):Prop:=plainI (byteAt s i)\/(i ≠ 0/\extraI (byteAt s i))
def TagP (s:ByteArray):Prop:=(∀ i,i < s.size->tagOk s i)/\1<=s.size/\s.size<=32
theorem tag_calls (s:ByteArray) (w:World) (hs:s.size<=1099511627775) :
  Calls Tryz.prog 43 #[.string s] w fun e w'=>(∃ t,e=.returned (.bool t)/\(t=true ↔ TagP s))/\w'=w:=by
 refine (F43.of s w (Q:=fun v w'=>(∃ t,v=.bool t/\(t=true ↔ TagP s))/\w'=w) ?_).mono (fun e w' ⟨v,he,⟨t,hv,h⟩,h'⟩=>⟨⟨t,by rw [he,hv],h⟩,h'⟩)
 have no:∀ u:World,u=w->¬ TagP s->(∃ t,Value.bool false=.bool t/\(t=true ↔ TagP s))/\u=w:=fun u hu h=>⟨⟨false,rfl,⟨(fun h=>by cases h),fun h'=>absurd h' h⟩⟩,hu⟩
 refine vIf_mk (fun h0=>no w rfl ?_) (fun h0=>vIf_mk (fun h32=>no w rfl ?_) (fun h32=>?_))
 ·rw [nil_iff] at h0
  have:=of_decide_eq_true h0
  intro h
  have:=h.2.1
  omega
 ·have h32:=of_decide_eq_true h32
  intro h
  have:=h.2.2
  omega
 ·rw [nil_iff] at h0
  have h0:=of_decide_eq_false h0
  have h32:=of_decide_eq_false h32
  refine gd_mk (decide_eq_true (by omega)) ((plain_calls _ w).mono ?_)
  rintro e u ⟨rfl,rfl⟩
  refine ⟨_,rfl,vIf_mk (fun hp=>no u rfl ?_) (fun hp=>jnC_mk (fun _=>jnC_mk ?_))⟩
  ·have hp:¬ plainI (byteAt s 0):=ndec_t hp
   intro h
   rcases h.1 0 (by omega) with h' | h'
   ·exact hp h'
   ·exact h'.1 rfl
  ·have hp:plainI (byteAt s 0):=ndec_f hp
   refine loop_rule (fun p v=>v=u/\∃ i:Nat,i<=s.size/\p=(s,(s.size:Int),(i:Int),())/\∀ j,j < i->tagOk s j) (fun p _=>(s.size - p.2.2.1).toNat) ?_ _ _ ⟨rfl,0,by omega,rfl,fun j hj=>by omega⟩
   rintro p v C ⟨rfl,i,hi,rfl,hall⟩ hC _
   refine vIf_mk (fun hlt=>?_) (fun hge=>?_)
   ·have hlt2:(i:Int) < (s.size:Int):=of_decide_eq_true hlt
    refine gd_mk (decide_eq_true (by show (0:Int)<=(i:Int); omega)) (gd_mk hlt ((plain_calls _ v).mono ?_))
    rintro e v2 ⟨rfl,rfl⟩
    have next:tagOk s i->jnC C (s,(s.size:Int),IntKind.wrap .i64 ((i:Int)+1),()) v2:=fun hok=>by
     refine jnC_mk (hC _ _ ⟨rfl,i+1,by omega,by rw [ei i (by omega)],fun j hj=>?_⟩ ?_)
     ·by_cases hji:j=i
      ·subst hji; exact hok
      ·exact hall j (by omega)
     ·show ((s.size:Int) - IntKind.wrap .i64 ((i:Int)+1)).toNat < ((s.size:Int) - (i:Int)).toNat
      rw [ei i (by omega)]; omega
    refine ⟨_,rfl,vIf_mk (fun hn=>?_) (fun hy=>next (.inl (ndec_f hy)))⟩
    have hn:¬ plainI (byteAt s i):=ndec_t hn
    have hi0:i ≠ 0:=fun h=>by subst h; exact hn hp
    refine vIf_mk (fun h1=>vIf_mk (fun h2=>vIf_mk (fun h3=>no v2 rfl ?_) (fun h3=>next (.inr ⟨hi0,.inr (.inr (by simpa using h3))⟩))) (fun h2=>next (.inr ⟨hi0,.inr (.inl (by simpa using h2))⟩))) (fun h1=>next (.inr ⟨hi0,.inl (by simpa using h1)⟩))
    have h1:byteAt s i ≠ 46:=by simpa using h1
    have h2:byteAt s i ≠ 95:=by simpa using h2
    have h3:byteAt s i ≠ 45:=by simpa using h3
    intro h
    rcases h.1 i (by omega) with h' | ⟨_,h' | h' | h'⟩
    ·exact hn h'
    ·exact h1 h'
    ·exact h2 h'
    ·exact h3 h'
   ·have hge2:¬ (i:Int) < (s.size:Int):=of_decide_eq_false hge
    exact ⟨⟨true,rfl,⟨fun _=>⟨fun j hj=>hall j (by omega),by omega,by omega⟩,fun _=>rfl⟩⟩,rfl⟩
instance (s:ByteArray):Decidable (TagP s):=by
 unfold TagP tagOk
 infer_instance
end Go.Proofs.YtkfanhdicnjdlaaGreatDoor
namespace Go.Proofs.YtkfanhdicnjdlaaGreatDoor
open Go.GV
structure Rc where
 k:Int
 sq:Nat
 d:List UInt8
 nm:List UInt8
 dat:List UInt8
 n:Int
 z:Int
def z32:List UInt8:=List.replicate 32 0
def rc0:Rc:=⟨0,0,z32,[],[],0,0⟩
def stil:List UInt8:=[115,116,105,108,108,97,103,101]
def nuR (x:Nat):Int:=if x < 4294967296 then (x:Int) else 0
def rdR (k sq:Nat) (b:List UInt8):Option Rc :=
 if k=3\/k=4 then
  match txP b 0 with
  | none=>none
  | some (s,e) =>
   if k=4 then (if (b.drop e.toNat).length=0 then some ⟨4,sq,z32,s,[],0,0⟩ else none)
   else (if (b.drop e.toNat).length=32 then some ⟨3,sq,b.drop e.toNat,s,[],0,0⟩ else none)
 else if k=5 then (if b.length=32 then some ⟨5,sq,b,[],[],0,0⟩ else none)
 else if k=1\/k=2 then (if 32<=b.length then some ⟨k,sq,b.take 32,[],b.drop 32,0,0⟩ else none)
 else if k=7 then (if b.length=16/\b.take 8=stil then some ⟨7,sq,z32,[],[],nuR (leT (b.drop 8)),0⟩ else none)
 else (if b.length=8 then some ⟨k,sq,z32,[],[],leT (b.take 4),leT (b.drop 4)⟩ else none)
def rgR (x:Rc):Int :=
 if x.k < 1\/x.k > 8 then 2
 else if x.k<=2/\x.dat.length > 65504 then 18
 else if (x.k=3\/x.k=4)/\¬ TagP ⟨x.nm.toArray⟩ then 12
 else if (x.k=6\/x.k=8)/\(x.n < 0\/x.n > 4294967295\/x.z < 0\/x.z > 4294967295) then 20
 else if x.k=7/\(x.n < 1\/x.n > 99999999) then 20
 else 0
def recP (b:List UInt8) (at_:Int):Rc×Int×Int :=
 if (frP b at_).e ≠ 0 then (rc0,0,(frP b at_).e)
 else match rdR (frP b at_).k (frP b at_).sq (frP b at_).d with
  | none=>(rc0,0,3)
  | some x=>if rgR x ≠ 0 then (rc0,0,rgR x) else (x,(frP b at_).z,0)
theorem z32_len:z32.length=32:=by simp [z32]
theorem rdR_len {k sq:Nat} {b:List UInt8} {x:Rc} (h:rdR k sq b=some x):x.d.length=32:=by
 unfold rdR at h
 split at h
 ·split at h
  ·cases h
  ·split at h
   ·split at h
    ·cases h; exact z32_len
    ·cases h
   ·split at h
    ·rename_i h1; cases h; exact h1
    ·cases h
 ·split at h
  ·split at h
   ·rename_i h1; cases h; exact h1
   ·cases h
  ·split at h
   ·split at h
    ·rename_i h1; cases h; show (b.take 32).length=32; rw [List.length_take]; omega
    ·cases h
   ·split at h
    ·split at h
     ·cases h; exact z32_len
     ·cases h
    ·split at h
     ·cases h; exact z32_len
     ·cases h
theorem recP_len (b:List UInt8) (at_:Int):(recP b at_).1.d.length=32:=by
 unfold recP
 split
 ·exact z32_len
 ·split
  ·exact z32_len
  ·rename_i x h
   split
   ·exact z32_len
   ·exact rdR_len h
def rcC (x:Rc) (A:Option Addr) (n c:Nat):List Value:=[.int .i64 x.k,.int .u64 (x.sq:Nat)] ++ (x.d.map bv ++ [.string ⟨x.nm.toArray⟩,.slice A n c,.int .i64 x.n,.int .i64 x.z])
theorem rcC_len {x:Rc} (h:x.d.length=32) (A:Option Addr) (n c:Nat):(rcC x A n c).length=38:=by
 simp [rcC,h]
theorem rcC_one (x:Rc) (A:Option Addr) (n c:Nat):∀ v ∈ rcC x A n c,v.oneCell'=true:=by
 intro v hv
 unfold rcC at hv
 rcases List.mem_append.1 hv with h | h
 ·simp only [List.mem_cons,List.not_mem_nil,or_false] at h
  rcases h with rfl | rfl <;> rfl
 ·rcases List.mem_append.1 h with h | h
  ·exact bvs_one _ v h
  ·simp only [List.mem_cons,List.not_mem_nil,or_false] at h
   rcases h with rfl | rfl | rfl | rfl <;> rfl
theorem rcC_end {x:Rc} (h:x.d.length=32) (A:Option Addr) (n c j:Nat):(rcC x A n c)[34+j]?=([Value.string ⟨x.nm.toArray⟩,.slice A n c,.int .i64 x.n,.int .i64 x.z]:List Value)[j]?:=by
 unfold rcC
 rw [List.getElem?_append_right (show 2<=34+j by omega),List.getElem?_append_right (by simp [h]; omega)]
 congr 1
 simp [h]; omega
theorem rcC_d {x:Rc} (h:x.d.length=32) (A:Option Addr) (n c j:Nat) (v:Value) (hv:(x.d.map bv)[j]?=some v):(rcC x A n c)[2+j]?=some v:=by
 have hj:=(List.getElem?_eq_some_iff.1 hv).1
 unfold rcC
 rw [List.getElem?_append_right (by simp),List.getElem?_append_left (by simpa using hj)]
 rw [<- hv]; congr 1; simp
theorem splice_app {a b c vs:List Value} {o:Nat} (ha:a.length=o) (hb:vs.length=b.length):splice (a ++ (b ++ c)) o vs=a ++ (vs ++ c):=by
 unfold splice
 subst ha
 rw [List.take_left,<- List.drop_drop,List.drop_left,hb,List.drop_left,List.append_assoc]
theorem rcC_stn {x:Rc} (h:x.d.length=32) (A:Option Addr) (n c:Nat) (s:List UInt8):splice (rcC x A n c) 34 [.string ⟨s.toArray⟩]=rcC { x with nm:=s } A n c:=by
 have e:rcC x A n c=([.int .i64 x.k,.int .u64 (x.sq:Nat)] ++ x.d.map bv) ++ ([.string ⟨x.nm.toArray⟩] ++ [.slice A n c,.int .i64 x.n,.int .i64 x.z]):=by unfold rcC; simp
 rw [e,splice_app (by simp [h]) (by simp)]
 unfold rcC; simp
theorem rcC_sta {x:Rc} (h:x.d.length=32) (A:Option Addr) (n c:Nat) (A':Option Addr) (n' c':Nat):splice (rcC x A n c) 35 [.slice A' n' c']=rcC x A' n' c':=by
 have e:rcC x A n c=([.int .i64 x.k,.int .u64 (x.sq:Nat)] ++ x.d.map bv ++ [.string ⟨x.nm.toArray⟩]) ++ ([.slice A n c] ++ [.int .i64 x.n,.int .i64 x.z]):=by unfold rcC; simp
 rw [e,splice_app (by simp [h]) (by simp)]
 unfold rcC; simp
theorem rcC_stm {x:Rc} (h:x.d.length=32) (A:Option Addr) (n c:Nat) (m:Int):splice (rcC x A n c) 36 [.int .i64 m]=rcC { x with n:=m } A n c:=by
 have e:rcC x A n c=([.int .i64 x.k,.int .u64 (x.sq:Nat)] ++ x.d.map bv ++ [.string ⟨x.nm.toArray⟩,.slice A n c]) ++ ([.int .i64 x.n] ++ [.int .i64 x.z]):=by unfold rcC; simp
 rw [e,splice_app (by simp [h]) (by simp)]
 unfold rcC; simp
theorem rcC_stz {x:Rc} (h:x.d.length=32) (A:Option Addr) (n c:Nat) (m:Int):splice (rcC x A n c) 37 [.int .i64 m]=rcC { x with z:=m } A n c:=by
 have e:rcC x A n c=([.int .i64 x.k,.int .u64 (x.sq:Nat)] ++ x.d.map bv ++ [.string ⟨x.nm.toArray⟩,.slice A n c,.int .i64 x.n]) ++ ([.int .i64 x.z] ++ []):=by unfold rcC; simp
 rw [e,splice_app (by simp [h]) (by simp)]
 unfold rcC; simp
end Go.Proofs.YtkfanhdicnjdlaaGreatDoor
namespace Go.Proofs.YtkfanhdicnjdlaaGreatDoor
open Go.GV Go.RowKit Go.Lib
theorem rcC_stp {x:Rc} (h:x.d.length=32) (A:Option Addr) (n c:Nat) {d:List UInt8} (hd:d.length<=32):splice (rcC x A n c) 2 (d.map bv)=rcC { x with d:=d ++ x.d.drop d.length } A n c:=by
 have e:rcC x A n c=[.int .i64 x.k,.int .u64 (x.sq:Nat)] ++ ((x.d.take d.length).map bv ++ ((x.d.drop d.length).map bv ++ [.string ⟨x.nm.toArray⟩,.slice A n c,.int .i64 x.n,.int .i64 x.z])):=by
  unfold rcC
  rw [<- List.append_assoc ((x.d.take d.length).map bv),<- List.map_append,List.take_append_drop]
 rw [e,splice_app (o:=2) rfl (by simp [h]; omega)]
 unfold rcC
 rw [List.map_append,List.append_assoc]
theorem cpy_rec {w:World} {b:Nat} {e:TypeId} {cs:List Value} {o N:Nat} {A:Option Addr} {n c:Nat} {l:List UInt8} {K:Nat->World->Prop} (r:RecAt w b e cs) (ho:o+N<=cs.length) (hs:Sl w 1 A n (l.map bv))
  (hK:∀ w',RecAt w' b e (splice cs o ((l.take (min n N)).map bv))->Fr (fun k=>k=b) w w'->K (min n N) w'):cpy w 1 (some ⟨b,o,none⟩) N (.slice A n c) K:=by
 have hl:=sl_len hs
 refine ⟨n,_,hs.src,fun h0=>?_,fun h0=>?_⟩
 ·have:=hK w (by rw [h0,List.take_zero,List.map_nil,splice_nil]; exact r) (Fr.refl _ _)
  rw [h0] at this; exact this
 ·show st w b o _ _
  rw [Nat.mul_one,<- List.map_take]
  exact r.st_mk (by rw [List.length_map,List.length_take]; omega) (bvs_one _) (fun r2 f2=>hK _ r2 f2)
theorem cp_mk {w:World} {b1 b3:Nat} {e e':TypeId} {cs old:List Value} {N:Nat} (r1:RecAt w b1 e cs) (hc:cs.length=N) (r3:RecAt w b3 e' old) (ho:old.length=N) (h1:∀ v ∈ cs,v.oneCell'=true) {K:List Value->World->Prop} (hK:∀ w',Fr (fun k=>k=b3) w w'->K cs w') :
  ldA N w b1 0 fun a=>gd (a.length == N) (st w b3 0 a fun w1=>ldA N w1 b3 0 fun a'=>K a' w1) :=
 ⟨cs,hc,rec_all r1,ansN_mk r3 ho hc h1 hK⟩
theorem num_calls (A:Option Addr) (n c:Nat) (b:List UInt8) (at_ size:Int) (w:World) (h:Sl w 1 A n (b.map bv)) (hn:n<=1099511627776) :
  Calls Tryz.prog 42 #[.slice A n c,.int .i64 at_,.int .i64 size] w fun e w'=>e=.returned (.int .i64 (nuR (tkN b at_ size)))/\w'=w:=by
 refine (F42.of A n c at_ size w (Q:=fun v w'=>v=.int .i64 (nuR (tkN b at_ size))/\w'=w) ?_).mono (fun e w' ⟨v,he,hv,h⟩=>⟨by rw [he,hv],h⟩)
 refine (take_calls A n c b at_ size w h hn).mono ?_
 rintro e u ⟨rfl,rfl⟩
 refine ⟨_,_,rfl,vIf_mk (fun h1=>⟨?_,rfl⟩) (fun h1=>⟨?_,rfl⟩)⟩
 ·have h1:((tkN b at_ size:Nat):Int) > 4294967295:=of_decide_eq_true h1
  unfold nuR
  rw [if_neg (by omega)]
 ·have h1:¬ ((tkN b at_ size:Nat):Int) > 4294967295:=of_decide_eq_false h1
  unfold nuR
  rw [if_pos (by omega),i64_id (by omega) (by omega)]
abbrev FiA (w w':World) (v:Value) (o:Option Rc):Prop:=Fr (fun _=>False) w w'/\∃ (y:Rc) (A:Option Addr) (n c:Nat),v=.tuple #[ofL (rcC y A n c),.bool o.isSome]/\y.d.length=32/\Sl w' 1 A n (y.dat.map bv)/\n<=c/\(∀ q,blkOf A=some q->w.heap.size<=q)/\∀ x,o=some x->y=x
theorem txP_some {b s:List UInt8} {e:Int} (h:txP b 0=some (s,e)):1<=e/\e<=(b.length:Int):=by
 unfold txP at h
 split at h
 ·rename_i h1
  cases h
  have:=h1.2
  omega
 ·cases h
set_option maxHeartbeats 4000000 in
theorem fill_calls (k sq:Nat) (A:Option Addr) (n c:Nat) (b:List UInt8) (w:World) (h:Sl w 1 A n (b.map bv)) (hc:n<=c) (hn:n<=1099511627776) :
  Calls Tryz.prog 22 #[ofL (rcC ⟨(k:Nat),sq,z32,[],[],0,0⟩ none 0 0),.slice A n c] w fun e w'=>∃ v,e=.returned v/\FiA w w' v (rdR k sq b):=by
 have hl:=sl_len h
 refine F22.of _ A n c w (Q:=fun v w'=>FiA w w' v (rdR k sq b)) ?_
 generalize hy0:(⟨(k:Nat),sq,z32,[],[],0,0⟩:Rc)=y0
 have d0:y0.d.length=32:=by rw [<- hy0]; exact z32_len
 have dat0:y0.dat=[]:=by rw [<- hy0]
 have k0:y0.k=(k:Int):=by rw [<- hy0]
 refine rec_new (fun b1 w2 f1 hb1 r1=>rec_new (fun b3 w4 f3 hb3 r3=>?_))
 have r1:=r1.fr f3 (fun h=>h)
 have f13:=f1.trans1 f3
 have hb3':w.heap.size<=b3:=by have:=f1.size; omega
 have hne:b1 ≠ b3:=by
  have:=RecAt.lt (w:=w2) (by assumption:RecAt w2 b1 _ _)
  omega
 have Z38:Z34.length=38:=rfl
 have hs4:=f13.sl h (fun _ _ _ h=>h)
 refine ⟨_,r1.cell (o:=0) (v:=.int .i64 (k:Nat)) (by rw [<- k0]; rfl),?_⟩
 have ans:∀ (u:World) (y:Rc) (A':Option Addr) (n' c':Nat) (t:Bool),Fr (fun _=>False) w u->RecAt u b1 34 (rcC y A' n' c')->RecAt u b3 34 Z34->y.d.length=32->Sl u 1 A' n' (y.dat.map bv)->(∀ q,blkOf A'=some q->q ≠ b3)->(∀ q,blkOf A'=some q->w.heap.size<=q)->n'<=c'->t=(rdR k sq b).isSome->(∀ x,rdR k sq b=some x->y=x) ->
   ldA 38 u b1 0 fun a=>gd (a.length == 38) (st u b3 0 a fun w1=>ldA 38 w1 b3 0 fun a'=>FiA w w1 (.tuple #[ofL a',.bool t]) (rdR k sq b)):=by
  rintro u y A' n' c' t fu q1 q3 hy hA hB hF hle rfl hx
  refine cp_mk (N:=38) (K:=fun a' w1=>FiA w w1 (.tuple #[ofL a',.bool (rdR k sq b).isSome]) (rdR k sq b)) q1 (rcC_len hy _ _ _) q3 Z38 (rcC_one _ _ _ _) (fun w' g=>⟨fr_var fu hb3' g,y,A',n',c',rfl,hy,g.sl hA (fun _ k hk he=>hB k hk he),hle,hF,hx⟩)
 have nilB:∀ q,blkOf none=some q->q ≠ b3:=fun q hq=>by cases hq
 have nilF:∀ q,blkOf none=some q->w.heap.size<=q:=fun q hq=>by cases hq
 have k14:∀ (u:World) (y:Rc) (A1:Option Addr) (n1 c1:Nat) (l:List UInt8),Fr (fun _=>False) w u->RecAt u b1 34 (rcC y none 0 0)->RecAt u b3 34 Z34->y.d.length=32->y.dat=[]->Sl u 1 A1 n1 (l.map bv)->(rdR k sq b=if l.length=32 then some { y with d:=l } else none) ->
   jnC (F22.k14 (fun v w'=>FiA w w' v (rdR k sq b))) ((A1,n1,c1),(b1,0),(b3,0),()) u:=by
  intro u y A1 n1 c1 l fu q1 q3 hy hyd hS hrd
  have hln:=sl_len hS
  refine jnC_mk (fun _=>cpy_rec (o:=2) q1 (by rw [rcC_len hy]; omega) hS (fun w' q1' g=>?_))
  rw [rcC_stp hy _ _ _ (by rw [List.length_take]; omega)] at q1'
  have q3':=q3.fr g (fun h=>hne h.symm)
  refine ans w' _ none 0 0 _ (fr_var fu hb1 g) q1' q3' ?_ (by show Sl w' 1 none 0 (y.dat.map bv); rw [hyd]; exact Sl.nil _ _ _) nilB nilF (Nat.le_refl _) ?_ ?_
  ·show (_ ++ _:List UInt8).length=32
   rw [List.length_append,List.length_drop,List.length_take,hy]; omega
  ·rw [hrd]
   by_cases h32:l.length=32
   ·rw [if_pos h32]
    have:n1=32:=by omega
    subst this; rfl
   ·rw [if_neg h32]
    show ((n1:Int) == 32)=false
    rw [beq_eq_false_iff_ne]; omega
  ·intro x hx
   rw [hrd] at hx
   split at hx
   ·rename_i h32
    cases hx
    have e1:l.take (min n1 32)=l:=List.take_of_length_le (by omega)
    rw [e1,List.drop_of_length_le (by omega),List.append_nil]
   ·cases hx
 have k8:(k=3\/k=4)->jnC (F22.k8 (fun v w'=>FiA w w' v (rdR k sq b))) ((A,n,c),(b1,0),(b3,0),()) w4:=by
  intro h34
  refine jnC_mk (fun _=>(text_calls A n c b 0 w4 hs4 hc hn ⟨by omega,by omega⟩).mono ?_)
  rintro e u ⟨rfl,rfl⟩
  have hrd:rdR k sq b=match txP b 0 with
   | none=>none
   | some (s,e)=>if k=4 then (if (b.drop e.toNat).length=0 then some ⟨4,sq,z32,s,[],0,0⟩ else none) else (if (b.drop e.toNat).length=32 then some ⟨3,sq,b.drop e.toNat,s,[],0,0⟩ else none):=by
   unfold rdR
   exact if_pos h34
  cases ht:txP b 0 with
  | none =>
   rw [ht] at hrd
   refine ⟨_,_,_,rfl,vIf_t rfl ?_⟩
   exact ans u y0 none 0 0 false f13 r1 r3 d0 (by rw [dat0]; exact Sl.nil _ _ _) nilB nilF (Nat.le_refl _) (by rw [hrd]; rfl) (fun x hx=>by rw [hrd] at hx; cases hx)
  | some p =>
   obtain ⟨s,e⟩:=p
   rw [ht] at hrd
   dsimp only at hrd
   obtain ⟨he1,he2⟩:=txP_some ht
   obtain ⟨a,rfl⟩:∃ a:Nat,e=(a:Int):=⟨e.toNat,by omega⟩
   rw [Int.toNat_natCast] at hrd
   refine ⟨_,_,_,rfl,vIf_f rfl (gd_mk (decide_eq_true (by omega)) (gd_mk (decide_eq_true (by show (a:Int)<=(n:Int); omega)) ?_))⟩
   have fd:Fr (fun _=>False) u u.drew:=Fr.drew _ _
   have r1:=r1.fr fd (fun h=>h)
   have r3:=r3.fr fd (fun h=>h)
   have fud:=f13.trans1 fd
   refine r1.st_mk (o:=34) (vs:=[.string ⟨s.toArray⟩]) (by rw [rcC_len d0]; show 34+1<=38; omega) (fun v hv=>by simp at hv; subst hv; rfl) (fun r1' g=>?_)
   rw [rcC_stn d0] at r1'
   have r3:=r3.fr g (fun h=>hne h.symm)
   have f4:=fr_var fud hb1 g
   generalize stB u.drew b1 34 [Value.string ⟨s.toArray⟩]=u2 at r1' r3 f4
   refine ⟨_,r1'.cell (o:=0) (v:=.int .i64 (k:Nat)) (by rw [<- k0]; rfl),vIf_mk (fun h4=>?_) (fun h4=>?_)⟩
   ·have h4:(k:Int)=4:=by simpa using h4
    have hk4:k=4:=by omega
    rw [if_pos hk4] at hrd
    have hdl:(b.drop a).length=n - a:=by rw [List.length_drop,hl]
    refine ans u2 _ none 0 0 _ f4 r1' r3 d0 (by show Sl u2 1 none 0 (y0.dat.map bv); rw [dat0]; exact Sl.nil _ _ _) nilB nilF (Nat.le_refl _) ?_ ?_
    ·rw [hrd,hdl]
     show (((n - a:Nat):Int) == 0)=_
     by_cases h0:n - a=0
     ·rw [if_pos h0,h0]; rfl
     ·rw [if_neg h0]
      show _=false
      rw [beq_eq_false_iff_ne]; omega
    ·intro x hx
     rw [hrd] at hx
     split at hx
     ·cases hx
      rw [<- hy0,hk4]; rfl
     ·cases hx
   ·have h4:¬ (k:Int)=4:=by simpa using h4
    have hk3:k=3:=by omega
    rw [if_neg (by omega)] at hrd
    refine k14 u2 _ (slA A c a 1) (n - a) (c - a) (b.drop a) f4 r1' r3 d0 dat0 (sl_drop (f4.sl h (fun _ _ _ h=>h)) (by omega) hc) ?_
    rw [hrd,<- hy0,hk3]; rfl
 have k4:¬ (k=3\/k=4)->jnC (F22.k4 (fun v w'=>FiA w w' v (rdR k sq b))) ((A,n,c),(b1,0),(b3,0),(k:Int),()) w4:=by
  intro h34
  have k16:(k=1\/k=2)->jnC (F22.k16 (fun v w'=>FiA w w' v (rdR k sq b))) ((A,n,c),(b1,0),(b3,0),()) w4:=by
   intro h12
   have hrd:rdR k sq b=if 32<=b.length then some ⟨k,sq,b.take 32,[],b.drop 32,0,0⟩ else none:=by
    unfold rdR
    rw [if_neg h34,if_neg (by omega),if_pos h12]
   refine jnC_mk (fun _=>cpy_rec (o:=2) r1 (by rw [rcC_len d0]; omega) hs4 (fun u q1 g=>?_))
   rw [rcC_stp d0 _ _ _ (by rw [List.length_take]; omega)] at q1
   have q3:=r3.fr g (fun h=>hne h.symm)
   have fu:=fr_var f13 hb1 g
   have hm:min n 32<=n:=Nat.min_le_left _ _
   refine gd_mk (decide_eq_true (by omega)) (gd_mk (decide_eq_true (by show ((min n 32:Nat):Int)<=(n:Int); omega)) ?_)
   dsimp only
   rw [Int.toNat_natCast]
   refine (clone_by _ (n - min n 32) (c - min n 32) (b.drop (min n 32)) u (sl_drop (fu.sl h (fun _ _ _ h=>h)) hm hc) (by omega)).mono ?_
   rintro e u2 ⟨f2,A2,c2,rfl,hrow⟩
   have l1:=q1.lt
   have l3:=q3.lt
   have q1:=q1.fr f2 (fun h=>h)
   have q3:=q3.fr f2 (fun h=>h)
   have hyl:((b.take (min n 32)) ++ y0.d.drop (b.take (min n 32)).length).length=32:=by
    rw [List.length_append,List.length_drop,List.length_take,d0]; omega
   refine ⟨A2,_,c2,rfl,q1.st_mk (o:=35) (vs:=[.slice A2 (n - min n 32) c2]) (by rw [rcC_len hyl]; show 35+1<=38; omega) (fun v hv=>by simp at hv; subst hv; rfl) (fun q1' g2=>?_)⟩
   rw [rcC_sta hyl] at q1'
   have q3:=q3.fr g2 (fun h=>hne h.symm)
   have fu2:=fr_var (fu.trans1 f2) hb1 g2
   have hblk:∀ q,blkOf A2=some q->q ≠ b1/\q ≠ b3:=fun q hq=>by
    have:=(hrow.blt hq).1
    exact ⟨Nat.ne_of_gt (Nat.lt_of_lt_of_le l1 this),Nat.ne_of_gt (Nat.lt_of_lt_of_le l3 this)⟩
   have hsl:=g2.sl hrow.sl (fun _ q hq=>(hblk q hq).1)
   refine ans _ ⟨y0.k,y0.sq,b.take (min n 32) ++ y0.d.drop (b.take (min n 32)).length,y0.nm,b.drop (min n 32),y0.n,y0.z⟩ A2 (n - min n 32) c2 _ fu2 q1' q3 hyl hsl (fun q hq=>(hblk q hq).2) (fun q hq=>Nat.le_trans fu.size (hrow.blt hq).1) hrow.le ?_ ?_
   ·rw [hrd]
    by_cases h32:32<=b.length
    ·rw [if_pos h32]
     have:min n 32=32:=by omega
     rw [this]; rfl
    ·rw [if_neg h32]
     show (((min n 32:Nat):Int) == 32)=false
     rw [beq_eq_false_iff_ne]; omega
   ·intro x hx
    rw [hrd] at hx
    split at hx
    ·cases hx
     have:min n 32=32:=by omega
     have hz:y0.d.drop 32=[]:=List.drop_of_length_le (by omega)
     rw [this,List.length_take,show min 32 b.length=32 by omega,hz,List.append_nil,<- hy0]
    ·cases hx
  have k23:k ≠ 5->k ≠ 1->k ≠ 2->k ≠ 7->jnC (F22.k23 (fun v w'=>FiA w w' v (rdR k sq b))) ((A,n,c),(b1,0),(b3,0),()) w4:=by
   intro n5 n1 n2 n7
   have hrd:rdR k sq b=if b.length=8 then some ⟨k,sq,z32,[],[],leT (b.take 4),leT (b.drop 4)⟩ else none:=by
    unfold rdR
    rw [if_neg h34,if_neg n5,if_neg (by omega),if_neg n7]
   refine jnC_mk (fun _=>(num_calls A n c b 0 4 w4 hs4 hn).mono ?_)
   rintro e u ⟨rfl,rfl⟩
   refine ⟨_,rfl,(num_calls A n c b 4 4 u hs4 hn).mono ?_⟩
   rintro e u ⟨rfl,rfl⟩
   refine ⟨_,rfl,r1.st_mk (o:=36) (vs:=[.int .i64 (nuR (tkN b 0 4))]) (by rw [rcC_len d0]; show 36+1<=38; omega) (fun v hv=>by simp at hv; subst hv; rfl) (fun q1 g=>?_)⟩
   rw [rcC_stm d0] at q1
   have q3:=r3.fr g (fun h=>hne h.symm)
   have fu:=fr_var f13 hb1 g
   have d0':({ y0 with n:=nuR (tkN b 0 4) }:Rc).d.length=32:=d0
   refine q1.st_mk (o:=37) (vs:=[.int .i64 (nuR (tkN b 4 4))]) (by rw [rcC_len d0']; show 37+1<=38; omega) (fun v hv=>by simp at hv; subst hv; rfl) (fun q2 g2=>?_)
   rw [rcC_stz d0'] at q2
   have q3:=q3.fr g2 (fun h=>hne h.symm)
   have fu2:=fr_var fu hb1 g2
   refine ans _ _ none 0 0 _ fu2 q2 q3 d0 (by show Sl _ 1 none 0 (y0.dat.map bv); rw [dat0]; exact Sl.nil _ _ _) nilB nilF (Nat.le_refl _) ?_ ?_
   ·rw [hrd]
    by_cases h8:b.length=8
    ·rw [if_pos h8]
     have:n=8:=by omega
     subst this; rfl
    ·rw [if_neg h8]
     show ((n:Int) == 8)=false
     rw [beq_eq_false_iff_ne]; omega
   ·intro x hx
    rw [hrd] at hx
    split at hx
    ·rename_i h8
     cases hx
     have t1:tkN b 0 4=leT (b.take 4):=by
      have:=tk_eq (b:=b) (a:=0) (z:=4) (by omega)
      rw [List.drop_zero] at this; exact this
     have t2:tkN b 4 4=leT (b.drop 4):=by
      have:=tk_eq (b:=b) (a:=4) (z:=4) (by omega)
      rw [List.take_of_length_le (by rw [List.length_drop]; omega)] at this; exact this
     have l1:=le4_lt b
     have l2:leT (b.drop 4) < 4294967296:=by
      have:=le4_lt (b.drop 4)
      rwa [List.take_of_length_le (by rw [List.length_drop]; omega)] at this
     rw [t1,t2,nuR,nuR,if_pos l1,if_pos l2,<- hy0]
    ·cases hx
  have k19:k=7->jnC (F22.k19 (fun v w'=>FiA w w' v (rdR k sq b))) ((A,n,c),(b1,0),(b3,0),()) w4:=by
   intro h7
   have hrd:rdR k sq b=if b.length=16/\b.take 8=stil then some ⟨7,sq,z32,[],[],nuR (leT (b.drop 8)),0⟩ else none:=by
    unfold rdR
    rw [if_neg h34,if_neg (by omega),if_neg (by omega),if_pos h7]
   have k20:∀ t:Bool,t=!decide (b.length=16/\b.take 8=stil)->jnC (F22.k20 (fun v w'=>FiA w w' v (rdR k sq b))) ((A,n,c),(b1,0),(b3,0),t,()) w4:=by
    rintro t rfl
    refine jnC_mk (fun _=>vIf_mk (fun ht=>?_) (fun ht=>jnC_mk (fun _=>(num_calls A n c b 8 8 w4 hs4 hn).mono ?_)))
    ·rw [if_neg (ndt ht)] at hrd
     exact ans w4 y0 none 0 0 false f13 r1 r3 d0 (by rw [dat0]; exact Sl.nil _ _ _) nilB nilF (Nat.le_refl _) (by rw [hrd]; rfl) (fun x hx=>by rw [hrd] at hx; cases hx)
    ·have hh:=ndf ht
     rw [if_pos hh] at hrd
     rintro e u ⟨rfl,rfl⟩
     refine ⟨_,rfl,r1.st_mk (o:=36) (vs:=[.int .i64 (nuR (tkN b 8 8))]) (by rw [rcC_len d0]; show 36+1<=38; omega) (fun v hv=>by simp at hv; subst hv; rfl) (fun q1 g=>?_)⟩
     rw [rcC_stm d0] at q1
     have q3:=r3.fr g (fun h=>hne h.symm)
     have fu:=fr_var f13 hb1 g
     refine ans _ _ none 0 0 true fu q1 q3 d0 (by show Sl _ 1 none 0 (y0.dat.map bv); rw [dat0]; exact Sl.nil _ _ _) nilB nilF (Nat.le_refl _) (by rw [hrd]; rfl) ?_
     intro x hx
     rw [hrd] at hx
     cases hx
     have h16:=hh.1
     have t1:tkN b 8 8=leT (b.drop 8):=by
      have:=tk_eq (b:=b) (a:=8) (z:=8) (by omega)
      rw [List.take_of_length_le (by rw [List.length_drop]; omega)] at this; exact this
     rw [t1,<- hy0,h7]; rfl
   refine jnC_mk (fun _=>vIf_mk (fun h16=>k20 _ ?_) (fun h16=>?_))
   ·have h16:(n:Int) ≠ 16:=by simpa using h16
    rw [decide_eq_false (fun h=>h16 (by have:=h.1; omega))]; rfl
   ·have h16:(n:Int)=16:=by simpa using h16
    refine gd_mk (decide_eq_true (by show (8:Int)<=(c:Int); omega)) (b2s_sl (l:=b.take 8) (sl_take (sl_zero hs4 hc) (by omega)) (k20 _ ?_))
    congr 1
    have e:((⟨(b.take 8).toArray⟩:ByteArray).toList == (⟨#[115,116,105,108,108,97,103,101]⟩:ByteArray).toList)=decide (b.take 8=stil):=by
     rw [ByteArray.toList_eq,ByteArray.toList_eq]
     show (b.take 8 == stil)=_
     by_cases he:b.take 8=stil
     ·rw [he]; rfl
     ·rw [decide_eq_false he,beq_eq_false_iff_ne]; exact he
    rw [e]
    exact decide_eq_decide.2 ⟨fun h=>⟨by omega,h⟩,fun h=>h.2⟩
  refine jnC_mk (fun _=>vIf_mk (fun h5=>?_) (fun h5=>?_))
  ·have h5:(k:Int)=5:=by simpa using h5
   refine k14 w4 y0 A n c b f13 r1 r3 d0 dat0 hs4 ?_
   unfold rdR
   rw [if_neg h34,if_pos (by omega),<- hy0]
   have:k=5:=by omega
   rw [this]; rfl
  ·have h5:¬ (k:Int)=5:=by simpa using h5
   have oth:(¬ (k:Int)=1)->(¬ (k:Int)=2)->vIf ((k:Int) == 7) (jnC (F22.k19 (fun v w'=>FiA w w' v (rdR k sq b))) ((A,n,c),(b1,0),(b3,0),()) w4) (jnC (F22.k23 (fun v w'=>FiA w w' v (rdR k sq b))) ((A,n,c),(b1,0),(b3,0),()) w4):=by
    intro n1 n2
    refine vIf_mk (fun h7=>k19 ?_) (fun h7=>k23 (by omega) (by omega) (by omega) ?_)
    ·have h7:(k:Int)=7:=by simpa using h7
     omega
    ·have h7:¬ (k:Int)=7:=by simpa using h7
     omega
   refine vIf_mk (fun h1=>vIf_mk (fun h1'=>k16 (.inl ?_)) (fun h1'=>?_)) (fun h1=>vIf_mk (fun h2=>k16 (.inr ?_)) (fun h2=>oth ?_ ?_))
   ·have h1:(k:Int)=1:=by simpa using h1
    omega
   ·rw [h1] at h1'; cases h1'
   ·have h2:(k:Int)=2:=by simpa using h2
    omega
   ·simpa using h1
   ·simpa using h2
 refine vIf_mk (fun h3=>vIf_mk (fun h3'=>k8 (.inl ?_)) (fun h3'=>?_)) (fun h3=>vIf_mk (fun h4=>k8 (.inr ?_)) (fun h4=>k4 ?_))
 ·have h3:(k:Int)=3:=by simpa using h3
  omega
 ·rw [h3] at h3'; cases h3'
 ·have h4:(k:Int)=4:=by simpa using h4
  omega
 ·have h3:¬ (k:Int)=3:=by simpa using h3
  have h4:¬ (k:Int)=4:=by simpa using h4
  omega
theorem rc_name {x:Rc} (h:x.d.length=32) (A:Option Addr) (n c:Nat):(rcC x A n c)[34]?=some (.string ⟨x.nm.toArray⟩):=rcC_end h A n c 0
theorem rc_data {x:Rc} (h:x.d.length=32) (A:Option Addr) (n c:Nat):(rcC x A n c)[35]?=some (.slice A n c):=rcC_end h A n c 1
theorem rc_n {x:Rc} (h:x.d.length=32) (A:Option Addr) (n c:Nat):(rcC x A n c)[36]?=some (.int .i64 x.n):=rcC_end h A n c 2
theorem rc_z {x:Rc} (h:x.d.length=32) (A:Option Addr) (n c:Nat):(rcC x A n c)[37]?=some (.int .i64 x.z):=rcC_end h A n c 3
theorem rdR_nm {k sq:Nat} {b:List UInt8} {x:Rc} (h:rdR k sq b=some x):x.nm.length<=255/\x.dat.length<=b.length:=by
 have tx:∀ s e,txP b 0=some (s,e)->s.length<=255:=by
  intro s e h
  unfold txP at h
  split at h
  ·cases h
   have:=tkOne_lt b 0
   rw [List.length_take]; omega
  ·cases h
 unfold rdR at h
 split at h
 ·split at h
  ·cases h
  ·rename_i s e he
   split at h
   ·split at h
    ·cases h; exact ⟨tx s e he,Nat.zero_le _⟩
    ·cases h
   ·split at h
    ·cases h; exact ⟨tx s e he,Nat.zero_le _⟩
    ·cases h
 ·split at h
  ·split at h
   ·cases h; exact ⟨Nat.zero_le _,Nat.zero_le _⟩
   ·cases h
  ·split at h
   ·split at h
    ·cases h; exact ⟨Nat.zero_le _,by show (b.drop 32).length<=_; rw [List.length_drop]; omega⟩
    ·cases h
   ·split at h
    ·split at h
     ·cases h; exact ⟨Nat.zero_le _,Nat.zero_le _⟩
     ·cases h
    ·split at h
     ·cases h; exact ⟨Nat.zero_le _,Nat.zero_le _⟩
     ·cases h
set_option maxHeartbeats 2000000 in
theorem rgt_calls (x:Rc) (A:Option Addr) (n c:Nat) (w:World) (hd:x.d.length=32) (hn:n=x.dat.length) (hm:x.nm.length<=1099511627775) :
  Calls Tryz.prog 23 #[ofL (rcC x A n c)] w fun e w'=>e=.returned (.int .i64 (rgR x))/\Fr (fun _=>False) w w':=by
 refine (F23.of _ w (Q:=fun v w'=>v=.int .i64 (rgR x)/\Fr (fun _=>False) w w') ?_).mono (fun e w' ⟨v,he,hv,h⟩=>⟨by rw [he,hv],h⟩)
 refine rec_new (fun b1 w2 f1 hb1 r1=>⟨_,r1.cell (o:=0) (v:=.int .i64 x.k) rfl,?_⟩)
 have ans:∀ e:Int,rgR x=e->Value.int .i64 e=.int .i64 (rgR x)/\Fr (fun _=>False) w w2:=fun e he=>⟨by rw [he],f1⟩
 have c36:=r1.cell (o:=36) (rc_n hd A n c)
 have c37:=r1.cell (o:=37) (rc_z hd A n c)
 have k14:∀ t:Bool,t=decide (x.k=6\/x.k=8)->¬ (x.k=1\/x.k=2)->¬ (x.k=3\/x.k=4)->jnC (F23.k14 (fun v w'=>v=.int .i64 (rgR x)/\Fr (fun _=>False) w w')) ((b1,0),4294967295,x.k,t,()) w2:=by
  rintro t rfl h12 h34
  have u1:¬ (x.k < 1\/x.k > 8)->rgR x=if (x.k=6\/x.k=8)/\(x.n < 0\/x.n > 4294967295\/x.z < 0\/x.z > 4294967295) then 20 else if x.k=7/\(x.n < 1\/x.n > 99999999) then 20 else 0:=fun h=>by
   unfold rgR
   rw [if_neg h,if_neg (by omega),if_neg (fun h=>h34 h.1)]
  refine jnC_mk (fun _=>vIf_mk (fun h68=>?_) (fun h68=>?_))
  ·have h68:=of_decide_eq_true h68
   have u1:=u1 (by omega)
   refine ⟨_,c36,vIf_mk (fun h1=>ans 20 ?_) (fun h1=>⟨_,c36,vIf_mk (fun h2=>ans 20 ?_) (fun h2=>⟨_,c37,vIf_mk (fun h3=>ans 20 ?_) (fun h3=>⟨_,c37,vIf_mk (fun h4=>ans 20 ?_) (fun h4=>ans 0 ?_)⟩)⟩)⟩)⟩
   ·have h1:x.n < 0:=of_decide_eq_true h1
    rw [u1,if_pos ⟨h68,.inl h1⟩]
   ·have h2:x.n > 4294967295:=of_decide_eq_true h2
    rw [u1,if_pos ⟨h68,.inr (.inl h2)⟩]
   ·have h3:x.z < 0:=of_decide_eq_true h3
    rw [u1,if_pos ⟨h68,.inr (.inr (.inl h3))⟩]
   ·have h4:x.z > 4294967295:=of_decide_eq_true h4
    rw [u1,if_pos ⟨h68,.inr (.inr (.inr h4))⟩]
   ·have h1:¬ x.n < 0:=of_decide_eq_false h1
    have h2:¬ x.n > 4294967295:=of_decide_eq_false h2
    have h3:¬ x.z < 0:=of_decide_eq_false h3
    have h4:¬ x.z > 4294967295:=of_decide_eq_false h4
    rw [u1,if_neg (fun h=>h.2.elim h1 (fun h=>h.elim h2 (fun h=>h.elim h3 h4))),if_neg (by omega)]
  ·have h68:=of_decide_eq_false h68
   refine vIf_mk (fun h7=>?_) (fun h7=>vIf_mk (fun h5=>ans 0 ?_) (fun h5=>ans 2 ?_))
   ·have h7:x.k=7:=by simpa using h7
    have u1:=u1 (by omega)
    rw [if_neg (fun h=>h68 h.1)] at u1
    refine ⟨_,c36,vIf_mk (fun h1=>ans 20 ?_) (fun h1=>⟨_,c36,vIf_mk (fun h2=>ans 20 ?_) (fun h2=>ans 0 ?_)⟩)⟩
    ·have h1:x.n < 1:=of_decide_eq_true h1
     rw [u1,if_pos ⟨h7,.inl h1⟩]
    ·have h2:x.n > 99999999:=of_decide_eq_true h2
     rw [u1,if_pos ⟨h7,.inr h2⟩]
    ·have h1:¬ x.n < 1:=of_decide_eq_false h1
     have h2:¬ x.n > 99999999:=of_decide_eq_false h2
     rw [u1,if_neg (fun h=>h.2.elim h1 h2)]
   ·have h5:x.k=5:=by simpa using h5
    rw [u1 (by omega),if_neg (fun h=>h68 h.1),if_neg (by omega)]
   ·have h5:¬ x.k=5:=by simpa using h5
    have h7:¬ x.k=7:=by simpa using h7
    unfold rgR
    rw [if_pos (by omega)]
 have k10:∀ t:Bool,t=decide (x.k=3\/x.k=4)->¬ (x.k=1\/x.k=2)->jnC (F23.k10 (fun v w'=>v=.int .i64 (rgR x)/\Fr (fun _=>False) w w')) ((b1,0),4294967295,x.k,t,()) w2:=by
  rintro t rfl h12
  refine jnC_mk (fun _=>vIf_mk (fun h34=>?_) (fun h34=>?_))
  ·have h34:=of_decide_eq_true h34
   refine ⟨_,r1.cell (o:=34) (rc_name hd A n c),(tag_calls _ w2 (by show (⟨x.nm.toArray⟩:ByteArray).size<=_; show x.nm.toArray.size<=_; rw [List.size_toArray]; omega)).mono ?_⟩
   rintro e u ⟨⟨t,rfl,ht⟩,rfl⟩
   refine ⟨t,rfl,vIf_mk (fun h=>ans 12 ?_) (fun h=>ans 0 ?_)⟩
   ·have hno:¬ TagP ⟨x.nm.toArray⟩:=fun hp=>by rw [ht.2 hp] at h; cases h
    unfold rgR
    rw [if_neg (by omega),if_neg (by omega),if_pos ⟨h34,hno⟩]
   ·have hyes:TagP ⟨x.nm.toArray⟩:=ht.1 (by cases t <;> simp_all)
    unfold rgR
    rw [if_neg (by omega),if_neg (by omega),if_neg (fun h=>h.2 hyes),if_neg (by omega),if_neg (by omega)]
  ·have h34:=of_decide_eq_false h34
   refine vIf_mk (fun h6=>k14 _ ?_ h12 h34) (fun h6=>k14 _ ?_ h12 h34)
   ·have h6':x.k=6:=by simpa using h6
    show (x.k == 6)=_
    rw [h6']; rfl
   ·have h6':¬ x.k=6:=by simpa using h6
    show (x.k == 8)=_
    by_cases h8:x.k=8
    ·rw [h8]; rfl
    ·rw [decide_eq_false (by omega),beq_eq_false_iff_ne]; exact h8
 have k6:∀ t:Bool,t=decide (x.k=1\/x.k=2)->jnC (F23.k6 (fun v w'=>v=.int .i64 (rgR x)/\Fr (fun _=>False) w w')) ((b1,0),4294967295,x.k,t,()) w2:=by
  rintro t rfl
  refine jnC_mk (fun _=>vIf_mk (fun h12=>?_) (fun h12=>?_))
  ·have h12:=of_decide_eq_true h12
   refine ⟨A,n,c,r1.cell (o:=35) (rc_data hd A n c),vIf_mk (fun h=>ans 18 ?_) (fun h=>ans 0 ?_)⟩
   ·have h:(n:Int) > 65504:=of_decide_eq_true h
    unfold rgR
    rw [if_neg (by omega),if_pos ⟨by omega,by omega⟩]
   ·have h:¬ (n:Int) > 65504:=of_decide_eq_false h
    unfold rgR
    rw [if_neg (by omega),if_neg (by omega),if_neg (by omega),if_neg (by omega),if_neg (by omega)]
  ·have h12:=of_decide_eq_false h12
   refine vIf_mk (fun h3=>k10 _ ?_ h12) (fun h3=>k10 _ ?_ h12)
   ·have h3':x.k=3:=by simpa using h3
    show (x.k == 3)=_
    rw [h3']; rfl
   ·have h3':¬ x.k=3:=by simpa using h3
    show (x.k == 4)=_
    by_cases h4:x.k=4
    ·rw [h4]; rfl
    ·rw [decide_eq_false (by omega),beq_eq_false_iff_ne]; exact h4
 refine vIf_mk (fun h1=>k6 _ ?_) (fun h1=>k6 _ ?_)
 ·have h1':x.k=1:=by simpa using h1
  show (x.k == 1)=_
  rw [h1']; rfl
 ·have h1':¬ x.k=1:=by simpa using h1
  show (x.k == 2)=_
  by_cases h2:x.k=2
  ·rw [h2]; rfl
  ·rw [decide_eq_false (by omega),beq_eq_false_iff_ne]; exact h2
theorem rc0_len:rc0.d.length=32:=z32_len
theorem frP_dlen (b:List UInt8) (at_:Int):(frP b at_).d.length<=b.length:=by
 unfold frP
 split
 ·exact Nat.zero_le _
 ·split
  ·show (frG _).2.2.2.length<=_
   unfold frG
   split
   ·exact Nat.zero_le _
   ·split
    ·exact Nat.zero_le _
    ·split
     ·exact Nat.zero_le _
     ·split
      ·exact Nat.zero_le _
      ·split
       ·exact Nat.zero_le _
       ·show (List.take _ _).length<=_
        rw [List.length_take,List.length_drop,List.length_drop]; omega
  ·exact Nat.zero_le _
abbrev RpE (w w':World) (v:Value) (p:Rc×Int×Int):Prop:=Fr (fun _=>False) w w'/\∃ (A:Option Addr) (n c:Nat),v=.tuple #[ofL (rcC p.1 A n c),.int .i64 p.2.1,.int .i64 p.2.2]/\Sl w' 1 A n (p.1.dat.map bv)/\n<=c/\∀ q,blkOf A=some q->w.heap.size<=q
set_option maxHeartbeats 2000000 in
theorem parseE_calls (A:Option Addr) (n c:Nat) (b:List UInt8) (at_:Int) (w:World) (h:Sl w 1 A n (b.map bv)) (hc:n<=c) (hn:n<=1099511627776) :
  Calls Tryz.prog 9 #[.slice A n c,.int .i64 at_] w fun e w'=>∃ v,e=.returned v/\RpE w w' v (recP b at_):=by
 have hl:=sl_len h
 refine F9.of A n c at_ w (Q:=fun v w'=>RpE w w' v (recP b at_)) ?_
 refine rec_new (fun b1 w2 f1 hb1 r1=>?_)
 have Z38:Z34.length=38:=rfl
 have err:∀ (k:Int) (u:World),recP b at_=(rc0,0,k)->Fr (fun _=>False) w u->RecAt u b1 34 Z34 ->
   gd ((rcC rc0 none 0 0).length == 38) (st u b1 0 (rcC rc0 none 0 0) fun w1=>ldA 38 w1 b1 0 fun a=>RpE w w1 (.tuple #[ofL a,.int .i64 0,.int .i64 k]) (recP b at_)):=by
  intro k u hk fu q1
  refine ansN_mk (N:=38) (K:=fun a w1=>RpE w w1 (.tuple #[ofL a,.int .i64 0,.int .i64 k]) (recP b at_)) q1 Z38 (rcC_len rc0_len _ _ _) (rcC_one _ _ _ _) (fun w' g=>?_)
  rw [hk]
  exact ⟨fr_var fu hb1 g,none,0,0,rfl,Sl.nil _ _ _,Nat.le_refl _,fun q h=>by cases h⟩
 refine (fparse_calls A n c b at_ w2 (f1.sl h (fun _ _ _ h=>h)) hc hn).mono ?_
 rintro e w3 ⟨_,rfl,f3,A3,n3,c3,rfl,hd3,hc3⟩
 have r1:=r1.fr f3 (fun h=>h)
 have f13:=f1.trans1 f3
 have hdl:=sl_len hd3
 have hdb:=frP_dlen b at_
 refine ⟨_,_,rfl,var_new (sz:=4) rfl rfl (frC_one _ _ _ _) (fun b7 w4 f4 hb7 r7=>?_)⟩
 have r1:=r1.fr f4 (fun h=>h)
 have f14:=f13.trans1 f4
 have hd4:=f4.sl hd3 (fun _ _ _ h=>h)
 refine vIf_mk (fun h0=>?_) (fun h0=>?_)
 ·have h0:(frP b at_).e ≠ 0:=by simpa using h0
  exact err _ w4 (by unfold recP; rw [if_pos h0]) f14 r1
 have h0:(frP b at_).e=0:=by simpa using h0
 refine ⟨_,r7.cell (o:=0) rfl,_,r7.cell (o:=1) rfl,A3,n3,c3,r7.cell (o:=2) rfl,(fill_calls (frP b at_).k (frP b at_).sq A3 n3 c3 (frP b at_).d w4 hd4 hc3 (by omega)).mono ?_⟩
 rintro e w5 ⟨_,rfl,f5,y,A5,n5,c5,rfl,hy,hd5,hc5,hfr,hx⟩
 have r1:=r1.fr f5 (fun h=>h)
 have r7:=r7.fr f5 (fun h=>h)
 have f15:=f14.trans1 f5
 refine ⟨_,_,rfl,var_new (sz:=38) Z38 (rcC_len hy _ _ _) (rcC_one _ _ _ _) (fun b21 w6 f6 hb21 r21=>?_)⟩
 have r1:=r1.fr f6 (fun h=>h)
 have r7:=r7.fr f6 (fun h=>h)
 have f16:=f15.trans1 f6
 have hd6:=f6.sl hd5 (fun _ _ _ h=>h)
 cases hrd:rdR (frP b at_).k (frP b at_).sq (frP b at_).d with
 | none =>
  refine vIf_t rfl (err 3 w6 ?_ f16 r1)
  unfold recP
  rw [if_neg (fun h=>h h0),hrd]
 | some x =>
  obtain rfl:=hx x hrd
  have hnm:=rdR_nm hrd
  have hyl:=sl_len hd6
  refine vIf_f rfl ⟨_,rcC_len hy _ _ _,rec_all r21,(rgt_calls y A5 n5 c5 w6 hy hyl.symm (by have:=hnm.1; omega)).mono ?_⟩
  rintro e w7 ⟨rfl,f7⟩
  have r1:=r1.fr f7 (fun h=>h)
  have r7:=r7.fr f7 (fun h=>h)
  have r21:=r21.fr f7 (fun h=>h)
  have f17:=f16.trans1 f7
  have hd7:=f7.sl hd6 (fun _ _ _ h=>h)
  refine ⟨_,rfl,vIf_mk (fun hr=>?_) (fun hr=>?_)⟩
  ·have hr:rgR y ≠ 0:=by simpa using hr
   refine err _ w7 ?_ f17 r1
   unfold recP
   rw [if_neg (fun h=>h h0),hrd]
   show (if rgR y ≠ 0 then _ else _)=_
   rw [if_pos hr]
  ·have hr:rgR y=0:=by simpa using hr
   have hp:recP b at_=(y,(frP b at_).z,0):=by
    unfold recP
    rw [if_neg (fun h=>h h0),hrd]
    show (if rgR y ≠ 0 then _ else _)=_
    rw [if_neg (fun h=>h hr)]
   have fd:Fr (fun _=>False) w7 w7.drew:=Fr.drew _ _
   have r1:=r1.fr fd (fun h=>h)
   have r7:=r7.fr fd (fun h=>h)
   have r21:=r21.fr fd (fun h=>h)
   have f1d:=f17.trans1 fd
   have hdd:=fd.sl hd7 (fun _ _ _ h=>h)
   have hb17:b7 ≠ b1:=by
    intro e
    have:=(RecAt.lt (w:=w3) (by assumption:RecAt w3 b1 _ _))
    omega
   refine ⟨_,rcC_len hy _ _ _,rec_all r21,_,r7.cell (o:=3) rfl,gd_mk (by rw [rcC_len hy]; rfl) (r1.st_mk (o:=0) (by rw [rcC_len hy,Z38]; omega) (rcC_one _ _ _ _) (fun q1 g=>?_))⟩
   rw [splice_full (by rw [rcC_len hy,Z38])] at q1
   refine kp_mk g r7.lt (fun h=>hb17 h) ⟨_,rcC_len hy _ _ _,rec_all q1,?_⟩
   rw [hp]
   refine ⟨fr_var f1d hb1 g,A5,n5,c5,rfl,g.sl hdd (fun hn0 k hk he=>?_),hc5,fun q hq=>?_⟩
   ·have l1:=(RecAt.lt (w:=w4) (by assumption:RecAt w4 b1 _ _))
    have:=hfr k hk
    omega
   ·have:=hfr q hq
    have:=f14.size
    omega
theorem txP_b0 {b:List UInt8} (h:0 < b.length):txP b 0=if 1+b[0].toNat<=b.length then some ((b.drop 1).take b[0].toNat,((1+b[0].toNat:Nat):Int)) else none:=by
 have ht:=tkOne (b:=b) (a:=0) h
 unfold txP
 have ht':tkN b 0 1=b[0].toNat:=ht
 rw [ht']
 by_cases hh:1+b[0].toNat<=b.length
 ·rw [if_pos hh,if_pos ⟨⟨by omega,by omega,by omega,by omega⟩,by omega⟩]
  rfl
 ·rw [if_neg hh,if_neg (fun h=>by have:=h.2; omega)]
end Go.Proofs.YtkfanhdicnjdlaaGreatDoor
namespace Go.Proofs.YtkfanhdicnjdlaaGreatDoor
open Go.GV
structure Wo where
 k:Int
 sq:Nat
 d:List UInt8
 nm:List UInt8
 z:Int
 s:Int
 o:Int
 q:Int
def wdR (x:Rc) (s o q:Int):Wo :=
 if x.k=1\/x.k=2 then ⟨x.k,x.sq,x.d,[],(x.dat.length:Int),s,o,q⟩
 else if x.k=5 then ⟨x.k,x.sq,x.d,[],0,s,o,q⟩
 else if x.k=3 then ⟨x.k,x.sq,x.d,x.nm,0,s,o,q⟩
 else if x.k=4 then ⟨x.k,x.sq,z32,x.nm,0,s,o,q⟩
 else if x.k=6\/x.k=8 then ⟨x.k,x.sq,z32,[],x.z,s,o,q⟩
 else ⟨x.k,x.sq,z32,[],0,s,o,q⟩
def woC (x:Wo):List Value:=[.int .i64 x.k,.int .u64 (x.sq:Nat)] ++ (x.d.map bv ++ [.string ⟨x.nm.toArray⟩,.int .i64 x.z,.int .i64 x.s,.int .i64 x.o,.int .i64 x.q])
theorem woC_len {x:Wo} (h:x.d.length=32):(woC x).length=39:=by simp [woC,h]
theorem woC_one (x:Wo):∀ v ∈ woC x,v.oneCell'=true:=by
 intro v hv
 unfold woC at hv
 rcases List.mem_append.1 hv with h | h
 ·simp only [List.mem_cons,List.not_mem_nil,or_false] at h
  rcases h with rfl | rfl <;> rfl
 ·rcases List.mem_append.1 h with h | h
  ·exact bvs_one _ v h
  ·simp only [List.mem_cons,List.not_mem_nil,or_false] at h
   rcases h with rfl | rfl | rfl | rfl | rfl <;> rfl
theorem wdR_len {x:Rc} (h:x.d.length=32) (s o q:Int):(wdR x s o q).d.length=32:=by
 unfold wdR
 split
 ·exact h
 ·split
  ·exact h
  ·split
   ·exact h
   ·split
    ·exact z32_len
    ·split <;> exact z32_len
theorem woC_std {x:Wo} (h:x.d.length=32) {d:List UInt8} (hd:d.length=32):splice (woC x) 2 (d.map bv)=woC { x with d:=d }:=by
 unfold woC
 exact splice_app rfl (by simp [h,hd])
theorem woC_stn {x:Wo} (h:x.d.length=32) (s:List UInt8):splice (woC x) 34 [.string ⟨s.toArray⟩]=woC { x with nm:=s }:=by
 have e:woC x=([.int .i64 x.k,.int .u64 (x.sq:Nat)] ++ x.d.map bv) ++ ([.string ⟨x.nm.toArray⟩] ++ [.int .i64 x.z,.int .i64 x.s,.int .i64 x.o,.int .i64 x.q]):=by unfold woC; simp
 rw [e,splice_app (by simp [h]) (by simp)]
 unfold woC; simp
theorem woC_stz {x:Wo} (h:x.d.length=32) (m:Int):splice (woC x) 35 [.int .i64 m]=woC { x with z:=m }:=by
 have e:woC x=([.int .i64 x.k,.int .u64 (x.sq:Nat)] ++ x.d.map bv ++ [.string ⟨x.nm.toArray⟩]) ++ ([.int .i64 x.z] ++ [.int .i64 x.s,.int .i64 x.o,.int .i64 x.q]):=by unfold woC; simp
 rw [e,splice_app (by simp [h]) (by simp)]
 unfold woC; simp
theorem woC_end {x:Wo} (h:x.d.length=32) (j:Nat):(woC x)[34+j]?=([Value.string ⟨x.nm.toArray⟩,.int .i64 x.z,.int .i64 x.s,.int .i64 x.o,.int .i64 x.q]:List Value)[j]?:=by
 unfold woC
 rw [List.getElem?_append_right (show 2<=34+j by omega),List.getElem?_append_right (by simp [h]; omega)]
 congr 1
 simp [h]; omega
end Go.Proofs.YtkfanhdicnjdlaaGreatDoor
namespace Go.Proofs.YtkfanhdicnjdlaaGreatDoor
open Go.GV Go.RowKit Go.Lib
set_option maxHeartbeats 2000000 in
theorem word39_calls (x:Rc) (A:Option Addr) (n c:Nat) (s o q:Int) (w:World) (hd:x.d.length=32) (hn:n=x.dat.length) :
  Calls Tryz.prog 11 #[ofL (rcC x A n c),ofL [.int .i64 s,.int .i64 o,.int .i64 q]] w fun e w'=>e=.returned (ofL (woC (wdR x s o q)))/\Fr (fun _=>False) w w':=by
 refine (F11.of _ _ w (Q:=fun v w'=>v=ofL (woC (wdR x s o q))/\Fr (fun _=>False) w w') ?_).mono (fun e w' ⟨v,he,hv,h⟩=>⟨by rw [he,hv],h⟩)
 refine rec_new (fun b1 w2 f1 hb1 r1=>rec_new (fun b3 w4 f3 hb3 r3=>rec_new (fun b5 w6 f5 hb5 r5=>?_)))
 have r1:=(r1.fr f3 (fun h=>h)).fr f5 (fun h=>h)
 have r3:=r3.fr f5 (fun h=>h)
 have f16:=(f1.trans1 f3).trans1 f5
 have hb5':w.heap.size<=b5:=by have:=(f1.trans1 f3).size; omega
 have Z39:Z28.length=39:=rfl
 refine ⟨_,r1.cell (o:=0) (v:=.int .i64 x.k) rfl,_,r1.cell (o:=1) (v:=.int .u64 (x.sq:Nat)) rfl,[.int .i64 s,.int .i64 o,.int .i64 q],rfl,rec_all r3,gd_mk rfl ?_⟩
 generalize hy:(⟨x.k,x.sq,z32,[],0,s,o,q⟩:Wo)=y
 have dy:y.d.length=32:=by rw [<- hy]; exact z32_len
 have lay:∀ (u:World) (K:Nat->World->Prop),(∀ b w',Fr (fun _=>False) u w'->u.heap.size<=b->RecAt w' b 28 (woC ⟨x.k,x.sq,z32,[],0,s,o,q⟩)->K b w')->nw u Z28 28 fun b w1=>gd ((woC ⟨x.k,x.sq,z32,[],0,s,o,q⟩).length == 39) (st w1 b 0 (woC ⟨x.k,x.sq,z32,[],0,s,o,q⟩) fun w2=>K b w2) :=
  fun u K hK=>var_new (sz:=39) Z39 (woC_len z32_len) (woC_one _) hK
 refine lay w6 _ (fun b10 w12 f10 hb10 r10=>?_)
 rw [hy] at r10
 have r1:=r1.fr f10 (fun h=>h)
 have r5:=r5.fr f10 (fun h=>h)
 have f1c:=f16.trans1 f10
 have l5:=(RecAt.lt (w:=w6) (by assumption:RecAt w6 b5 _ _))
 have l1:=(RecAt.lt (w:=w6) (by assumption:RecAt w6 b1 _ _))
 have n5:b5 ≠ b10:=by omega
 have n1:b1 ≠ b10:=by omega
 have hb10':w.heap.size<=b10:=by have:=f16.size; omega
 have cD:cellsAt w12 b1 2 (x.d.map bv):=r1.cells (o:=2) (fun j v hj=>rcC_d hd A n c j v hj)
 have fin:∀ (u:World) (z:Wo),z=wdR x s o q->Fr (fun k=>k=b10) w12 u->RecAt u b10 28 (woC z) ->
   ldA 39 u b10 0 fun a=>gd (a.length == 39) (st u b5 0 a fun w1=>ldA 39 w1 b5 0 fun a'=>ofL a'=ofL (woC (wdR x s o q))/\Fr (fun _=>False) w w1):=by
  rintro u z rfl g q10
  exact cp_mk (N:=39) (K:=fun a' w1=>ofL a'=ofL (woC (wdR x s o q))/\Fr (fun _=>False) w w1) q10 (woC_len (wdR_len hd _ _ _)) (r5.fr g (fun h=>n5 h)) Z39 (woC_one _) (fun w' g2=>⟨rfl,fr_var (fr_var f1c hb10' g) hb5' g2⟩)
 have stD:∀ (u:World) (z:Wo) (K:World->Prop),z.d.length=32->Fr (fun k=>k=b10) w12 u->RecAt u b10 28 (woC z)->(∀ u',Fr (fun k=>k=b10) w12 u'->RecAt u' b10 28 (woC { z with d:=x.d })->K u')->ldA 32 u b1 (0+2) fun a=>gd (a.length == 32) (st u b10 (0+2) a fun u'=>K u'):=by
  intro u z K hz g q10 hK
  refine ⟨x.d.map bv,by rw [List.length_map,hd],g.cells cD (fun h=>n1 h),gd_mk (by rw [List.length_map,hd]; rfl) (q10.st_mk (o:=2) (by rw [woC_len hz,List.length_map,hd]; omega) (bvs_one _) (fun q11 g2=>hK _ (g.trans1 g2) ?_))⟩
  rw [woC_std hz hd] at q11
  exact q11
 have stN:∀ (u:World) (z:Wo) (K:World->Prop),z.d.length=32->Fr (fun k=>k=b10) w12 u->RecAt u b10 28 (woC z)->(∀ u',Fr (fun k=>k=b10) w12 u'->RecAt u' b10 28 (woC { z with nm:=x.nm })->K u')->ldS u b1 (0+34) fun t=>st u b10 (0+34) [Value.string t] fun u'=>K u':=by
  intro u z K hz g q10 hK
  refine ⟨_,g.cell (r1.cell (o:=34) (rc_name hd A n c)) (fun h=>n1 h),q10.st_mk (o:=34) (by rw [woC_len hz]; show 34+1<=39; omega) (fun v hv=>by simp at hv; subst hv; rfl) (fun q11 g2=>hK _ (g.trans1 g2) ?_)⟩
  rw [woC_stn hz] at q11
  exact q11
 have stZ:∀ (m:Int) (K:World->Prop),(∀ u',Fr (fun k=>k=b10) w12 u'->RecAt u' b10 28 (woC { y with z:=m })->K u')->st w12 b10 (0+35) [Value.int .i64 m] fun u'=>K u':=by
  intro m K hK
  refine r10.st_mk (o:=35) (by rw [woC_len dy]; show 35+1<=39; omega) (fun v hv=>by simp at hv; subst hv; rfl) (fun q11 g2=>hK _ g2 ?_)
  rw [woC_stz dy] at q11
  exact q11
 have F0:Fr (fun k=>k=b10) w12 w12:=Fr.refl _ _
 have b12:(x.k=1\/x.k=2)->ldSl w12 b1 (0+35) fun A14 n15 c16=>st w12 b10 (0+35) [Value.int .i64 ((n15:Nat):Int)] fun w17=>ldA 32 w17 b1 (0+2) fun a18=>gd (a18.length == 32) (st w17 b10 (0+2) a18 fun w19=>ldA 39 w19 b10 0 fun a=>gd (a.length == 39) (st w19 b5 0 a fun w1=>ldA 39 w1 b5 0 fun a'=>ofL a'=ofL (woC (wdR x s o q))/\Fr (fun _=>False) w w1)):=by
  intro h12
  refine ⟨A,n,c,r1.cell (o:=35) (rc_data hd A n c),stZ _ _ (fun u g q1=>stD u { y with z:=(n:Int) } _ dy g q1 (fun u' g' q2=>fin u' _ ?_ g' q2))⟩
  unfold wdR
  rw [if_pos h12,<- hy,hn]
 have k5:¬ (x.k=1\/x.k=2)->jnC (F11.k5 (fun v w'=>v=ofL (woC (wdR x s o q))/\Fr (fun _=>False) w w')) ((b1,0),(b5,0),(b10,0),x.k,()) w12:=by
  intro h12
  refine jnC_mk (fun _=>vIf_mk (fun h5=>stD w12 y _ dy F0 r10 (fun u g q1=>fin u _ ?_ g q1)) (fun h5=>vIf_mk (fun h3=>stD w12 y _ dy F0 r10 (fun u g q1=>stN u { y with d:=x.d } _ hd g q1 (fun u' g' q2=>fin u' _ ?_ g' q2))) (fun h3=>vIf_mk (fun h4=>stN w12 y _ dy F0 r10 (fun u g q1=>fin u _ ?_ g q1)) (fun h4=>vIf_mk (fun h6=>vIf_mk (fun h6'=>⟨_,r1.cell (o:=37) (rc_z hd A n c),stZ _ _ (fun u g q1=>fin u _ ?_ g q1)⟩) (fun h6'=>?_)) (fun h6=>vIf_mk (fun h8=>⟨_,r1.cell (o:=37) (rc_z hd A n c),stZ _ _ (fun u g q1=>fin u _ ?_ g q1)⟩) (fun h8=>fin w12 y ?_ F0 r10))))))
  ·have h5:x.k=5:=by simpa using h5
   unfold wdR
   rw [if_neg h12,if_pos h5,<- hy]
  ·have h5:¬ x.k=5:=by simpa using h5
   have h3:x.k=3:=by simpa using h3
   unfold wdR
   rw [if_neg h12,if_neg h5,if_pos h3,<- hy]
  ·have h5:¬ x.k=5:=by simpa using h5
   have h3:¬ x.k=3:=by simpa using h3
   have h4:x.k=4:=by simpa using h4
   unfold wdR
   rw [if_neg h12,if_neg h5,if_neg h3,if_pos h4,<- hy]
  ·have h5:¬ x.k=5:=by simpa using h5
   have h3:¬ x.k=3:=by simpa using h3
   have h4:¬ x.k=4:=by simpa using h4
   have h6:x.k=6:=by simpa using h6
   unfold wdR
   rw [if_neg h12,if_neg h5,if_neg h3,if_neg h4,if_pos (.inl h6),<- hy]
  ·rw [h6] at h6'; cases h6'
  ·have h5:¬ x.k=5:=by simpa using h5
   have h3:¬ x.k=3:=by simpa using h3
   have h4:¬ x.k=4:=by simpa using h4
   have h8:x.k=8:=by simpa using h8
   unfold wdR
   rw [if_neg h12,if_neg h5,if_neg h3,if_neg h4,if_pos (.inr h8),<- hy]
  ·have h5:¬ x.k=5:=by simpa using h5
   have h3:¬ x.k=3:=by simpa using h3
   have h4:¬ x.k=4:=by simpa using h4
   have h6:¬ x.k=6:=by simpa using h6
   have h8:¬ x.k=8:=by simpa using h8
   unfold wdR
   rw [if_neg h12,if_neg h5,if_neg h3,if_neg h4,if_neg (fun h=>h.elim h6 h8),<- hy]
 refine ⟨_,r1.cell (o:=0) (v:=.int .i64 x.k) rfl,vIf_mk (fun h1=>vIf_mk (fun h1'=>b12 (.inl (by simpa using h1))) (fun h1'=>?_)) (fun h1=>vIf_mk (fun h2=>b12 (.inr (by simpa using h2))) (fun h2=>k5 ?_))⟩
 ·rw [h1] at h1'; cases h1'
 ·have h1:¬ x.k=1:=by simpa using h1
  have h2:¬ x.k=2:=by simpa using h2
  exact fun h=>h.elim h1 h2
def bareR (x:Rc):Rc:=⟨x.k,x.sq,if x.k<=3\/x.k=5 then x.d else z32,if x.k=3\/x.k=4 then x.nm else [],if x.k<=2 then x.dat else [],if x.k >= 6 then x.n else 0,if x.k=6\/x.k=8 then x.z else 0⟩
end Go.Proofs.YtkfanhdicnjdlaaGreatDoor
namespace Go.Proofs.YtkfanhdicnjdlaaGreatDoor
open Go.GV
structure RokP (b:List UInt8) (at_:Int) (x:Rc) (e:Int):Prop where
 at0:0<=at_
 lt:at_+21<=e
 le:e<=(b.length:Int)
 sq:x.sq < 18446744073709551616
 k1:1<=x.k
 k8:x.k<=8
 z0:0<=x.z
 z1:x.z < 4294967296
 d:x.d.length=32
 n:x.dat.length<=b.length
 rg:rgR x=0
abbrev BaR:=List Wo×Int×Nat×Int
end Go.Proofs.YtkfanhdicnjdlaaGreatDoor
namespace Go.Proofs.YtkfanhdicnjdlaaGreatDoor
open Go.GV Go.RowKit Go.Lib
def wsC (l:List Wo):List Value:=(l.map woC).flatten
abbrev W39 (l:List Wo):Prop:=∀ x ∈ l,x.d.length=32
theorem wsC_app (a b:List Wo):wsC (a ++ b)=wsC a ++ wsC b:=by unfold wsC; rw [List.map_append,List.flatten_append]
theorem wsC_one (x:Wo):wsC [x]=woC x:=by unfold wsC; simp
structure SW (w:World) (A:Option Addr) (n:Nat) (l:List Wo):Prop where
 sl:Sl w 39 A n (wsC l)
 len:l.length=n
 d:W39 l
structure RW (w0 w:World) (A:Option Addr) (n c:Nat) (l:List Wo):Prop where
 f:Fr (fun _=>False) w0 w
 row:Row w w0.heap.size 28 39 A n c (wsC l)
 len:l.length=n
 d:W39 l
theorem may_calls (k:Int) (w:World):Calls Tryz.prog 71 #[.int .i64 k] w fun e w'=>e=.returned (.bool (decide (1<=k/\k<=5)))/\w=w':=by
 refine (F71.of k w (Q:=fun v w'=>v=.bool (decide (1<=k/\k<=5))/\w=w') ?_).mono (fun e w' ⟨v,he,hv,h⟩=>⟨by rw [he,hv],h⟩)
 refine vIf_mk (fun h=>⟨?_,rfl⟩) (fun h=>⟨?_,rfl⟩)
 ·have h:k >= 1:=of_decide_eq_true h
  congr 1
  by_cases h5:k<=5
  ·rw [decide_eq_true h5,decide_eq_true (show 1<=k/\k<=5 from ⟨h,h5⟩)]
  ·rw [decide_eq_false h5,decide_eq_false (fun g=>h5 g.2)]
 ·have h:¬ k >= 1:=of_decide_eq_false h
  rw [decide_eq_false (fun g=>h g.1)]
theorem rc_sq {x:Rc} (A:Option Addr) (n c:Nat):(rcC x A n c)[1]?=some (.int .u64 (x.sq:Nat)):=rfl
theorem rc_k {x:Rc} (A:Option Addr) (n c:Nat):(rcC x A n c)[0]?=some (.int .i64 x.k):=rfl
theorem fitL_app:∀ {ks ks':List LK} {xs ys:List Value},ks.length=xs.length->fitL ks xs=true->fitL ks' ys=true->fitL (ks ++ ks') (xs ++ ys)=true
 | [],_,[],_,_,_,h=>h
 | [],_,_ :: _,_,h,_,_=>by cases h
 | _ :: _,_,[],_,h,_,_=>by cases h
 | k :: ks,ks',x :: xs,ys,hl,h1,h2=>by
  have h1:(fitV k x && fitL ks xs)=true:=h1
  rw [Bool.and_eq_true] at h1
  show (fitV k x && fitL (ks ++ ks') (xs ++ ys))=true
  rw [h1.1,fitL_app (Nat.succ.inj hl) h1.2 h2]; rfl
theorem fitL_y:∀ d:List UInt8,fitL (List.replicate d.length .y) (d.map bv)=true
 | []=>rfl
 | c :: d=>by
  show (fitV .y (bv c) && fitL (List.replicate d.length .y) (d.map bv))=true
  rw [fitL_y d,Bool.and_true]
  have:=c.toNat_lt
  show (decide ((0:Int)<=(c.toNat:Int)) && decide ((c.toNat:Int) < 256))=true
  rw [decide_eq_true (by omega),decide_eq_true (by omega)]; rfl
theorem wo_fit {x:Wo} (h:x.d.length=32) {ks:List LK} (e:ks=[.i .i64,.i .u64] ++ (List.replicate 32 .y ++ [.s,.i .i64,.i .i64,.i .i64,.i .i64])):fitL ks (woC x)=true:=by
 rw [e,<- h]
 unfold woC
 refine fitL_app rfl rfl (fitL_app (by simp) (fitL_y _) rfl)
theorem eqVL_self:∀ {l:List Value},(∀ v ∈ l,eqV v v=true)->eqVL l l=true
 | [],_=>rfl
 | v :: l,h=>by
  show (eqV v v && eqVL l l)=true
  rw [h v List.mem_cons_self,eqVL_self (fun v hv=>h v (List.mem_cons_of_mem _ hv))]; rfl
theorem wo_eqv (x:Wo):eqVL (woC x) (woC x)=true:=by
 refine eqVL_self (fun v hv=>?_)
 unfold woC at hv
 rcases List.mem_append.1 hv with h | h
 ·simp only [List.mem_cons,List.not_mem_nil,or_false] at h
  rcases h with rfl | rfl <;> exact beq_self_eq_true _
 ·rcases List.mem_append.1 h with h | h
  ·obtain ⟨c,_,rfl⟩:=List.mem_map.1 h
   exact beq_self_eq_true (c.toNat:Int)
  ·simp only [List.mem_cons,List.not_mem_nil,or_false] at h
   rcases h with rfl | rfl | rfl | rfl | rfl <;> exact beq_self_eq_true _
end Go.Proofs.YtkfanhdicnjdlaaGreatDoor
namespace Go.Proofs.YtkfanhdicnjdlaaGreatDoor
open Go.GV
structure Sn where
 ws:List Wo
 sq:Nat
 e:Int
 s:Bool
 a:Int
 r:Int
structure BokP (b:List UInt8) (at_:Int) (k:Nat) (r:BaR):Prop where
 at0:0<=at_
 lt:at_ < r.2.1
 le:r.2.1<=(b.length:Int)
 len:(r.1.length:Int)<=(k:Int)+(r.2.1 - at_)
 ne:r.1 ≠ []
 sq:r.2.2.1 < 18446744073709551616
end Go.Proofs.YtkfanhdicnjdlaaGreatDoor
namespace Go.Proofs.YtkfanhdicnjdlaaGreatDoor
open Go.GV Go.RowKit
theorem clone_calls (A:Option Addr) (n c:Nat) (l:List UInt8) (w:World) (h:Sl w 1 A n (l.map bv)) (h0:A=none->n=0) (hn:n<=1099511627776) :
  Calls Tryz.prog 20 #[.slice A n c] w fun e w'=>Fr (fun _=>False) w w'/\∃ A' c',e=.returned (.slice A' n c')/\Row w' w.heap.size 5 1 A' n c' (l.map bv):=by
 refine (F20.of A n c w (Q:=fun v w'=>Fr (fun _=>False) w w'/\∃ A' c',v=.slice A' n c'/\Row w' w.heap.size 5 1 A' n c' (l.map bv)) ?_).mono (fun e w' ⟨v,he,hf,A',c',hv,h⟩=>⟨hf,A',c',by rw [he,hv],h⟩)
 have hl:l.length=n:=by simpa using h.1
 refine vIf_mk (fun hA=>?_) (fun hA=>nw_mk ?_)
 ·have hA:A=none:=by simpa using hA
  have:=h0 hA
  subst this
  have:l=[]:=List.length_eq_zero_iff.1 hl
  subst this
  exact ⟨Fr.refl _ _,none,0,rfl,Row.nil _ _ _ _⟩
 ·have f1:Fr (fun _=>False) w (w.alloc (.cells ([]:List Value).toArray 5)):=Fr.alloc _ _ _
  have r1:Row (w.alloc (.cells ([]:List Value).toArray 5)) w.heap.size 5 1 (some ⟨w.heap.size,0,none⟩) 0 0 []:=Row.new (Nat.le_refl _) rfl
  refine app_row r1 (f1.sl h (fun _ _ _ h=>h)).src (bvs_one l) rfl (by omega) (by omega) f1.size ?_
  intro A' c' w2 r2 f2
  rw [Nat.zero_add] at r2 ⊢
  rw [List.nil_append] at r2
  exact ⟨f1.trans f2 (fun _ _ h=>h) (fun k hk h=>by simp only [blkOf,Option.some.injEq] at h; omega),A',c',rfl,r2⟩
theorem grow_calls (m:Nat) (w:World) (hm:m<=1099511627776) :
  Calls Tryz.prog 104 #[.slice none 0 0,.int .i64 m] w fun e w'=>Fr (fun _=>False) w w'/\∃ A' c',e=.returned (.slice A' 0 c')/\Row w' w.heap.size 5 1 A' 0 c' []:=by
 refine (F104.of none 0 0 m w (Q:=fun v w'=>Fr (fun _=>False) w w'/\∃ A' c',v=.slice A' 0 c'/\Row w' w.heap.size 5 1 A' 0 c' []) ?_).mono (fun e w' ⟨v,he,hf,A',c',hv,h⟩=>⟨hf,A',c',by rw [he,hv],h⟩)
 refine vIf_f (decide_eq_false (by omega)) (jnC_mk (fun _=>?_))
 have e0:IntKind.wrap .i64 ((m:Int) - IntKind.wrap .i64 (((0:Nat):Int) - ((0:Nat):Int)))=m:=by
  rw [i64_id (n:=((0:Nat):Int) - ((0:Nat):Int)) (by omega) (by omega),i64_id (by omega) (by omega)]; omega
 show vIf (decide (IntKind.wrap .i64 ((m:Int) - IntKind.wrap .i64 (((0:Nat):Int) - ((0:Nat):Int))) > 0)) _ _
 refine vIf_mk (fun h0=>?_) (fun h0=>⟨Fr.refl _ _,none,0,rfl,Row.nil _ _ _ _⟩)
 refine gd_mk rfl (gd_mk rfl ?_)
 show appZ w 1 1 [Value.int .u8 0] 5 none 0 0 (IntKind.wrap .i64 ((m:Int) - IntKind.wrap .i64 (((0:Nat):Int) - ((0:Nat):Int)))) _
 refine appZ_row (Row.nil w w.heap.size 5 1) (m:=m) (by rw [e0,i64_id (by omega) (by omega)]) (by omega) (by intro v hv; simp only [List.mem_singleton] at hv; subst hv; rfl) rfl (by omega) (by omega) (Nat.le_refl _) ?_
 intro A' c' w2 r2 f2
 refine gd_mk rfl (gd_mk (decide_eq_true (by show ((0:Nat):Int)<=(c':Int); omega)) ⟨f2.mono (fun _ _ h=>by simp [blkOf] at h),_,c',rfl,?_⟩)
 have hsl:slA A' c' 0 1=A':=by
  unfold slA
  split
  ·rfl
  ·cases A' with
   | none=>rfl
   | some a=>simp [Addr.add]
 show Row w2 w.heap.size 5 1 (slA A' c' 0 1) 0 c' []
 rw [hsl]
 refine ⟨rfl,Nat.zero_le _,?_⟩
 rcases r2.at_ with ⟨h1,h2,h3⟩ | ⟨b,cs,h1,h2,h3,h4,h5⟩
 ·exact .inl ⟨h1,rfl,h3⟩
 ·exact .inr ⟨b,cs,h1,h2,h3,h4,by simp⟩
theorem concat_calls (A:Option Addr) (n c:Nat) (vs:List Value) (ls:List (List UInt8)) (w:World) (h:Sl w 1 A n vs) (hn:n=ls.length) (hs:∀ (i:Nat) (l:List UInt8),ls[i]?=some l->∃ (B:Option Addr) (m k:Nat),vs[i]?=some (Value.slice B m k)/\Sl w 1 B m (l.map bv))
  (hm:ls.flatten.length<=1099511627776) (hn2:n<=1099511627776) :
  Calls Tryz.prog 74 #[.slice A n c] w fun e w'=>Fr (fun _=>False) w w'/\∃ A' c',e=.returned (.slice A' ls.flatten.length c')/\Row w' w.heap.size 5 1 A' ls.flatten.length c' (ls.flatten.map bv):=by
 refine (F74.of A n c w (Q:=fun v w'=>Fr (fun _=>False) w w'/\∃ A' c',v=.slice A' ls.flatten.length c'/\Row w' w.heap.size 5 1 A' ls.flatten.length c' (ls.flatten.map bv)) ?_).mono (fun e w' ⟨v,he,hf,A',c',hv,h⟩=>⟨hf,A',c',by rw [he,hv],h⟩)
 have tk:∀ i l,ls[i]?=some l->(ls.take (i+1)).flatten=(ls.take i).flatten ++ l:=fun i l hi=>by rw [List.take_add_one,hi]; simp
 have le:∀ i,(ls.take i).flatten.length<=ls.flatten.length:=fun i=>by
  have:=congrArg (fun x=>x.flatten.length) (List.take_append_drop i ls)
  simp only [List.flatten_append,List.length_append] at this
  omega
 refine jnC_mk ?_
 refine loop_rule (fun s u=>u=w/\∃ i:Nat,i<=n/\s=((A,n,c),(((ls.take i).flatten.length:Nat):Int),(A,n,c),(n:Int),(i:Int),()))
  (fun s _=>(n - s.2.2.2.2.1).toNat) ?_ _ _ ⟨rfl,0,by omega,rfl⟩
 rintro s u C ⟨rfl,i,hi,rfl⟩ hC _
 refine vIf_mk (fun hlt=>?_) (fun hge=>?_)
 ·have hlt2:(i:Int) < n:=of_decide_eq_true hlt
  obtain ⟨l,hl⟩:∃ l,ls[i]?=some l:=⟨_,List.getElem?_eq_getElem (by omega)⟩
  obtain ⟨B,m,k,hv,hB⟩:=hs i l hl
  obtain ⟨b,o,hA',hc⟩:=h.get (i:=i) (by omega) hv
  subst hA'
  have hml:l.length=m:=by simpa using hB.1
  have h1:=le (i+1)
  rw [tk i l hl,List.length_append] at h1
  have e1:IntKind.wrap .i64 ((((ls.take i).flatten.length:Nat):Int)+(m:Int))=(((ls.take (i+1)).flatten.length:Nat):Int):=by
   rw [i64_id (by omega) (by omega),tk i l hl,List.length_append]; omega
  refine dr_mk (gd_mk (decide_eq_true (Int.natCast_nonneg i)) (gd_mk (decide_eq_true hlt2) ⟨B,m,k,hc,vIf_f (decide_eq_false ?_) (jnC_mk (hC _ _ ⟨rfl,i+1,by omega,?_⟩ ?_))⟩))
  ·show ¬ (IntKind.wrap .i64 ((((ls.take i).flatten.length:Nat):Int)+(m:Int)) < 0)
   rw [e1]; omega
  ·show ((_,n,c),IntKind.wrap .i64 ((((ls.take i).flatten.length:Nat):Int)+(m:Int)),(_,n,c),(n:Int),IntKind.wrap .i64 ((i:Int)+1),())=_
   rw [e1,i64_id (by omega) (by omega)]; rfl
  ·show ((n:Int) - IntKind.wrap .i64 ((i:Int)+1)).toNat < ((n:Int) - i).toNat
   rw [i64_id (by omega) (by omega)]; omega
 ·have hge2:¬ ((i:Int) < n):=of_decide_eq_false hge
  have hin:i=ls.length:=by omega
  subst hin
  show Calls Tryz.prog 104 #[.slice none 0 0,.int .i64 (((ls.take ls.length).flatten.length:Nat):Int)] u _
  rw [List.take_length]
  refine (grow_calls _ u hm).mono ?_
  rintro e w1 ⟨f1,R,rc,rfl,r1⟩
  refine ⟨R,0,rc,rfl,jnC_mk ?_⟩
  refine loop_rule (fun s x=>Fr (fun _=>False) u x/\∃ (i:Nat) (R:Option Addr) (rc:Nat),i<=n/\s=((R,(ls.take i).flatten.length,rc),(A,n,c),(n:Int),(i:Int),())/\Row x u.heap.size 5 1 R (ls.take i).flatten.length rc ((ls.take i).flatten.map bv))
   (fun s _=>(n - s.2.2.2.1).toNat) ?_ _ _ ⟨f1,0,R,rc,by omega,rfl,r1⟩
  rintro s x C2 ⟨hf,i,R,rc,hi,rfl,hr⟩ hC2 _
  have hRb:∀ k,k < u.heap.size->blkOf R=some k->False:=fun k hk hb=>by have:=(hr.blt hb).1; omega
  refine vIf_mk (fun hlt=>?_) (fun hge=>?_)
  ·have hlt2:(i:Int) < n:=of_decide_eq_true hlt
   obtain ⟨l,hl⟩:∃ l,ls[i]?=some l:=⟨_,List.getElem?_eq_getElem (by omega)⟩
   obtain ⟨B,m,k,hv,hB⟩:=hs i l hl
   obtain ⟨b,o,hA',hc⟩:=(hf.sl h (fun _ _ _ h=>h)).get (i:=i) (by omega) hv
   subst hA'
   have hml:l.length=m:=by simpa using hB.1
   have h1:=le (i+1)
   rw [tk i l hl,List.length_append] at h1
   refine dr_mk (gd_mk (decide_eq_true (Int.natCast_nonneg i)) (gd_mk (decide_eq_true hlt2) ⟨B,m,k,hc,?_⟩))
   refine app_row hr (hf.sl hB (fun _ _ _ h=>h)).src (bvs_one l) rfl (by show ((ls.take i).flatten.length+m) * 1<=_; omega) (by show (ls.take i).flatten.length+m<=_; omega) hf.size ?_
   intro R' rc' w4 r4 f4
   have e2:(ls.take i).flatten.length+m=(ls.take (i+1)).flatten.length:=by rw [tk i l hl,List.length_append,hml]
   refine jnC_mk (hC2 _ _ ⟨hf.trans f4 (fun _ _ h=>h) (fun k hk h=>hRb k hk h),i+1,R',rc',by omega,?_,?_⟩ ?_)
   ·show ((R',(ls.take i).flatten.length+m,rc'),(_,n,c),(n:Int),IntKind.wrap .i64 ((i:Int)+1),())=_
    rw [i64_id (by omega) (by omega),e2]; rfl
   ·rw [<- e2,tk i l hl,List.map_append]
    exact r4
   ·show ((n:Int) - IntKind.wrap .i64 ((i:Int)+1)).toNat < ((n:Int) - i).toNat
    rw [i64_id (by omega) (by omega)]; omega
  ·have hge2:¬ ((i:Int) < n):=of_decide_eq_false hge
   have hin:i=ls.length:=by omega
   subst hin
   rw [List.take_length] at hr ⊢
   exact ⟨hf,R,rc,rfl,hr⟩
end Go.Proofs.YtkfanhdicnjdlaaGreatDoor
namespace Go.Proofs.YtkfanhdicnjdlaaGreatDoor
open Go.GV Go.RowKit Go.Lib
theorem u8_wr (y:Nat):IntKind.wrap .u8 (y:Int)=((y % 256:Nat):Int):=by rw [IntKind.wrap_u8]; omega
theorem fdiv_8 (y:Nat):Int.fdiv (y:Int) (2 ^ 8)=((y / 256:Nat):Int):=by
 rw [Int.fdiv_eq_ediv_of_nonneg _ (by decide)]; rfl
theorem with_calls1 (A:Option Addr) (n c x:Nat) (b:List UInt8) (w:World) (h:Sl w 1 A n (b.map bv)) (hn:n+x<=1099511627776) :
  Calls Tryz.prog 103 #[.slice A n c,.int .i64 (x:Nat)] w fun e w'=>∃ A' c',e=.returned (.slice A' n c')/\RB w w' A' n c' b:=by
 refine (F103.of A n c x w (Q:=fun v w'=>∃ A' c',v=.slice A' n c'/\RB w w' A' n c' b) ?_).mono (fun e w' ⟨v,he,A',c',hv,h⟩=>⟨A',c',by rw [he,hv],h⟩)
 have hl:=sl_len h
 have e1:IntKind.wrap .i64 (((n:Nat):Int)+((x:Nat):Int))=((n+x:Nat):Int):=by rw [i64_id (by omega) (by omega)]; omega
 unfold F103.vc
 rw [e1]
 refine gd_mk (decide_eq_true (by omega)) (gd_mk (decide_eq_true (by omega)) (gd_mk (decide_eq_true (by omega)) (nw_mk ?_)))
 rw [Int.toNat_natCast,Int.toNat_natCast]
 have r3:Row (w.alloc (.cells (zeros (n+x) [Value.int .u8 0]).toArray 5)) w.heap.size 5 1 (some ⟨w.heap.size,0,none⟩) n (n+x) (zeros n [Value.int .u8 0]):=Row.made (Nat.le_refl _) rfl (by omega)
 have f3:Fr (fun _=>False) w (w.alloc (.cells (zeros (n+x) [Value.int .u8 0]).toArray 5)):=Fr.alloc _ _ _
 generalize hb3:w.heap.size=b3 at r3 ⊢
 generalize w.alloc (.cells (zeros (n+x) [Value.int .u8 0]).toArray 5)=w5 at r3 f3 ⊢
 have cp:=cpy_row (k:=0) (x:=.slice A n c) (m:=n) (us:=b.map bv) r3 (f3.sl h (fun _ _ _ h=>h)).src (by simp; omega) (Nat.zero_le _) (fun v hv=>bvs_one b v (List.mem_of_mem_take hv)) (K:=fun n3 w4 =>
  (fun v w'=>∃ A' c',v=Value.slice A' n c'/\RB w w' A' n c' b) (Value.slice (some ⟨b3,0,none⟩) n (n+x)) w4) (fun w6 r6 f6=>?_)
 ·rw [sl0,Nat.sub_zero] at cp
  exact cp
 ·refine ⟨some ⟨b3,0,none⟩,n+x,rfl,f3.trans f6 (fun _ _ h=>h) (fun k hk h=>by simp only [blkOf,Option.some.injEq] at h; omega),?_⟩
  have e2:splice (zeros n [Value.int .u8 0]) (0 * 1) ((b.map bv).take (min n (n - 0) * 1))=b.map bv:=by
   rw [Nat.sub_zero,Nat.min_self,Nat.mul_one,List.take_of_length_le (by simp; omega)]
   exact splice_full (by rw [zeros_length]; simp; omega)
  rw [e2] at r6
  rw [hb3]
  exact r6
set_option maxHeartbeats 1000000 in
theorem fput_calls (A:Option Addr) (n c:Nat) (b:List UInt8) (x k:Nat) (w:World) (h:Sl w 1 A n (b.map bv)) (hn:n<=1099511627700) (hx:x < 18446744073709551616) (hk1:1<=k) (hk:k<=8) :
  Calls Tryz.prog 75 #[.slice A n c,.int .u64 (x:Nat),.int .i64 (k:Nat)] w fun e w'=>∃ A' c',e=.returned (.slice A' (n+k) c')/\RB w w' A' (n+k) c' (b ++ leB x k):=by
 have hl:=sl_len h
 refine (F75.of A n c x k w (Q:=fun v w'=>∃ A' c',v=.slice A' (n+k) c'/\RB w w' A' (n+k) c' (b ++ leB x k)) ?_).mono (fun e w' ⟨v,he,A',c',hv,h⟩=>⟨A',c',by rw [he,hv],h⟩)
 refine (with_calls1 A n c 8 b w h (by omega)).mono ?_
 rintro e w1 ⟨A1,c1,rfl,h1⟩
 refine ⟨A1,n,c1,rfl,vIf_f (decide_eq_false (by omega)) (vIf_f (decide_eq_false (by omega)) (jnC_mk (fun _=>?_)))⟩
 refine jnC_mk (loop_rule (fun s u=>∃ (i:Nat) (A':Option Addr) (c':Nat),i<=k/\s=(((x / 256 ^ i:Nat):Int),(A',n+i,c'),(k:Int),(i:Int),())/\RB w u A' (n+i) c' (b ++ leB x i)) (fun s _=>(k - s.2.2.2.1).toNat) ?_ _ _ ⟨0,A1,c1,by omega,?_,?_⟩)
 ·rintro s u C ⟨i,A',c',hi,rfl,hr⟩ hC _
  refine vIf_mk (fun hlt=>?_) (fun hge=>?_)
  ·have hlt:(i:Int) < (k:Int):=of_decide_eq_true hlt
   have e1:Value.int .u8 (IntKind.wrap .u8 ((x / 256 ^ i:Nat):Int))=bv (UInt8.ofNat (x / 256 ^ i % 256)):=by
    have:IntKind.wrap .u8 ((x / 256 ^ i:Nat):Int)=((x / 256 ^ i % 256:Nat):Int):=by
     generalize x / 256 ^ i=y
     exact u8_wr y
    rw [this]
    exact bv_nat (Nat.mod_lt _ (by omega))
   have e2:Int.fdiv ((x / 256 ^ i:Nat):Int) (2 ^ 8)=((x / 256 ^ (i+1):Nat):Int):=by
    rw [show Int.fdiv ((x / 256 ^ i:Nat):Int) (2 ^ 8)=((x / 256 ^ i / 256:Nat):Int) from fdiv_8 _,Nat.div_div_eq_div_mul,<- Nat.pow_succ]
   show nw u ([Value.int .u8 (IntKind.wrap .u8 ((x / 256 ^ i:Nat):Int))] ++ []) _ _
   rw [e1]
   refine push_mk hr (by show n+i < _; omega) (fun A2 c2 w2 h2=>jnC_mk (hC _ _ ⟨i+1,A2,c2,by omega,?_,?_⟩ ?_))
   ·show (Int.fdiv ((x / 256 ^ i:Nat):Int) (2 ^ 8),(A2,n+i+1,c2),(k:Int),IntKind.wrap .i64 ((i:Int)+1),())=_
    rw [e2,le_e1 i (by omega)]; rfl
   ·rw [leB_take,<- List.append_assoc]; exact h2
   ·show ((k:Int) - IntKind.wrap .i64 ((i:Int)+1)).toNat < ((k:Int) - (i:Int)).toNat
    rw [le_e1 i (by omega)]; omega
  ·have hge:¬ (i:Int) < (k:Int):=of_decide_eq_false hge
   obtain rfl:i=k:=by omega
   exact ⟨A',c',rfl,hr⟩
 ·rw [Nat.pow_zero,Nat.div_one]; rfl
 ·rw [leB,List.append_nil]; exact h1
theorem fsize_calls (x:Nat) (w:World) (hx:x<=1099511627776):Calls Tryz.prog 39 #[.int .i64 (x:Nat)] w fun e w'=>e=.returned (.int .i64 ((21+x:Nat):Int))/\w'=w:=by
 refine (F39.of x w (Q:=fun v w'=>v=.int .i64 ((21+x:Nat):Int)/\w'=w) ?_).mono (fun e w' ⟨v,he,hv,h⟩=>⟨by rw [he,hv],h⟩)
 refine ⟨?_,rfl⟩
 rw [i64_id (n:=17+((x:Nat):Int)) (by omega) (by omega),i64_id (by omega) (by omega)]
 congr 1; omega
theorem fptext_calls (A:Option Addr) (n c:Nat) (b s:List UInt8) (w:World) (h:Sl w 1 A n (b.map bv)) (hn:n<=1099511627000) (hs:s.length<=255) :
  Calls Tryz.prog 73 #[.slice A n c,.string ⟨s.toArray⟩] w fun e w'=>∃ A' c',e=.returned (.tuple #[.slice A' (n+1+s.length) c',.bool true])/\RB w w' A' (n+1+s.length) c' (b ++ (UInt8.ofNat s.length :: s)):=by
 have hl:=sl_len h
 have hsz:(⟨s.toArray⟩:ByteArray).size=s.length:=List.size_toArray
 refine (F73.of A n c ⟨s.toArray⟩ w (Q:=fun v w'=>∃ A' c',v=.tuple #[.slice A' (n+1+s.length) c',.bool true]/\RB w w' A' (n+1+s.length) c' (b ++ (UInt8.ofNat s.length :: s))) ?_).mono (fun e w' ⟨v,he,A',c',hv,h⟩=>⟨A',c',by rw [he,hv],h⟩)
 have e1:IntKind.wrap .i64 (((⟨s.toArray⟩:ByteArray).size:Int)+1)=((s.length+1:Nat):Int):=by rw [hsz,i64_id (by omega) (by omega)]; omega
 unfold F73.vc
 rw [e1]
 refine (with_calls1 A n c (s.length+1) b w h (by omega)).mono ?_
 rintro e w1 ⟨A1,c1,rfl,h1⟩
 refine ⟨A1,n,c1,rfl,vIf_f (decide_eq_false (by rw [hsz]; omega)) ?_⟩
 rw [hsz]
 have e2:Value.int .u8 (IntKind.wrap .u8 ((s.length:Nat):Int))=bv (UInt8.ofNat s.length):=by
  rw [u8_id (by omega) (by omega)]
  exact bv_nat (by omega)
 rw [e2]
 refine push_mk h1 (by omega) (fun A2 c2 w2 h2=>?_)
 refine app_row h2.2 (x:=.string ⟨s.toArray⟩) (us:=s.map bv) (m:=s.length) ⟨rfl,by rw [hsz],by simp⟩ (bvs_one s) (by simp) (by omega) (by omega) h2.1.size (fun A' c' w' hr f=>⟨A',c',rfl,h2.1.trans f (fun _ _ h=>h) (fun k hk hb=>by have:=(h2.2.blt hb).1; omega),?_⟩)
 have e3:(b ++ (UInt8.ofNat s.length :: s)).map bv=(b ++ [UInt8.ofNat s.length]).map bv ++ s.map bv:=by simp
 rw [e3]; exact hr
theorem fseal_calls (A:Option Addr) (n c:Nat) (b:List UInt8) (w:World) (h:Sl w 1 A n (b.map bv)) (hn:n<=1099511627700) :
  Calls Tryz.prog 102 #[.slice A n c] w fun e w'=>∃ A' c',e=.returned (.slice A' (n+4) c')/\RB w w' A' (n+4) c' (b ++ leB (crcS b).toNat 4):=by
 refine (F102.of A n c w (Q:=fun v w'=>∃ A' c',v=.slice A' (n+4) c'/\RB w w' A' (n+4) c' (b ++ leB (crcS b).toNat 4)) ?_).mono (fun e w' ⟨v,he,A',c',hv,h⟩=>⟨A',c',by rw [he,hv],h⟩)
 refine (crc_calls A n c b w h (by omega)).mono ?_
 rintro e w1 ⟨rfl,f1⟩
 have hlt:(crcS b).toNat < 4294967296:=(crcS b).isLt
 refine ⟨_,rfl,?_⟩
 rw [u64_id (n:=((crcS b).toNat:Int)) (by omega) (by omega)]
 refine (fput_calls A n c b (crcS b).toNat 4 w1 (f1.sl h (fun _ _ _ h=>h)) (by omega) (by omega) (by omega) (by omega)).mono ?_
 rintro e w2 ⟨A2,c2,rfl,h2⟩
 exact ⟨A2,n+4,c2,rfl,A2,c2,rfl,h2.le f1⟩
set_option maxHeartbeats 1000000 in
theorem fmake_calls (k sq:Nat) (A:Option Addr) (n c:Nat) (d:List UInt8) (w:World) (h:Sl w 1 A n (d.map bv)) (hn:n<=4294967295) (hk:k < 256) (hs:sq < 18446744073709551616) :
  Calls Tryz.prog 72 #[.int .i64 (k:Nat),.int .u64 (sq:Nat),.slice A n c] w fun e w'=>∃ A' c',e=.returned (.slice A' (21+n) c')/\RB w w' A' (21+n) c' (mkF k sq d):=by
 have hl:=sl_len h
 refine (F72.of (k:Nat) (sq:Nat) A n c w (Q:=fun v w'=>∃ A' c',v=.slice A' (21+n) c'/\RB w w' A' (21+n) c' (mkF k sq d)) ?_).mono (fun e w' ⟨v,he,A',c',hv,h⟩=>⟨A',c',by rw [he,hv],h⟩)
 unfold F72.vc
 rw [u64_id (n:=((k:Nat):Int)) (by omega) (by omega),u64_id (n:=((n:Nat):Int)) (by omega) (by omega)]
 refine (fput_calls none 0 0 [] k 1 w (Sl.nil _ _ _) (by omega) (by omega) (by omega) (by omega)).mono ?_
 rintro e w1 ⟨A1,c1,rfl,h1⟩
 refine ⟨A1,0+1,c1,rfl,(fput_calls A1 (0+1) c1 _ sq 8 w1 h1.sl (by omega) hs (by omega) (by omega)).mono ?_⟩
 rintro e w2 ⟨A2,c2,rfl,h2⟩
 refine ⟨A2,0+1+8,c2,rfl,(fput_calls A2 (0+1+8) c2 _ n 4 w2 h2.sl (by omega) (by omega) (by omega) (by omega)).mono ?_⟩
 rintro e w3 ⟨A3,c3,rfl,h3⟩
 refine ⟨A3,0+1+8+4,c3,rfl,(fseal_calls A3 (0+1+8+4) c3 _ w3 h3.sl (by omega)).mono ?_⟩
 rintro e w4 ⟨A4,c4,rfl,h4⟩
 have f3:=(h1.1.trans1 h2.1).trans1 h3.1
 refine ⟨A4,0+1+8+4+4,c4,rfl,appB_mk (h4.le f3) ((f3.trans1 h4.1).sl h (fun _ _ _ h=>h)) (by omega) (fun A5 c5 w5 h5=>(fseal_calls A5 _ c5 _ w5 h5.sl (by omega)).mono ?_)⟩
 rintro e w6 ⟨A6,c6,rfl,h6⟩
 have e1:[] ++ leB k 1 ++ leB sq 8 ++ leB n 4=hdF k sq d.length:=by
  rw [hl]; rfl
 rw [e1] at h6
 have e2:hdF k sq d.length ++ leB (crcS (hdF k sq d.length)).toNat 4 ++ d=bdF k sq d:=rfl
 rw [e2] at h6
 have e3:0+1+8+4+4+n+4=21+n:=by omega
 rw [e3] at h6 ⊢
 exact ⟨A6,_,c6,rfl,A6,c6,rfl,h6.le h5.1⟩
def daW (x:Rc):List UInt8 :=
 if x.k=3\/x.k=4 then (UInt8.ofNat x.nm.length :: x.nm) ++ (if x.k=3 then x.d else [])
 else if x.k=5 then x.d
 else if x.k=1\/x.k=2 then x.d ++ x.dat
 else if x.k=7 then stil ++ leB x.n.toNat 8
 else leB x.n.toNat 4 ++ leB x.z.toNat 4
structure RcG (x:Rc):Prop where
 d:x.d.length=32
 rg:rgR x=0
 sq:x.sq < 18446744073709551616
theorem rg_k {x:Rc} (h:rgR x=0):1<=x.k/\x.k<=8:=by
 unfold rgR at h
 split at h
 ·cases h
 ·omega
theorem rg_dat {x:Rc} (h:rgR x=0) (hk:x.k=1\/x.k=2):x.dat.length<=65504:=by
 have:=rg_k h
 unfold rgR at h
 rw [if_neg (by omega)] at h
 by_cases g:x.k<=2/\x.dat.length > 65504
 ·rw [if_pos g] at h; cases h
 ·omega
theorem rg_nm {x:Rc} (h:rgR x=0) (hk:x.k=3\/x.k=4):TagP ⟨x.nm.toArray⟩:=by
 have:=rg_k h
 unfold rgR at h
 rw [if_neg (by omega),if_neg (by omega)] at h
 by_cases g:TagP ⟨x.nm.toArray⟩
 ·exact g
 ·rw [if_pos ⟨hk,g⟩] at h; cases h
theorem rg_nz {x:Rc} (h:rgR x=0) (hk:x.k=6\/x.k=8):0<=x.n/\x.n<=4294967295/\0<=x.z/\x.z<=4294967295:=by
 have:=rg_k h
 unfold rgR at h
 rw [if_neg (by omega),if_neg (by omega),if_neg (by omega)] at h
 by_cases g:(x.k=6\/x.k=8)/\(x.n < 0\/x.n > 4294967295\/x.z < 0\/x.z > 4294967295)
 ·rw [if_pos g] at h; cases h
 ·exact ⟨Decidable.byContradiction fun q=>g ⟨hk,.inl (by omega)⟩,Decidable.byContradiction fun q=>g ⟨hk,.inr (.inl (by omega))⟩,Decidable.byContradiction fun q=>g ⟨hk,.inr (.inr (.inl (by omega)))⟩,Decidable.byContradiction fun q=>g ⟨hk,.inr (.inr (.inr (by omega)))⟩⟩
theorem rg_n {x:Rc} (h:rgR x=0) (hk:x.k=7):1<=x.n/\x.n<=99999999:=by
 have:=rg_k h
 unfold rgR at h
 rw [if_neg (by omega),if_neg (by omega),if_neg (by omega),if_neg (by omega)] at h
 by_cases g:x.k=7/\(x.n < 1\/x.n > 99999999)
 ·rw [if_pos g] at h; cases h
 ·exact ⟨Decidable.byContradiction fun q=>g ⟨hk,.inl (by omega)⟩,Decidable.byContradiction fun q=>g ⟨hk,.inr (by omega)⟩⟩
theorem da_len {x:Rc} (hd:x.d.length=32) (hr:rgR x=0):(daW x).length<=65536:=by
 unfold daW
 split
 ·rename_i h
  have ht:=(rg_nm hr h).2.2
  have hsz:(⟨x.nm.toArray⟩:ByteArray).size=x.nm.length:=List.size_toArray
  rw [hsz] at ht
  rw [List.length_append,List.length_cons]
  split
  ·omega
  ·show _+0<=_; omega
 ·split
  ·omega
  ·split
   ·rename_i h
    have:=rg_dat hr h
    rw [List.length_append]; omega
   ·split
    ·rw [List.length_append,leB_len]; decide
    ·rw [List.length_append,leB_len,leB_len]; decide
set_option maxHeartbeats 2000000 in
theorem bdata_calls (x:Rc) (A:Option Addr) (n c:Nat) (w:World) (hd:x.d.length=32) (hr:rgR x=0) (hD:Sl w 1 A n (x.dat.map bv)) :
  Calls Tryz.prog 48 #[ofL (rcC x A n c)] w fun e w'=>∃ A' c',e=.returned (.slice A' (daW x).length c')/\RB w w' A' (daW x).length c' (daW x):=by
 refine (F48.of _ w (Q:=fun v w'=>∃ A' c',v=.slice A' (daW x).length c'/\RB w w' A' (daW x).length c' (daW x)) ?_).mono (fun e w' ⟨v,he,A',c',hv,h⟩=>⟨A',c',by rw [he,hv],h⟩)
 have hk:=rg_k hr
 have hn:=sl_len hD
 refine rec_new (fun b1 w2 f1 hb1 r1=>⟨_,r1.cell (o:=0) (v:=.int .i64 x.k) rfl,?_⟩)
 have sd:∀ {u:World},RecAt u b1 34 (rcC x A n c)->Sl u 1 (some ⟨b1,0+2,none⟩) 32 (x.d.map bv):=fun hu=>⟨by rw [List.length_map,hd],fun _=>⟨b1,0+2,rfl,hu.cells (o:=2) (fun j v hj=>rcC_d hd A n c j v hj)⟩⟩
 have k12:∀ (u:World) (A1:Option Addr) (n1 c1:Nat) (l:List UInt8),RB w u A1 n1 c1 l->RecAt u b1 34 (rcC x A n c)->n1<=1000->l ++ x.d=daW x->jnC (F48.k12 (fun v w'=>∃ A' c',v=.slice A' (daW x).length c'/\RB w w' A' (daW x).length c' (daW x))) ((b1,0),(A1,n1,c1),()) u:=by
  intro u A1 n1 c1 l hu ru h1 hl
  refine jnC_mk (fun _=>appB_mk hu (sd ru) (by show n1+32<=1099511627776; omega) (fun A2 c2 w2 h2=>?_))
  rw [hl] at h2
  have:=h2.len
  rw [<- this] at h2 ⊢
  exact ⟨A2,c2,rfl,h2⟩
 have k9:x.k=3\/x.k=4->jnC (F48.k9 (fun v w'=>∃ A' c',v=.slice A' (daW x).length c'/\RB w w' A' (daW x).length c' (daW x))) ((b1,0),(none,0,0),()) w2:=by
  intro h
  have ht:=(rg_nm hr h).2.2
  have hsz:(⟨x.nm.toArray⟩:ByteArray).size=x.nm.length:=List.size_toArray
  rw [hsz] at ht
  refine jnC_mk (fun _=>⟨_,r1.cell (o:=34) (rc_name hd A n c),(fptext_calls none 0 0 [] x.nm w2 (Sl.nil _ _ _) (by omega) (by omega)).mono ?_⟩)
  rintro e w4 ⟨A4,c4,rfl,h4⟩
  have hw4:=h4.le f1
  have r4:=r1.fr h4.1 (fun h=>h)
  refine ⟨A4,_,c4,true,rfl,_,r4.cell (o:=0) (v:=.int .i64 x.k) rfl,vIf_mk (fun g=>?_) (fun g=>k12 w4 A4 _ c4 _ hw4 r4 (by omega) ?_)⟩
  ·have g:x.k=4:=by simpa using g
   have e1:[] ++ (UInt8.ofNat x.nm.length :: x.nm)=daW x:=by
    unfold daW
    rw [if_pos (.inr g),if_neg (by omega),List.append_nil]; rfl
   rw [e1] at hw4
   have:=hw4.len
   rw [<- this] at hw4 ⊢
   exact ⟨A4,c4,rfl,hw4⟩
  ·have g:¬ x.k=4:=by simpa using g
   unfold daW
   rw [if_pos h,if_pos (by omega)]; rfl
 have k5:¬ (x.k=3\/x.k=4)->jnC (F48.k5 (fun v w'=>∃ A' c',v=.slice A' (daW x).length c'/\RB w w' A' (daW x).length c' (daW x))) ((b1,0),(none,0,0),x.k,()) w2:=by
  intro h
  have k13:x.k=1\/x.k=2->jnC (F48.k13 (fun v w'=>∃ A' c',v=.slice A' (daW x).length c'/\RB w w' A' (daW x).length c' (daW x))) ((b1,0),()) w2:=by
   intro h12
   have hdl:=rg_dat hr h12
   have fd:Fr (fun _=>False) w2 w2.drew:=Fr.drew _ _
   have rd:=r1.fr fd (fun h=>h)
   refine jnC_mk (fun _=>⟨_,_,_,rd.cell (o:=35) (rc_data hd A n c),rec_new (fun b4 w4 f4 hb4 r4=>?_)⟩)
   have r14:=rd.fr f4 (fun h=>h)
   have f14:=(f1.trans1 fd).trans1 f4
   refine (concat_calls _ 2 2 [Value.slice (some ⟨b1,0+2,none⟩) 32 32,Value.slice A n c] [x.d,x.dat] w4 ⟨rfl,fun _=>⟨b4,0,rfl,rec_all r4⟩⟩ rfl (fun i l hi=>?_) (by simp; omega) (by omega)).mono ?_
   ·match i,hi with
    | 0,hi=>simp at hi; subst hi; exact ⟨_,32,32,rfl,sd r14⟩
    | 1,hi=>simp at hi; subst hi; exact ⟨A,n,c,rfl,f14.sl hD (fun _ _ _ h=>h)⟩
    | i+2,hi=>simp at hi
   ·rintro e w5 ⟨f5,A5,c5,rfl,h5⟩
    have e1:[x.d,x.dat].flatten=daW x:=by
     unfold daW
     rw [if_neg h,if_neg (by omega),if_pos h12]; simp
    rw [e1] at h5 ⊢
    exact ⟨A5,_,c5,rfl,A5,c5,rfl,RB.le ⟨f5,h5⟩ f14⟩
  have k14:x.k=7->jnC (F48.k14 (fun v w'=>∃ A' c',v=.slice A' (daW x).length c'/\RB w w' A' (daW x).length c' (daW x))) ((b1,0),()) w2:=by
   intro h7
   have hnn:=rg_n hr h7
   obtain ⟨m,hm⟩:∃ m:Nat,x.n=(m:Int):=⟨x.n.toNat,by omega⟩
   refine jnC_mk (fun _=>rec_new (fun b4 w4 f4 hb4 r4=>mkS_mk r4 (fun w5 f5 hc=>?_)))
   have hb4':w2.heap.size<=b4:=hb4
   have lt1:=r1.lt
   have r15:RecAt w5 b1 34 (rcC x A n c):=(r1.fr f4 (fun h=>h)).fr f5 (fun h=>by have h:b1=b4:=h; omega)
   have f15:Fr (fun _=>False) w w5:=(f1.trans1 f4).trans f5 (fun _ _ h=>h) (fun k hk h=>by have h:k=b4:=h; have:=f1.size; omega)
   have hs:Sl w5 1 (some ⟨b4,0,none⟩) 8 (stil.map bv):=⟨rfl,fun _=>⟨b4,0,rfl,fun j v hj=>by
    rw [hc]
    exact r4.cell (by rw [Nat.zero_add]; exact hj)⟩⟩
   refine ⟨_,r15.cell (o:=36) (rc_n hd A n c),?_⟩
   rw [hm]
   dsimp only
   rw [u64_id (n:=((m:Nat):Int)) (by omega) (by omega)]
   refine (fput_calls _ 8 8 stil m 8 w5 hs (by omega) (by omega) (by omega) (by omega)).mono ?_
   rintro e w6 ⟨A6,c6,rfl,h6⟩
   have e1:stil ++ leB m 8=daW x:=by
    unfold daW
    rw [if_neg h,if_neg (by omega),if_neg (by omega),if_pos h7,hm,Int.toNat_natCast]
   rw [e1] at h6
   have:=h6.len
   rw [<- this] at h6 ⊢
   exact ⟨A6,_,c6,rfl,A6,c6,rfl,h6.le f15⟩
  have k15:x.k=6\/x.k=8->jnC (F48.k15 (fun v w'=>∃ A' c',v=.slice A' (daW x).length c'/\RB w w' A' (daW x).length c' (daW x))) ((b1,0),(none,0,0),()) w2:=by
   intro h68
   have hnz:=rg_nz hr h68
   obtain ⟨m,hm⟩:∃ m:Nat,x.n=(m:Int):=⟨x.n.toNat,by omega⟩
   obtain ⟨z,hz⟩:∃ m:Nat,x.z=(m:Int):=⟨x.z.toNat,by omega⟩
   have fd:Fr (fun _=>False) w2 w2.drew:=Fr.drew _ _
   have rd:=r1.fr fd (fun h=>h)
   refine jnC_mk (fun _=>⟨_,rd.cell (o:=36) (rc_n hd A n c),_,rd.cell (o:=37) (rc_z hd A n c),?_⟩)
   rw [hm,hz]
   dsimp only
   rw [u64_id (n:=((m:Nat):Int)) (by omega) (by omega),u64_id (n:=((z:Nat):Int)) (by omega) (by omega)]
   refine (fput_calls none 0 0 [] m 4 w2.drew (Sl.nil _ _ _) (by omega) (by omega) (by omega) (by omega)).mono ?_
   rintro e w4 ⟨A4,c4,rfl,h4⟩
   refine ⟨A4,_,c4,rfl,kp_mk h4.1 rd.lt (fun h=>h) ((fput_calls A4 _ c4 _ z 4 w4 h4.sl (by omega) (by omega) (by omega) (by omega)).mono ?_)⟩
   rintro e w6 ⟨A6,c6,rfl,h6⟩
   have e1:[] ++ leB m 4 ++ leB z 4=daW x:=by
    unfold daW
    rw [if_neg h,if_neg (by omega),if_neg (by omega),if_neg (by omega),hm,hz,Int.toNat_natCast,Int.toNat_natCast]; rfl
   rw [e1] at h6
   have:=h6.len
   rw [<- this] at h6 ⊢
   exact ⟨A6,_,c6,rfl,A6,c6,rfl,h6.le ((f1.trans1 fd).trans1 h4.1)⟩
  refine jnC_mk (fun _=>vIf_mk (fun g=>?_) (fun g=>vIf_mk (fun g1=>?_) (fun g1=>vIf_mk (fun g2=>?_) (fun g2=>vIf_mk (fun g3=>?_) (fun g3=>?_)))))
  ·have g:x.k=5:=by simpa using g
   refine k12 w2 none 0 0 [] ((RB.nil w).fr f1) r1 (by omega) ?_
   unfold daW
   rw [if_neg h,if_pos g]; rfl
  ·have g1:x.k=1:=by simpa using g1
   exact vIf_mk (fun _=>k13 (.inl g1)) (fun q=>absurd g1 (by simpa using q))
  ·have g2:x.k=2:=by simpa using g2
   exact k13 (.inr g2)
  ·have g3:x.k=7:=by simpa using g3
   exact k14 g3
  ·have g:¬ x.k=5:=by simpa using g
   have g1:¬ x.k=1:=by simpa using g1
   have g2:¬ x.k=2:=by simpa using g2
   have g3:¬ x.k=7:=by simpa using g3
   exact k15 (by omega)
 refine vIf_mk (fun g=>?_) (fun g=>vIf_mk (fun g4=>k9 (.inr (by simpa using g4))) (fun g4=>k5 ?_))
 ·have g:x.k=3:=by simpa using g
  exact vIf_mk (fun _=>k9 (.inl g)) (fun q=>absurd g (by simpa using q))
 ·have g:¬ x.k=3:=by simpa using g
  have g4:¬ x.k=4:=by simpa using g4
  omega
def mkW (x:Rc):List UInt8:=mkF x.k.toNat x.sq (daW x)
theorem mkW_len (x:Rc):(mkW x).length=21+(daW x).length:=mkF_len _ _ _
theorem bmake_calls (x:Rc) (A:Option Addr) (n c:Nat) (w:World) (h:RcG x) (hm:x.nm.length<=1099511627775) (hD:Sl w 1 A n (x.dat.map bv)) :
  Calls Tryz.prog 46 #[ofL (rcC x A n c)] w fun e w'=>∃ A' c',e=.returned (.tuple #[.slice A' (mkW x).length c',.int .i64 0])/\RB w w' A' (mkW x).length c' (mkW x):=by
 refine (F46.of _ w (Q:=fun v w'=>∃ A' c',v=.tuple #[.slice A' (mkW x).length c',.int .i64 0]/\RB w w' A' (mkW x).length c' (mkW x)) ?_).mono (fun e w' ⟨v,he,A',c',hv,h⟩=>⟨A',c',by rw [he,hv],h⟩)
 have hk:=rg_k h.rg
 have hn:=(sl_len hD).symm
 refine rec_new (fun b1 w2 f1 hb1 r1=>⟨_,rcC_len h.d _ _ _,rec_all r1,(rgt_calls x A n c w2 h.d hn hm).mono ?_⟩)
 rintro e w4 ⟨rfl,f4⟩
 refine ⟨_,rfl,vIf_mk (fun g=>?_) (fun g=>?_)⟩
 ·rw [h.rg] at g; cases g
 have fd:Fr (fun _=>False) w4 w4.drew:=Fr.drew _ _
 have r4:=(r1.fr f4 (fun h=>h)).fr fd (fun h=>h)
 have f04:=(f1.trans1 f4).trans1 fd
 refine ⟨_,r4.cell (o:=0) (rc_k _ _ _),_,r4.cell (o:=1) (rc_sq _ _ _),_,rcC_len h.d _ _ _,rec_all r4,(bdata_calls x A n c w4.drew h.d h.rg (f04.sl hD (fun _ _ _ h=>h))).mono ?_⟩
 rintro e w14 ⟨A1,c1,rfl,h1⟩
 have hl:=da_len h.d h.rg
 have e8:x.k=((x.k.toNat:Nat):Int):=by omega
 refine ⟨A1,_,c1,rfl,kp_mk h1.1 r4.lt (fun h=>h) (kp_mk h1.1 r4.lt (fun h=>h) ?_)⟩
 rw [e8]
 refine (fmake_calls x.k.toNat x.sq A1 (daW x).length c1 (daW x) w14 h1.sl (by omega) (by omega) h.sq).mono ?_
 rintro e w19 ⟨A2,c2,rfl,h2⟩
 exact ⟨A2,_,c2,rfl,A2,c2,by rw [mkW_len],by rw [mkW_len]; exact (h2.le h1.1).le f04⟩
def szW (x:Rc):Nat:=if rgR x=0 then (mkW x).length else 0
theorem bsize_calls (x:Rc) (A:Option Addr) (n c:Nat) (w:World) (hd:x.d.length=32) (hm:x.nm.length<=1099511627775) (hD:Sl w 1 A n (x.dat.map bv)) :
  Calls Tryz.prog 27 #[ofL (rcC x A n c)] w fun e w'=>e=.returned (.int .i64 (szW x:Nat))/\Fr (fun _=>False) w w':=by
 refine (F27.of _ w (Q:=fun v w'=>v=.int .i64 (szW x:Nat)/\Fr (fun _=>False) w w') ?_).mono (fun e w' ⟨v,he,hv,h⟩=>⟨by rw [he,hv],h⟩)
 have hn:=(sl_len hD).symm
 refine rec_new (fun b1 w2 f1 hb1 r1=>⟨_,rcC_len hd _ _ _,rec_all r1,(rgt_calls x A n c w2 hd hn hm).mono ?_⟩)
 rintro e w4 ⟨rfl,f4⟩
 refine ⟨_,rfl,vIf_mk (fun g=>?_) (fun g=>?_)⟩
 ·have g:¬ rgR x=0:=by simpa using g
  exact ⟨by unfold szW; rw [if_neg g]; rfl,f1.trans1 f4⟩
 ·have g:rgR x=0:=by simpa using g
  have hl:=da_len hd g
  have r4:=r1.fr f4 (fun h=>h)
  have f04:=f1.trans1 f4
  refine ⟨_,rcC_len hd _ _ _,rec_all r4,(bdata_calls x A n c w4 hd g (f04.sl hD (fun _ _ _ h=>h))).mono ?_⟩
  rintro e w14 ⟨A1,c1,rfl,h1⟩
  refine ⟨A1,_,c1,rfl,(fsize_calls _ w14 (by omega)).mono ?_⟩
  rintro e w15 ⟨rfl,rfl⟩
  exact ⟨_,rfl,by unfold szW; rw [if_pos g,mkW_len],f04.trans1 h1.1⟩
def hdR (n q:Nat):Rc:=⟨7,q,z32,[],[],n,0⟩
def ftR (n z q:Nat):Rc:=⟨8,q,z32,[],[],n,z⟩
def cmR (n z q:Nat):Rc:=⟨6,q,z32,[],[],n,z⟩
theorem rg_hd {n q:Nat} (h1:1<=n) (h2:n<=99999999):rgR (hdR n q)=0:=by
 unfold rgR hdR
 rw [if_neg (by dsimp only; omega),if_neg (by dsimp only; omega),if_neg (by dsimp only; omega),if_neg (by dsimp only; omega),if_neg (by dsimp only; omega)]
theorem rg_ft {n z q:Nat} (h1:n<=4294967295) (h2:z<=4294967295):rgR (ftR n z q)=0:=by
 unfold rgR ftR
 rw [if_neg (by dsimp only; omega),if_neg (by dsimp only; omega),if_neg (by dsimp only; omega),if_neg (by dsimp only; omega),if_neg (by dsimp only; omega)]
theorem rg_cm {n z q:Nat} (h1:n<=4294967295) (h2:z<=4294967295):rgR (cmR n z q)=0:=by
 unfold rgR cmR
 rw [if_neg (by dsimp only; omega),if_neg (by dsimp only; omega),if_neg (by dsimp only; omega),if_neg (by dsimp only; omega),if_neg (by dsimp only; omega)]
theorem head_calls (n q:Nat) (w:World) (h1:1<=n) (h2:n<=99999999) (hq:q < 18446744073709551616) :
  Calls Tryz.prog 77 #[.int .i64 (n:Nat),.int .u64 (q:Nat)] w fun e w'=>∃ A' c',e=.returned (.slice A' (mkW (hdR n q)).length c')/\RB w w' A' (mkW (hdR n q)).length c' (mkW (hdR n q)):=by
 refine (F77.of (n:Nat) (q:Nat) w (Q:=fun v w'=>∃ A' c',v=.slice A' (mkW (hdR n q)).length c'/\RB w w' A' (mkW (hdR n q)).length c' (mkW (hdR n q))) ?_).mono (fun e w' ⟨v,he,A',c',hv,h⟩=>⟨A',c',by rw [he,hv],h⟩)
 refine (bmake_calls (hdR n q) none 0 0 w ⟨z32_len,rg_hd h1 h2,hq⟩ (Nat.zero_le _) (Sl.nil _ _ _)).mono ?_
 rintro e w1 ⟨A1,c1,rfl,h⟩
 exact ⟨A1,_,c1,_,rfl,A1,c1,rfl,h⟩
theorem foot_calls (n z q:Nat) (w:World) (h1:n<=4294967295) (h2:z<=4294967295) (hq:q < 18446744073709551616) :
  Calls Tryz.prog 105 #[.int .i64 (n:Nat),.int .i64 (z:Nat),.int .u64 (q:Nat)] w fun e w'=>∃ A' c',e=.returned (.slice A' (mkW (ftR n z q)).length c')/\RB w w' A' (mkW (ftR n z q)).length c' (mkW (ftR n z q)):=by
 refine (F105.of (n:Nat) (z:Nat) (q:Nat) w (Q:=fun v w'=>∃ A' c',v=.slice A' (mkW (ftR n z q)).length c'/\RB w w' A' (mkW (ftR n z q)).length c' (mkW (ftR n z q))) ?_).mono (fun e w' ⟨v,he,A',c',hv,h⟩=>⟨A',c',by rw [he,hv],h⟩)
 refine (bmake_calls (ftR n z q) none 0 0 w ⟨z32_len,rg_ft h1 h2,hq⟩ (Nat.zero_le _) (Sl.nil _ _ _)).mono ?_
 rintro e w1 ⟨A1,c1,rfl,h⟩
 exact ⟨A1,_,c1,_,rfl,A1,c1,rfl,h⟩
def RcE (O:Nat->Prop) (w:World) (cs:List Value) (x:Rc):Prop:=∃ (A:Option Addr) (n c:Nat),cs=rcC x A n c/\Sl w 1 A n (x.dat.map bv)/\n<=c/\(n ≠ 0->∀ k,blkOf A=some k->O k)/\x.d.length=32/\x.nm.length<=1099511627775/\x.dat.length<=1099511627775
theorem RcE.fr {O S:Nat->Prop} {w w':World} {cs:List Value} {x:Rc} (h:RcE O w cs x) (f:Fr S w w') (hS:∀ k,S k->¬ O k):RcE O w' cs x:=by
 obtain ⟨A,n,c,e,h1,h2,h3,h4⟩:=h
 exact ⟨A,n,c,e,f.sl h1 (fun h0 k hk hs=>hS k hs (h3 h0 k hk)),h2,h3,h4⟩
theorem RcE.mono {O O':Nat->Prop} {w:World} {cs:List Value} {x:Rc} (h:RcE O w cs x) (hO:∀ k,k < w.heap.size->O k->O' k):RcE O' w cs x:=by
 obtain ⟨A,n,c,e,h1,h2,h3,h4⟩:=h
 exact ⟨A,n,c,e,h1,h2,fun h0 k hk=>hO k (h1.blt (by omega) h0 hk) (h3 h0 k hk),h4⟩
theorem RcE.len {O:Nat->Prop} {w:World} {cs:List Value} {x:Rc} (h:RcE O w cs x):cs.length=38/\∀ v ∈ cs,v.oneCell'=true:=by
 obtain ⟨A,n,c,rfl,h1,h2,h3,h4,_⟩:=h
 exact ⟨rcC_len h4 _ _ _,rcC_one _ _ _ _⟩
structure RSl (O:Nat->Prop) (w:World) (A:Option Addr) (n:Nat) (l:List Rc):Prop where
 ex:∃ vs,Sl w 38 A n vs/\Ech 38 (RcE O w) vs l
 len:l.length=n
 o:n ≠ 0->∀ k,blkOf A=some k->O k
theorem RSl.fr {O S:Nat->Prop} {w w':World} {A:Option Addr} {n:Nat} {l:List Rc} (h:RSl O w A n l) (f:Fr S w w') (hS:∀ k,S k->¬ O k):RSl O w' A n l:=by
 obtain ⟨⟨vs,h1,h2⟩,h3,h4⟩:=h
 exact ⟨⟨vs,f.sl h1 (fun h0 k hk hs=>hS k hs (h4 h0 k hk)),h2.mono (fun cs x hx=>hx.fr f hS)⟩,h3,h4⟩
theorem RSl.fr0 {O:Nat->Prop} {w w':World} {A:Option Addr} {n:Nat} {l:List Rc} (h:RSl O w A n l) (f:Fr (fun _=>False) w w'):RSl O w' A n l:=h.fr f (fun _ h=>h.elim)
theorem rs_all {O:Nat->Prop} {w:World} {A:Option Addr} {n:Nat} {l:List Rc} (h:RSl O w A n l) {i:Nat} {x:Rc} (hi:l[i]?=some x) {K:List Value->Prop} (hK:∀ cs,RcE O w cs x->K cs) :
  dr A fun b o=>gd (decide (0<=(i:Int))) (gd (decide ((i:Int) < ((n:Nat):Int))) (ldA 38 w b (o+((i:Int)).toNat * 38) K)):=by
 obtain ⟨⟨vs,h1,h2⟩,h3,_⟩:=h
 have:=(List.getElem?_eq_some_iff.1 hi).1
 exact el_all h1 h2 (by omega) hi (by omega) (fun cs _ hx=>hK cs hx)
def wrB (l:List Rc):Int :=
 if l=[] then 2
 else if ∃ x ∈ l,x.k < 1\/x.k > 5 then 2
 else match l.find? (fun x=>decide (rgR x ≠ 0)) with
  | some x=>rgR x
  | none=>0
theorem wrB_0 {l:List Rc} (h:wrB l=0):l ≠ []/\∀ x ∈ l,(1<=x.k/\x.k<=5)/\rgR x=0:=by
 unfold wrB at h
 split at h
 ·cases h
 ·rename_i h1
  split at h
  ·cases h
  ·rename_i h2
   split at h
   ·rename_i x hx
    have:=List.find?_some hx
    simp at this
    exact absurd h this
   ·rename_i hx
    refine ⟨h1,fun x hm=>⟨?_,?_⟩⟩
    ·exact ⟨Decidable.byContradiction fun q=>h2 ⟨x,hm,.inl (by omega)⟩,Decidable.byContradiction fun q=>h2 ⟨x,hm,.inr (by omega)⟩⟩
    ·have:=List.find?_eq_none.1 hx x hm
     simpa using this
theorem wrB_of {l:List Rc} (h:l ≠ []) (h1:∀ x ∈ l,(1<=x.k/\x.k<=5)/\rgR x=0):wrB l=0:=by
 unfold wrB
 rw [if_neg h,if_neg (by rintro ⟨x,hm,q⟩; have:=(h1 x hm).1; omega)]
 have:l.find? (fun x=>decide (rgR x ≠ 0))=none:=List.find?_eq_none.2 (fun x hm=>by simp [(h1 x hm).2])
 rw [this]
theorem find_at {l:List Rc} {i:Nat} {x:Rc} (hi:l[i]?=some x) (hx:rgR x ≠ 0) (hb:∀ j y,j < i->l[j]?=some y->rgR y=0):l.find? (fun x=>decide (rgR x ≠ 0))=some x:=by
 have e:l=l.take i ++ (x :: l.drop (i+1)):=by
  obtain ⟨h1,h2⟩:=List.getElem?_eq_some_iff.1 hi
  rw [<- h2,<- List.drop_eq_getElem_cons h1,List.take_append_drop]
 rw [e,List.find?_append]
 have:(l.take i).find? (fun x=>decide (rgR x ≠ 0))=none:=List.find?_eq_none.2 (fun y hm=>by
  obtain ⟨j,hj⟩:=List.mem_iff_getElem?.1 hm
  rw [List.getElem?_take] at hj
  split at hj
  ·rename_i hji
   simp [hb j y hji hj]
  ·cases hj)
 rw [this]
 simp [hx]
theorem rcv_mk {O:Nat->Prop} {w:World} {cs:List Value} {x:Rc} (h:RcE O w cs x) {K:Nat->World->Prop} (hK:∀ b w',Fr (fun _=>False) w w'->w.heap.size<=b->RecAt w' b 34 cs->K b w') :
  nw w Z34 34 fun b w1=>gd (cs.length == 38) (st w1 b 0 cs fun w2=>K b w2) :=
 var_new (sz:=38) rfl h.len.1 h.len.2 hK
set_option maxHeartbeats 1000000 in
theorem bwrong_calls (O:Nat->Prop) (A:Option Addr) (n c:Nat) (l:List Rc) (w:World) (h:RSl O w A n l) (hn:n<=1099511627776) :
  Calls Tryz.prog 45 #[.slice A n c] w fun e w'=>e=.returned (.int .i64 (wrB l))/\Fr (fun _=>False) w w':=by
 refine (F45.of A n c w (Q:=fun v w'=>v=.int .i64 (wrB l)/\Fr (fun _=>False) w w') ?_).mono (fun e w' ⟨v,he,hv,h⟩=>⟨by rw [he,hv],h⟩)
 have hl:=h.len
 refine vIf_mk (fun h0=>?_) (fun h0=>?_)
 ·have h0:(n:Int)=0:=by simpa using h0
  have:l=[]:=List.length_eq_zero_iff.1 (by omega)
  subst this
  exact ⟨rfl,Fr.refl _ _⟩
 have h0:¬ (n:Int)=0:=by simpa using h0
 have hne:l ≠ []:=fun e=>by rw [e] at hl; simp at hl; omega
 refine jnC_mk (loop_rule (fun s u=>Fr (fun _=>False) w u/\∃ i:Nat,i<=n/\s=((A,n,c),(A,n,c),(n:Int),(i:Int),())/\∀ j x,j < i->l[j]?=some x->1<=x.k/\x.k<=5) (fun s _=>(n - s.2.2.2.1).toNat) ?_ _ _ ⟨Fr.refl _ _,0,by omega,rfl,fun j x hj=>by omega⟩)
 rintro s u C ⟨fu,i,hi,rfl,hlo⟩ hC _
 refine vIf_mk (fun hlt=>?_) (fun hge=>?_)
 ·have hlt:(i:Int) < (n:Int):=of_decide_eq_true hlt
  have gi:l[i]?=some (l[i]'(by omega)):=List.getElem?_eq_getElem (by omega)
  generalize l[i]'(by omega)=x at gi
  refine rs_all (h.fr0 fu) gi (fun cs hx=>rcv_mk hx (fun b4 w6 f6 hb4 r4=>?_))
  obtain ⟨A1,n1,c1,rfl,_⟩:=hx
  refine ⟨_,r4.cell (o:=0) (rc_k _ _ _),(may_calls x.k w6).mono ?_⟩
  rintro e w8 ⟨rfl,rfl⟩
  refine ⟨_,rfl,vIf_mk (fun g=>⟨?_,fu.trans1 f6⟩) (fun g=>jnC_mk (hC _ _ ⟨fu.trans1 f6,i+1,by omega,?_,fun j y hj hy=>?_⟩ ?_))⟩
  ·have g:¬ (1<=x.k/\x.k<=5):=fun q=>by rw [decide_eq_true q] at g; cases g
   unfold wrB
   rw [if_neg hne,if_pos ⟨x,List.mem_of_getElem? gi,by omega⟩]
  ·show ((A,n,c),(A,n,c),(n:Int),IntKind.wrap .i64 ((i:Int)+1),())=_
   rw [i64_id (by omega) (by omega)]; rfl
  ·have g:1<=x.k/\x.k<=5:=by simpa using g
   by_cases hji:j=i
   ·subst hji
    rw [gi] at hy
    injection hy with hy
    rw [<- hy]; exact g
   ·exact hlo j y (by omega) hy
  ·show ((n:Int) - IntKind.wrap .i64 ((i:Int)+1)).toNat < ((n:Int) - (i:Int)).toNat
   rw [i64_id (by omega) (by omega)]; omega
 ·have hge:¬ (i:Int) < (n:Int):=of_decide_eq_false hge
  have hall:¬ ∃ x ∈ l,x.k < 1\/x.k > 5:=by
   rintro ⟨x,hm,q⟩
   obtain ⟨j,hj⟩:=List.mem_iff_getElem?.1 hm
   have:=(List.getElem?_eq_some_iff.1 hj).1
   have:=hlo j x (by omega) hj
   omega
  refine jnC_mk (loop_rule (fun s u=>Fr (fun _=>False) w u/\∃ i:Nat,i<=n/\s=((A,n,c),(n:Int),(i:Int),())/\∀ j x,j < i->l[j]?=some x->rgR x=0) (fun s _=>(n - s.2.2.1).toNat) ?_ _ _ ⟨fu,0,by omega,rfl,fun j x hj=>by omega⟩)
  rintro s u C ⟨fu,i,hi,rfl,hlo2⟩ hC _
  refine vIf_mk (fun hlt=>?_) (fun hge=>⟨?_,fu⟩)
  ·have hlt:(i:Int) < (n:Int):=of_decide_eq_true hlt
   have gi:l[i]?=some (l[i]'(by omega)):=List.getElem?_eq_getElem (by omega)
   generalize l[i]'(by omega)=x at gi
   refine rs_all (h.fr0 fu) gi (fun cs hx=>rcv_mk hx (fun b4 w6 f6 hb4 r4=>?_))
   obtain ⟨A1,n1,c1,rfl,x1,x2,x3,x4,x5,x6⟩:=hx
   refine ⟨_,rcC_len x4 _ _ _,rec_all r4,(rgt_calls x A1 n1 c1 w6 x4 (sl_len x1).symm x5).mono ?_⟩
   rintro e w8 ⟨rfl,f8⟩
   have fu8:=(fu.trans1 f6).trans1 f8
   refine ⟨_,rfl,vIf_mk (fun g=>⟨?_,fu8⟩) (fun g=>jnC_mk (hC _ _ ⟨fu8,i+1,by omega,?_,fun j y hj hy=>?_⟩ ?_))⟩
   ·have g:¬ rgR x=0:=by simpa using g
    unfold wrB
    rw [if_neg hne,if_neg hall,find_at gi g hlo2]
   ·show ((A,n,c),(n:Int),IntKind.wrap .i64 ((i:Int)+1),())=_
    rw [i64_id (by omega) (by omega)]; rfl
   ·have g:rgR x=0:=by simpa using g
    by_cases hji:j=i
    ·subst hji
     rw [gi] at hy
     injection hy with hy
     rw [<- hy]; exact g
    ·exact hlo2 j y (by omega) hy
   ·show ((n:Int) - IntKind.wrap .i64 ((i:Int)+1)).toNat < ((n:Int) - (i:Int)).toNat
    rw [i64_id (by omega) (by omega)]; omega
  ·have hge:¬ (i:Int) < (n:Int):=of_decide_eq_false hge
   have hno:l.find? (fun x=>decide (rgR x ≠ 0))=none:=List.find?_eq_none.2 (fun x hm=>by
    obtain ⟨j,hj⟩:=List.mem_iff_getElem?.1 hm
    have:=(List.getElem?_eq_some_iff.1 hj).1
    simp [hlo2 j x (by omega) hj])
   unfold wrB
   rw [if_neg hne,if_neg hall,hno]
theorem commit_calls (n z q:Nat) (w:World):Calls Tryz.prog 47 #[.int .i64 (n:Nat),.int .i64 (z:Nat),.int .u64 (q:Nat)] w fun e w'=>e=.returned (ofL (rcC (cmR n z q) none 0 0))/\Fr (fun _=>False) w w':=by
 refine (F47.of (n:Nat) (z:Nat) (q:Nat) w (Q:=fun v w'=>v=ofL (rcC (cmR n z q) none 0 0)/\Fr (fun _=>False) w w') ?_).mono (fun e w' ⟨v,he,hv,h⟩=>⟨by rw [he,hv],h⟩)
 refine rec_new (fun b1 w2 f1 hb1 r1=>?_)
 exact ansN_mk (N:=38) (cs:=rcC (cmR n z q) none 0 0) (K:=fun a w1=>ofL a=ofL (rcC (cmR n z q) none 0 0)/\Fr (fun _=>False) w w1) r1 rfl (rcC_len z32_len _ _ _) (rcC_one _ _ _ _) (fun w' g=>⟨rfl,fr_var f1 hb1 g⟩)
def fmB:List Rc->Nat->List UInt8
 | [],_=>[]
 | x :: r,q=>mkW { x with sq:=q } ++ fmB r (q+1)
theorem fmB_snoc:∀ (l:List Rc) (x:Rc) (q:Nat),fmB (l ++ [x]) q=fmB l q ++ mkW { x with sq:=q+l.length }
 | [],x,q=>by simp [fmB]
 | y :: l,x,q=>by
  show mkW { y with sq:=q } ++ fmB (l ++ [x]) (q+1)=(mkW { y with sq:=q } ++ fmB l (q+1)) ++ _
  rw [fmB_snoc l x (q+1),List.append_assoc,List.length_cons,show q+1+l.length=q+(l.length+1) by omega]
def batB (l:List Rc) (q:Nat):List UInt8:=fmB l q ++ mkW (cmR l.length (fmB l q).length (q+l.length))
theorem mkW_le {x:Rc} (hd:x.d.length=32) (hr:rgR x=0):(mkW x).length<=65557:=by rw [mkW_len]; have:=da_len hd hr; omega
theorem fmB_le:∀ (l:List Rc) (q:Nat),(∀ x ∈ l,x.d.length=32/\rgR x=0)->(fmB l q).length<=l.length * 65557
 | [],q,_=>Nat.zero_le _
 | x :: l,q,h=>by
  have h1:=h x List.mem_cons_self
  have h2:=fmB_le l (q+1) (fun y hy=>h y (List.mem_cons_of_mem _ hy))
  have h3:=mkW_le (x:={ x with sq:=q }) h1.1 h1.2
  show (mkW { x with sq:=q } ++ fmB l (q+1)).length<=_
  rw [List.length_append,List.length_cons]; omega
def bmR (l:List Rc) (q:Nat):List UInt8×Nat×Int :=
 if wrB l ≠ 0 then ([],q,wrB l)
 else if l.length >= 18446744073709551615 - q then ([],q,20)
 else (batB l q,q+l.length+1,0)
set_option maxHeartbeats 2000000 in
theorem bmk_calls (O:Nat->Prop) (A:Option Addr) (n c q:Nat) (l:List Rc) (w:World) (h:RSl O w A n l) (hn:n<=60000) (hq:q < 18446744073709551616) :
  Calls Tryz.prog 26 #[.slice A n c,.int .u64 (q:Nat)] w fun e w'=>∃ A' c',e=.returned (.tuple #[.slice A' (bmR l q).1.length c',.int .u64 ((bmR l q).2.1:Nat),.int .i64 (bmR l q).2.2])/\RB w w' A' (bmR l q).1.length c' (bmR l q).1:=by
 refine (F26.of A n c (q:Nat) w (Q:=fun v w'=>∃ A' c',v=.tuple #[.slice A' (bmR l q).1.length c',.int .u64 ((bmR l q).2.1:Nat),.int .i64 (bmR l q).2.2]/\RB w w' A' (bmR l q).1.length c' (bmR l q).1) ?_).mono (fun e w' ⟨v,he,A',c',hv,h⟩=>⟨A',c',by rw [he,hv],h⟩)
 have hl:=h.len
 refine (bwrong_calls O A n c l w h (by omega)).mono ?_
 rintro e w1 ⟨rfl,f1⟩
 refine ⟨_,rfl,vIf_mk (fun g=>?_) (fun g=>?_)⟩
 ·have g:¬ wrB l=0:=by simpa using g
  have e1:bmR l q=([],q,wrB l):=if_pos g
  rw [e1]
  exact ⟨none,0,rfl,(RB.nil w).fr f1⟩
 have g:wrB l=0:=by simpa using g
 have hw:=wrB_0 g
 have e0:IntKind.wrap .u64 (18446744073709551615 - ((q:Nat):Int))=((18446744073709551615 - q:Nat):Int):=by rw [u64_id (by omega) (by omega)]; omega
 have e1:IntKind.wrap .u64 ((n:Nat):Int)=(n:Int):=u64_id (by omega) (by omega)
 rw [e0,e1]
 refine vIf_mk (fun g2=>?_) (fun g2=>?_)
 ·have g2:(n:Int) >= ((18446744073709551615 - q:Nat):Int):=of_decide_eq_true g2
  have e2:bmR l q=([],q,20):=by
   unfold bmR
   rw [if_neg (fun q=>q g),if_pos (by omega)]
  rw [e2]
  exact ⟨none,0,rfl,(RB.nil w).fr f1⟩
 have g2:¬ (n:Int) >= ((18446744073709551615 - q:Nat):Int):=of_decide_eq_false g2
 have e2:bmR l q=(batB l q,q+l.length+1,0):=by
  unfold bmR
  rw [if_neg (fun q=>q g),if_neg (by omega)]
 rw [e2]
 dsimp only
 have h1:=h.fr0 f1
 refine jnC_mk (loop_rule (fun s u=>∃ (i:Nat) (A1:Option Addr) (c1:Nat),i<=n/\s=((A,n,c),(A1,(fmB (l.take i) q).length,c1),((q+i:Nat):Int),(A,n,c),(n:Int),(i:Int),())/\RB w u A1 (fmB (l.take i) q).length c1 (fmB (l.take i) q)) (fun s _=>(n - s.2.2.2.2.2.1).toNat) ?_ _ _ ⟨0,none,0,by omega,rfl,(RB.nil w).fr f1⟩)
 rintro s u C ⟨i,A1,c1,hi,rfl,hr⟩ hC _
 have hbd:∀ k,(fmB (l.take k) q).length<=n * 65557:=fun k=>by
  refine Nat.le_trans (fmB_le _ q (fun x hx=>?_)) (Nat.mul_le_mul_right _ (by rw [List.length_take]; omega))
  have hm:=List.mem_of_mem_take hx
  obtain ⟨j,hj⟩:=List.mem_iff_getElem?.1 hm
  obtain ⟨⟨vs,_,hE⟩,_⟩:=h
  obtain ⟨_,_,_,_,_,_,_,hd,_⟩:=hE j x hj
  exact ⟨hd,(hw.2 x hm).2⟩
 refine vIf_mk (fun hlt=>?_) (fun hge=>?_)
 ·have hlt:(i:Int) < (n:Int):=of_decide_eq_true hlt
  have gi:l[i]?=some (l[i]'(by omega)):=List.getElem?_eq_getElem (by omega)
  generalize l[i]'(by omega)=x at gi
  have hx2:=hw.2 x (List.mem_of_getElem? gi)
  refine rs_all (h.fr0 hr.1) gi (fun cs hx=>rcv_mk hx (fun b7 w9 f9 hb7 r7=>?_))
  obtain ⟨A2,n2,c2,rfl,x1,x2,x3,x4,x5,x6⟩:=hx
  refine r7.st_mk (o:=1) (by rw [rcC_len x4]; show 1+1<=38; omega) (fun v hv=>by simp at hv; subst hv; rfl) (fun q10 g10=>?_)
  have q10:RecAt (stB w9 b7 (0+1) [Value.int .u64 ((q+i:Nat):Int)]) b7 34 (rcC { x with sq:=q+i } A2 n2 c2):=q10
  have hu:u.heap.size<=b7:=hb7
  have g9:Fr (fun _=>False) u (stB w9 b7 (0+1) [Value.int .u64 ((q+i:Nat):Int)]):=f9.trans g10 (fun _ _ h=>h) (fun k hk h=>by have h:k=b7:=h; omega)
  have hD:=g9.sl x1 (fun _ _ _ h=>h)
  generalize stB w9 b7 (0+1) [Value.int .u64 ((q+i:Nat):Int)]=w10 at q10 g9 hD ⊢
  refine ⟨_,rcC_len (x:={ x with sq:=q+i }) x4 _ _ _,rec_all q10,(bmake_calls { x with sq:=q+i } A2 n2 c2 w10 ⟨x4,hx2.2,by show q+i < _; omega⟩ x5 hD).mono ?_⟩
  rintro e w12 ⟨A3,c3,rfl,h3⟩
  have hml:=mkW_le (x:={ x with sq:=q+i }) x4 hx2.2
  refine ⟨A3,_,c3,0,rfl,appB_mk (hr.fr (g9.trans1 h3.1)) h3.sl (by have:=hbd i; show (fmB (l.take i) q).length+_<=_; omega) (fun A4 c4 w4 h4=>jnC_mk (hC _ _ ⟨i+1,A4,c4,by omega,?_,?_⟩ ?_))⟩
  ·have e3:fmB (l.take (i+1)) q=fmB (l.take i) q ++ mkW { x with sq:=q+i }:=by
    rw [List.take_add_one,gi]
    show fmB (l.take i ++ [x]) q=_
    rw [fmB_snoc,List.length_take,Nat.min_eq_left (by omega)]
   rw [e3,List.length_append]
   show ((A,n,c),(A4,_,c4),IntKind.wrap .u64 (((q+i:Nat):Int)+1),(A,n,c),(n:Int),IntKind.wrap .i64 ((i:Int)+1),())=_
   rw [u64_id (by omega) (by omega),i64_id (by omega) (by omega)]; rfl
  ·have e3:fmB (l.take (i+1)) q=fmB (l.take i) q ++ mkW { x with sq:=q+i }:=by
    rw [List.take_add_one,gi]
    show fmB (l.take i ++ [x]) q=_
    rw [fmB_snoc,List.length_take,Nat.min_eq_left (by omega)]
   rw [e3,List.length_append]
   exact h4
  ·show ((n:Int) - IntKind.wrap .i64 ((i:Int)+1)).toNat < ((n:Int) - (i:Int)).toNat
   rw [i64_id (by omega) (by omega)]; omega
 ·have hge:¬ (i:Int) < (n:Int):=of_decide_eq_false hge
  have hin:i=n:=by omega
  have eT:l.take i=l:=List.take_of_length_le (by omega)
  rw [eT] at hr
  have hb1:=hbd i
  rw [eT] at hb1 ⊢
  subst hin
  refine (commit_calls i (fmB l q).length (q+i) u).mono ?_
  rintro e w3 ⟨rfl,f3⟩
  refine ⟨_,rfl,(bmake_calls (cmR i (fmB l q).length (q+i)) none 0 0 w3 ⟨z32_len,rg_cm (by omega) (by omega),by show q+i < _; omega⟩ (Nat.zero_le _) (Sl.nil _ _ _)).mono ?_⟩
  rintro e w4 ⟨A4,c4,rfl,h4⟩
  have hml:=mkW_le (x:=cmR i (fmB l q).length (q+i)) z32_len (rg_cm (by omega) (by omega))
  refine ⟨A4,_,c4,0,rfl,appB_mk (hr.fr (f3.trans1 h4.1)) h4.sl (by show (fmB l q).length+_<=_; omega) (fun A5 c5 w5 h5=>⟨A5,c5,?_,?_⟩)⟩
  ·unfold batB
   rw [List.length_append,hl]
   have e5:IntKind.wrap .u64 (((q+i:Nat):Int)+1)=((q+i+1:Nat):Int):=by rw [u64_id (by omega) (by omega)]; rfl
   show Value.tuple #[_,Value.int .u64 (IntKind.wrap .u64 (((q+i:Nat):Int)+1)),_]=_
   rw [e5]
  ·unfold batB
   rw [List.length_append,hl]
   exact h5
set_option maxRecDepth 100000 in
theorem callU_mk {g:Nat} {first cap:Array Value} {w:World} {K:Value->World->Prop} {fn:Func} {t:TypeId} (h1:Tryz.prog.funcs[g]?=some fn) (h2:fn.body.isSome=true) (h3:fn.resultTypes.toList=[t]) (h4:Tryz.prog.underlying t=some (.int .i64))
  (h:Calls Tryz.prog g (first.toList ++ ([] ++ cap.toList)).toArray w (fun e w'=>∃ x:Int,e=.returned (.int .i64 x)/\K (.int .i64 x) w')):vcCallU Tryz.prog (.func (.func g) first cap) [] w K:=by
 unfold vcCallU vcCallV vcCallF
 dsimp only
 rw [h1]
 dsimp only
 rw [h2]
 dsimp only
 rw [h3]
 refine h.mono fun e w' ⟨x,he,hk⟩=>?_
 unfold exVs exVs exV
 rw [h4]
 exact ⟨x,he,hk⟩
noncomputable abbrev opC (s:ByteArray) (d:Dk):Dk×Int:=powD d (fun d=>crD d s)
abbrev opA (s:ByteArray) (b:Bs) (d:Dk):Dk×Int:=powD d (fun d=>fileD d s (fun x=>appI x b))
abbrev opS (s:ByteArray) (d:Dk):Dk×Int:=powD d (fun d=>fileD d s (fun x=>(syncI x,0)))
abbrev opD (d:Dk):Dk×Int:=powD d sdD
theorem DkG.C {d:Dk} {N:Nat} (h:DkG d N) (s:ByteArray):DkG (opC s d).1 (N+1):=h.step (c:=⟨1,s,⟨#[]⟩,[],0⟩) (by show (0:Int)<=_; decide) (doD1 d s)
theorem DkG.A {d:Dk} {N:Nat} (h:DkG d N) (s:ByteArray) (b:Bs):DkG (opA s b d).1 (N+1):=h.step (c:=⟨2,s,⟨#[]⟩,b,0⟩) (by show (0:Int)<=_; decide) (doD2 d s b)
theorem DkG.S {d:Dk} {N:Nat} (h:DkG d N) (s:ByteArray):DkG (opS s d).1 (N+1):=h.step (c:=⟨4,s,⟨#[]⟩,[],0⟩) (by show (0:Int)<=_; decide) (doD4 d s)
theorem DkG.D {d:Dk} {N:Nat} (h:DkG d N):DkG (opD d).1 (N+1):=h.step (c:=⟨7,⟨#[]⟩,⟨#[]⟩,[],0⟩) (by show (0:Int)<=_; decide) (doD7 d)
def stp:List (Dk->Dk×Int)->Dk->Dk×Int
 | [],d=>(d,0)
 | f :: r,d=>if (f d).2=0 then stp r (f d).1 else f d
structure Lg where
 d:Dk
 sg:Int
 bt:Int
 c3:Int
 c4:Int
 c5:Int
 c6:Value
 ts:Int
 tz:Int
 tr:Int
 sl:Bool
 tq:Nat
 rs:List Rc
 de:Int
 e:Int
def lgC (db:Nat) (L:Lg) (A:Option Addr) (n c:Nat) (A2:Option Addr) (n2 c2:Nat):List Value :=
 [.pointer (some ⟨db,0,none⟩),.int .i64 L.sg,.int .i64 L.bt,.int .i64 L.c3,.int .i64 L.c4,.int .i64 L.c5,L.c6,.int .i64 L.ts,.int .i64 L.tz,.int .i64 L.tr,.bool L.sl,.int .u64 (L.tq:Nat),.slice A n c,.slice A2 n2 c2,.int .i64 L.de,.int .i64 L.e]
def byW (l:List Rc):List UInt8:=(l.map mkW).flatten
def LgO (P:Nat->Prop) (lb:Nat) (A A2:Option Addr):Nat->Prop:=fun k=>P k/\k ≠ lb/\blkOf A ≠ some k/\blkOf A2 ≠ some k
def LgR (P:Nat->Prop) (lb db r:Nat) (A A2:Option Addr):Nat->Prop:=fun k=>LgO P lb A A2 k/\k ≠ db/\k ≠ r
abbrev DkO (O:Nat->Prop) (w:World) (db r:Nat) (d:Dk):Prop:=@DkAt ⟨O⟩ w db r d
structure LgP (P:Nat->Prop) (w:World) (lb db r:Nat) (L:Lg) (A:Option Addr) (n c:Nat) (A2:Option Addr) (n2 c2:Nat) (vs:List Value):Prop where
 lg:RecAt w lb 66 (lgC db L A n c A2 n2 c2)
 one:L.c6.oneCell'=true
 row:Row w 0 34 38 A n c vs
 rcs:Ech 38 (RcE (LgR P lb db r A A2) w) vs L.rs
 len:L.rs.length=n
 byt:Row w 0 5 1 A2 n2 c2 ((byW L.rs).map bv)
 dk:DkO (LgO P lb A A2) w db r L.d
 new:∀ k,w.heap.size<=k->P k
 pl:P lb
 pd:P db/\P r
 ld:lb ≠ db/\lb ≠ r
 bA:∀ k,blkOf A=some k->P k/\k ≠ lb/\k ≠ db/\k ≠ r/\blkOf A2 ≠ some k
 bB:∀ k,blkOf A2=some k->P k/\k ≠ lb/\k ≠ db/\k ≠ r
def LgAt (P:Nat->Prop) (w:World) (lb db r:Nat) (L:Lg):Prop:=∃ A n c A2 n2 c2 vs,LgP P w lb db r L A n c A2 n2 c2 vs
theorem LgP.lt {P:Nat->Prop} {w:World} {lb db r:Nat} {L:Lg} {A:Option Addr} {n c:Nat} {A2:Option Addr} {n2 c2:Nat} {vs:List Value} (h:LgP P w lb db r L A n c A2 n2 c2 vs):lb < w.heap.size/\db < w.heap.size/\r < w.heap.size :=
 ⟨h.lg.lt,(@DkAt.lt ⟨LgO P lb A A2⟩ _ _ _ _ h.dk).1,(@DkAt.lt ⟨LgO P lb A A2⟩ _ _ _ _ h.dk).2⟩
theorem okA_to {O O':Nat->Prop} {w:World} {A:Option Addr} {n:Nat} (h:@OkA ⟨O⟩ w A n) (hn:∀ k,w.heap.size<=k->O' k) (hA:n ≠ 0->∀ k,blkOf A=some k->k < w.heap.size) (hO:∀ k,k < w.heap.size->O k->O' k):@OkA ⟨O'⟩ w A n :=
 ⟨hn,fun h0 k hk=>hO k (hA h0 k hk) (h.2 h0 k hk)⟩
theorem DkO.to {O O':Nat->Prop} {w:World} {db r:Nat} {d:Dk} (h:DkO O w db r d) (hn:∀ k,w.heap.size<=k->O' k) (hO:∀ k,k < w.heap.size->O k->O' k):DkO O' w db r d:=by
 obtain ⟨u,v,fz,lv,h1,h2,h3,h4⟩:=h
 refine ⟨u,v,fz,lv,h1,?_,?_,h4⟩
 ·obtain ⟨A,n,c,A',n',c',e,k1,k2,k3,k4,k5⟩:=h2
  exact ⟨A,n,c,A',n',c',e,k1,k2,k3,okA_to k4 hn (fun h0 k hk=>k1.1.blt (by omega) h0 hk) hO,okA_to k5 hn (fun h0 k hk=>k2.1.blt (by omega) h0 hk) hO⟩
 ·obtain ⟨g,k1,k2⟩:=h3
  refine ⟨g,k1,fun id=>?_⟩
  obtain ⟨cs,e,A,n,c,A',n',c',e2,q1,q2,q3,q4,q5,q6⟩:=k2 id
  obtain ⟨vs,s1,s2,s3⟩:=q3
  refine ⟨cs,e,A,n,c,A',n',c',e2,q1,q2,⟨vs,s1,s2,s3.mono (fun cs x hx=>?_)⟩,q4,okA_to q5 hn (fun h0 k hk=>q1.blt (by omega) h0 hk) hO,okA_to q6 hn (fun h0 k hk=>s1.blt (by omega) h0 hk) hO⟩
  obtain ⟨B,m,k,e3,t1,t2,t3⟩:=hx
  exact ⟨B,m,k,e3,t1,t2,okA_to t3 hn (fun h0 k hk=>t1.blt (by omega) h0 hk) hO⟩
theorem DkO.out {O S:Nat->Prop} {w w':World} {db r:Nat} {d:Dk} (h:DkO O w db r d) (f:Fr S w w') (h1:¬ S db) (h2:¬ S r) (hS:∀ k,S k->¬ O k):DkO O w' db r d :=
 @DkAt.fr ⟨O⟩ S w w' db r d h f h1 h2 (fun k hk hO=>absurd hO (hS k hk))
def CloOk (O:Nat->Prop) (db r:Nat) (Iv:World->Prop) (v:Value) (f:Dk->Dk×Int):Prop :=
 ∀ (u:World) (d:Dk) (N:Nat) (K:Value->World->Prop),Iv u->DkO O u db r d->DkG d N->N<=349524->(∀ u',Fr (DS db r) u u'->DkO O u' db r (f d).1->K (.int .i64 (f d).2) u')->vcCallU Tryz.prog v [] u K
theorem stp_drop {ops:List (Dk->Dk×Int)} {i:Nat} {f:Dk->Dk×Int} (h:ops[i]?=some f):ops.drop i=f :: ops.drop (i+1):=by
 obtain ⟨h1,h2⟩:=List.getElem?_eq_some_iff.1 h
 rw [<- h2,List.drop_eq_getElem_cons h1]
set_option maxHeartbeats 1000000 in
theorem steps_calls (O:Nat->Prop) (lb db r:Nat) (Iv:World->Prop) (A:Option Addr) (n c:Nat) (fs:List Value) (ops:List (Dk->Dk×Int)) (L:Lg) (A1:Option Addr) (n1 c1:Nat) (A2:Option Addr) (n2 c2:Nat) (d:Dk) (N:Nat) (w:World)
  (hl:ops.length=n) (hA:Sl w 1 A n fs) (hAb:∀ k,blkOf A=some k->k ≠ db/\k ≠ r) (hlb:RecAt w lb 66 (lgC db L A1 n1 c1 A2 n2 c2)) (he:L.e=0) (hO:¬ O lb) (h1:lb ≠ db) (h2:lb ≠ r)
  (hd:DkO O w db r d) (hG:DkG d N) (hN:N+n<=349524) (hI:Iv w) (hIf:∀ u u',Iv u->Fr (DS db r) u u'->Iv u')
  (hf:∀ (i:Nat) (v:Value) (f:Dk->Dk×Int),fs[i]?=some v->ops[i]?=some f->CloOk O db r Iv v f) (hGf:∀ f ∈ ops,∀ d N,DkG d N->DkG (f d).1 (N+1)) :
  Calls Tryz.prog 78 #[.pointer (some ⟨lb,0,none⟩),.slice A n c] w fun e w'=>Fr (fun k=>k=db\/k=r\/k=lb) w w'/\e=.returned (.int .i64 (stp ops d).2)/\RecAt w' lb 66 (lgC db { L with e:=(stp ops d).2 } A1 n1 c1 A2 n2 c2)/\DkO O w' db r (stp ops d).1:=by
 refine (F78.of (some ⟨lb,0,none⟩) A n c w (Q:=fun v w'=>Fr (fun k=>k=db\/k=r\/k=lb) w w'/\v=.int .i64 (stp ops d).2/\RecAt w' lb 66 (lgC db { L with e:=(stp ops d).2 } A1 n1 c1 A2 n2 c2)/\DkO O w' db r (stp ops d).1) ?_).mono (fun e w' ⟨v,he,hf,hv,h⟩=>⟨hf,by rw [he,hv],h⟩)
 have hfl:=hA.1
 rw [Nat.mul_one] at hfl
 have k8:∀ (u:World),Fr (fun k=>k=db\/k=r\/k=lb) w u->RecAt u lb 66 (lgC db { L with e:=(stp ops d).2 } A1 n1 c1 A2 n2 c2)->DkO O u db r (stp ops d).1->jnC (F78.k8 (fun v w'=>Fr (fun k=>k=db\/k=r\/k=lb) w w'/\v=.int .i64 (stp ops d).2/\RecAt w' lb 66 (lgC db { L with e:=(stp ops d).2 } A1 n1 c1 A2 n2 c2)/\DkO O w' db r (stp ops d).1)) (some ⟨lb,0,none⟩,()) u :=
  fun u fu hr hdu=>jnC_mk (fun _=>dr_mk ⟨_,hr.cell (o:=0+15) rfl,fu,rfl,hr,hdu⟩)
 refine jnC_mk (loop_rule (fun s u=>∃ (i:Nat) (d':Dk),i<=n/\s=(some ⟨lb,0,none⟩,(A,n,c),(n:Int),(i:Int),())/\Fr (DS db r) w u/\Iv u/\DkO O u db r d'/\DkG d' (N+i)/\stp (ops.drop i) d'=stp ops d) (fun s _=>(n - s.2.2.2.1).toNat) ?_ _ _ ⟨0,d,by omega,rfl,Fr.refl _ _,hI,hd,hG,rfl⟩)
 rintro s u C ⟨i,d',hi,rfl,fu,hIu,hdu,hGu,hst⟩ hC _
 have up:Fr (fun k=>k=db\/k=r\/k=lb) w u:=fu.mono (fun k _ h=>by rcases h with h | h; exact .inl h; exact .inr (.inl h))
 have hlu:=hlb.fr fu (fun h=>by rcases h with h | h; exact h1 h; exact h2 h)
 refine vIf_mk (fun hlt=>?_) (fun hge=>?_)
 ·have hlt2:(i:Int) < (n:Int):=of_decide_eq_true hlt
  have gi:fs[i]?=some (fs[i]'(by omega)):=List.getElem?_eq_getElem (by omega)
  generalize fs[i]'(by omega)=v at gi
  have go:ops[i]?=some (ops[i]'(by omega)):=List.getElem?_eq_getElem (by omega)
  generalize ops[i]'(by omega)=f at go
  obtain ⟨b,o,rfl,hc⟩:=(fu.sl hA (fun _ k hk h=>by have:=hAb k hk; rcases h with h | h; exact this.1 h; exact this.2 h)).2 (by omega)
  refine dr_mk (gd_mk (decide_eq_true (by show (0:Int)<=(i:Int); omega)) (gd_mk (decide_eq_true hlt2) ⟨v,?_,hf i v f gi go u d' (N+i) _ hIu hdu hGu (by omega) (fun u' fu' hdu'=>?_)⟩))
  ·rw [Int.toNat_natCast,Nat.mul_one]; exact hc i v gi
  ·have fw:Fr (DS db r) w u':=fu.trans1 fu'
   have up':Fr (fun k=>k=db\/k=r\/k=lb) w u':=fw.mono (fun k _ h=>by rcases h with h | h; exact .inl h; exact .inr (.inl h))
   have hlu':=hlb.fr fw (fun h=>by rcases h with h | h; exact h1 h; exact h2 h)
   rw [stp_drop go] at hst
   have hst:(if (f d').2=0 then stp (ops.drop (i+1)) (f d').1 else f d')=stp ops d:=hst
   refine gd_mk rfl (jnC_mk (fun _=>vIf_mk (fun g=>?_) (fun g=>?_)))
   ·have g:((f d').2 != 0)=true:=g
    have g:¬ (f d').2=0:=by simpa using g
    rw [if_neg g] at hst
    refine dr_mk (hlu'.st_mk (o:=0+15) (by show 0+15+1<=16; omega) (fun v hv=>by simp at hv; subst hv; rfl) (fun q10 g10=>k8 _ ?_ ?_ ?_))
    ·exact up'.trans g10 (fun _ _ h=>h) (fun k _ h=>.inr (.inr h))
    ·rw [<- hst]; exact q10
    ·rw [<- hst]
     exact hdu'.out g10 (fun h=>h1 h.symm) (fun h=>h2 h.symm) (fun k hk=>by have hk:k=lb:=hk; rw [hk]; exact hO)
   ·have g:((f d').2 != 0)=false:=g
    have g:(f d').2=0:=by simpa using g
    rw [if_pos g] at hst
    refine jnC_mk (hC _ _ ⟨i+1,(f d').1,by omega,?_,fw,hIf u u' hIu fu',hdu',hGf f (List.mem_of_getElem? go) d' (N+i) hGu,hst⟩ ?_)
    ·show ((some ⟨lb,0,none⟩:Option Addr),((some ⟨b,o,none⟩:Option Addr),n,c),(n:Int),IntKind.wrap .i64 ((i:Int)+1),())=_
     rw [i64_id (by omega) (by omega)]; rfl
    ·show ((n:Int) - IntKind.wrap .i64 ((i:Int)+1)).toNat < ((n:Int) - (i:Int)).toNat
     rw [i64_id (by omega) (by omega)]; omega
 ·have hge:¬ (i:Int) < (n:Int):=of_decide_eq_false hge
  have e0:ops.drop i=[]:=List.drop_eq_nil_of_le (by omega)
  rw [e0] at hst
  have hst:(d',0)=stp ops d:=hst
  refine k8 u up ?_ (by rw [<- hst]; exact hdu)
  rw [<- hst]
  have:{ L with e:=(0:Int) }=L:=by cases L; cases he; rfl
  show RecAt u lb _ (lgC db { L with e:=(0:Int) } A1 n1 c1 A2 n2 c2)
  rw [this]; exact hlu
end Go.Proofs.YtkfanhdicnjdlaaGreatDoor
namespace Go.Proofs.YtkfanhdicnjdlaaGreatDoor.Nm8
open Go.GV Go.RowKit Go.Lib
theorem nil_iff (s:ByteArray):(s.toList == (⟨#[]⟩:ByteArray).toList)=decide (s.size=0):=by
 rw [ByteArray.toList_eq,ByteArray.toList_eq]
 have h:s.size=s.data.toList.length:=by rw [Array.length_toList]; rfl
 rw [h]
 cases hl:s.data.toList with
 | nil=>rfl
 | cons a r=>simp
theorem ndec_t {p:Prop} [Decidable p] (h:(!decide p)=true):¬ p:=by simpa using h
theorem ndec_f {p:Prop} [Decidable p] (h:(!decide p)=false):p:=by simpa using h
def dg (n:Nat):UInt8:=UInt8.ofNat (48+n % 10)
theorem dg_nat (n:Nat):(dg n).toNat=48+n % 10:=by
 unfold dg
 rw [UInt8.toNat_ofNat']
 omega
def digs:Nat->Nat->List UInt8
 | 0,_=>[]
 | k+1,n=>digs k (n / 10) ++ [dg n]
theorem digs_len:∀ k n,(digs k n).length=k
 | 0,_=>rfl
 | k+1,n=>by simp [digs,digs_len k]
theorem digs_cons:∀ k n,digs (k+1) n=dg (n / 10 ^ k) :: digs k n
 | 0,n=>by simp [digs]
 | k+1,n=>by
  have h:digs (k+2) n=digs (k+1) (n / 10) ++ [dg n]:=rfl
  rw [h,digs_cons k (n / 10)]
  show dg (n / 10 / 10 ^ k) :: (digs k (n / 10) ++ [dg n])=_
  have e:n / 10 / 10 ^ k=n / 10 ^ (k+1):=by rw [Nat.div_div_eq_div_mul,Nat.pow_succ,Nat.mul_comm]
  rw [e]; rfl
theorem digs_zero:∀ k,digs k 0=repeatL [48] k
 | 0=>rfl
 | k+1=>by
  rw [digs_cons,Nat.zero_div,digs_zero k]; rfl
theorem dec_small {u:Nat} (h:u < 10):decDigits u=[dg u]:=by
 rw [decDigits,dif_pos h]
 unfold dg
 rw [Nat.mod_eq_of_lt h]
theorem dec_big {u:Nat} (h:¬ u < 10):decDigits u=decDigits (u / 10) ++ [dg u]:=by
 rw [decDigits,dif_neg h]; rfl
theorem pad_digs:∀ (k u:Nat),u < 10 ^ (k+1)->(decDigits u).length<=k+1/\repeatL [48] (k+1 - (decDigits u).length) ++ decDigits u=digs (k+1) u
 | 0,u,h=>by
  have h:u < 10:=by simpa using h
  rw [dec_small h]
  exact ⟨Nat.le_refl _,rfl⟩
 | k+1,u,h=>by
  by_cases h10:u < 10
  ·rw [dec_small h10]
   refine ⟨by simp,?_⟩
   show repeatL [48] (k+1) ++ [dg u]=digs (k+1) (u / 10) ++ [dg u]
   rw [Nat.div_eq_of_lt h10,digs_zero]
  ·have hd:u / 10 < 10 ^ (k+1):=by rw [Nat.pow_succ] at h; omega
   obtain ⟨h1,h2⟩:=pad_digs k (u / 10) hd
   rw [dec_big h10,List.length_append,List.length_singleton]
   refine ⟨by omega,?_⟩
   rw [show k+1+1 - ((decDigits (u / 10)).length+1)=k+1 - (decDigits (u / 10)).length by omega,<- List.append_assoc,h2]
   rfl
def wl (k:Int):List UInt8:=if k=1 then [115,101,103,45] else if k=2 then [104,105,110,116,45] else if k=3 then [112,111,105,110,116,45] else []
def good (k n:Int):Prop:=1<=k/\k<=3/\1<=n/\n<=99999999
instance (k n:Int):Decidable (good k n):=by unfold good; infer_instance
def fileL (k n:Int):List UInt8:=if good k n then wl k ++ digs 8 n.toNat else []
theorem fileL_good {k n:Int} (h:good k n):fileL k n=wl k ++ digs 8 n.toNat:=if_pos h
theorem fileL_nil {k n:Int} (h:¬ good k n):fileL k n=[]:=if_neg h
theorem kinds {k:Int} (h1:1<=k) (h3:k<=3):k=1\/k=2\/k=3:=by omega
end Go.Proofs.YtkfanhdicnjdlaaGreatDoor.Nm8
namespace Go.Proofs
open Go.Shelf
def Tryz.laysM171_ren:Go.Shelf.Ren:=⟨fun | 171=>36 | 243=>57 | 246=>92 | 283=>124 | 284=>125 | 285=>126 | 286=>127 | 129=>144 | 317=>143 | 318=>145 | 319=>146 | 320=>147 | 337=>164 | 338=>165 | n=>n,fun | 3=>3 | 9=>9 | 2=>2 | 4=>4 | 171=>199 | 0=>0 | 53=>22 | 37=>32 | 5=>5 | 173=>202 | 212=>221 | 51=>115 | 20=>20 | 213=>222 | 46=>117 | 232=>23 | 233=>252 | n=>n,fun | 17=>1 | 18=>3 | 19=>4 | n=>n⟩
theorem Tryz.laysM171:Go.Proofs.LaysM.n171 Tryz.prog Tryz.laysM171_ren:={
 mixed:=by kernel_rfl
 f129:=Tryz.func144.trans (congrArg some (by kernel_rfl))
 f171:=Tryz.func36.trans (congrArg some (by kernel_rfl))
 f243:=Tryz.func57.trans (congrArg some (by kernel_rfl))
 f246:=Tryz.func92.trans (congrArg some (by kernel_rfl))
 f283:=Tryz.func124.trans (congrArg some (by kernel_rfl))
 f284:=Tryz.func125.trans (congrArg some (by kernel_rfl))
 f285:=Tryz.func126.trans (congrArg some (by kernel_rfl))
 f286:=Tryz.func127.trans (congrArg some (by kernel_rfl))
 f317:=Tryz.func143.trans (congrArg some (by kernel_rfl))
 f318:=Tryz.func145.trans (congrArg some (by kernel_rfl))
 f319:=Tryz.func146.trans (congrArg some (by kernel_rfl))
 f320:=Tryz.func147.trans (congrArg some (by kernel_rfl))
 f337:=Tryz.func164.trans (congrArg some (by kernel_rfl))
 f338:=Tryz.func165.trans (congrArg some (by kernel_rfl))
 t0:=Tryz.underlying0
 a0:=Tryz.isAgg0
 z0:=Tryz.sizeOf0
 v0:=Tryz.zeroValue0
 t2:=Tryz.underlying2
 a2:=Tryz.isAgg2
 z2:=Tryz.sizeOf2
 v2:=Tryz.zeroValue2
 t3:=Tryz.underlying3
 a3:=Tryz.isAgg3
 z3:=Tryz.sizeOf3
 v3:=Tryz.zeroValue3
 t4:=Tryz.underlying4
 a4:=Tryz.isAgg4
 z4:=Tryz.sizeOf4
 v4:=Tryz.zeroValue4
 t5:=Tryz.underlying5
 a5:=Tryz.isAgg5
 z5:=Tryz.sizeOf5
 v5:=Tryz.zeroValue5
 t9:=Tryz.underlying9
 a9:=Tryz.isAgg9
 z9:=Tryz.sizeOf9
 v9:=Tryz.zeroValue9
 t20:=Tryz.underlying20
 a20:=Tryz.isAgg20
 z20:=Tryz.sizeOf20
 v20:=Tryz.zeroValue20
 t37:=Tryz.underlying32
 a37:=Tryz.isAgg32
 z37:=Tryz.sizeOf32
 v37:=Tryz.zeroValue32
 t46:=Tryz.underlying117
 a46:=Tryz.isAgg117
 z46:=Tryz.sizeOf117
 v46:=Tryz.zeroValue117
 t51:=Tryz.underlying115
 a51:=Tryz.isAgg115
 z51:=Tryz.sizeOf115
 v51:=Tryz.zeroValue115
 t53:=Tryz.underlying22
 a53:=Tryz.isAgg22
 z53:=Tryz.sizeOf22
 v53:=Tryz.zeroValue22
 t171:=Tryz.underlying199
 a171:=Tryz.isAgg199
 z171:=Tryz.sizeOf199
 v171:=Tryz.zeroValue199
 t173:=Tryz.underlying202
 a173:=Tryz.isAgg202
 z173:=Tryz.sizeOf202
 v173:=Tryz.zeroValue202
 t212:=Tryz.underlying221
 a212:=Tryz.isAgg221
 z212:=Tryz.sizeOf221
 v212:=Tryz.zeroValue221
 t213:=Tryz.underlying222
 a213:=Tryz.isAgg222
 z213:=Tryz.sizeOf222
 t232:=Tryz.underlying23
 a232:=Tryz.isAgg23
 z232:=Tryz.sizeOf23
 v232:=Tryz.zeroValue23
 t233:=Tryz.underlying252
 a233:=Tryz.isAgg252
 z233:=Tryz.sizeOf252
 v233:=Tryz.zeroValue252
 g17:=by kernel_rfl
 g18:=by kernel_rfl
 g19:=by kernel_rfl
 i0:=by kernel_rfl
 i2:=by kernel_rfl
 i3:=by kernel_rfl
 i4:=by kernel_rfl
 i5:=by kernel_rfl
 i9:=by kernel_rfl
 i20:=by kernel_rfl
 i37:=by kernel_rfl
 i46:=by kernel_rfl
 i51:=by kernel_rfl
 i53:=by kernel_rfl
 i171:=by kernel_rfl
 i173:=by kernel_rfl
 i212:=by kernel_rfl
 i232:=by kernel_rfl
 i233:=by kernel_rfl
 m17:=by kernel_rfl
 m18:=by kernel_rfl
 m19:=by kernel_rfl }
open Go.RowKit Go.Sort Go.Lib in
theorem Tryz.strconv_Itoa (n : Int) (h0 : -9223372036854775808 <= n) (h1 : n <= 9223372036854775807) (w : World) (htab : Lib.TabIs Tryz.prog w "internal/strconv.uint64pow10" .u64 Lib.pow10Tab) :
  Calls Tryz.prog 36 #[.int .i64 n] w fun e w'=>e=.returned (.string ⟨(Lib.itoa n).toArray⟩)/\∃ k os,w'=grow (w.drewN k) os:=Any.strconv_Itoa Tryz.laysM171 n h0 h1 w htab
def Tryz.lays105_ren:Go.Shelf.Ren:=⟨fun | 105=>37 | 212=>58 | 99=>59 | 165=>60 | 166=>61 | 170=>62 | 169=>63 | 263=>93 | 264=>94 | 206=>95 | 240=>96 | 241=>97 | 276=>128 | 277=>129 | n=>n,fun | 9=>9 | 3=>3 | 4=>4 | 20=>20 | 0=>0 | 46=>117 | 109=>125 | 5=>5 | 72=>130 | 76=>134 | 51=>115 | 146=>164 | 53=>22 | 148=>166 | 70=>128 | 37=>32 | 75=>133 | 127=>168 | 164=>204 | 80=>137 | n=>n,fun | n=>n⟩
theorem Tryz.lays105:Go.Proofs.Lays.n105 Tryz.prog Tryz.lays105_ren:={
 mixed:=by kernel_rfl
 f99:=Tryz.func59.trans (congrArg some (by kernel_rfl))
 f105:=Tryz.func37.trans (congrArg some (by kernel_rfl))
 f165:=Tryz.func60.trans (congrArg some (by kernel_rfl))
 f166:=Tryz.func61.trans (congrArg some (by kernel_rfl))
 f169:=Tryz.func63.trans (congrArg some (by kernel_rfl))
 f170:=Tryz.func62.trans (congrArg some (by kernel_rfl))
 f206:=Tryz.func95.trans (congrArg some (by kernel_rfl))
 f212:=Tryz.func58.trans (congrArg some (by kernel_rfl))
 f240:=Tryz.func96.trans (congrArg some (by kernel_rfl))
 f241:=Tryz.func97.trans (congrArg some (by kernel_rfl))
 f263:=Tryz.func93.trans (congrArg some (by kernel_rfl))
 f264:=Tryz.func94.trans (congrArg some (by kernel_rfl))
 f276:=Tryz.func128.trans (congrArg some (by kernel_rfl))
 f277:=Tryz.func129.trans (congrArg some (by kernel_rfl))
 t0:=Tryz.underlying0
 a0:=Tryz.isAgg0
 z0:=Tryz.sizeOf0
 v0:=Tryz.zeroValue0
 t3:=Tryz.underlying3
 a3:=Tryz.isAgg3
 z3:=Tryz.sizeOf3
 v3:=Tryz.zeroValue3
 t4:=Tryz.underlying4
 a4:=Tryz.isAgg4
 z4:=Tryz.sizeOf4
 v4:=Tryz.zeroValue4
 t5:=Tryz.underlying5
 a5:=Tryz.isAgg5
 z5:=Tryz.sizeOf5
 v5:=Tryz.zeroValue5
 t9:=Tryz.underlying9
 a9:=Tryz.isAgg9
 z9:=Tryz.sizeOf9
 v9:=Tryz.zeroValue9
 t20:=Tryz.underlying20
 a20:=Tryz.isAgg20
 z20:=Tryz.sizeOf20
 v20:=Tryz.zeroValue20
 t37:=Tryz.underlying32
 a37:=Tryz.isAgg32
 z37:=Tryz.sizeOf32
 v37:=Tryz.zeroValue32
 t46:=Tryz.underlying117
 a46:=Tryz.isAgg117
 z46:=Tryz.sizeOf117
 v46:=Tryz.zeroValue117
 t51:=Tryz.underlying115
 a51:=Tryz.isAgg115
 z51:=Tryz.sizeOf115
 v51:=Tryz.zeroValue115
 t53:=Tryz.underlying22
 a53:=Tryz.isAgg22
 z53:=Tryz.sizeOf22
 v53:=Tryz.zeroValue22
 t70:=Tryz.underlying128
 a70:=Tryz.isAgg128
 z70:=Tryz.sizeOf128
 v70:=Tryz.zeroValue128
 t72:=Tryz.underlying130
 a72:=Tryz.isAgg130
 z72:=Tryz.sizeOf130
 v72:=Tryz.zeroValue130
 t75:=Tryz.underlying133
 a75:=Tryz.isAgg133
 z75:=Tryz.sizeOf133
 v75:=Tryz.zeroValue133
 t76:=Tryz.underlying134
 a76:=Tryz.isAgg134
 z76:=Tryz.sizeOf134
 v76:=Tryz.zeroValue134
 t109:=Tryz.underlying125
 a109:=Tryz.isAgg125
 z109:=Tryz.sizeOf125
 v109:=Tryz.zeroValue125
 t127:=Tryz.underlying168
 a127:=Tryz.isAgg168
 z127:=Tryz.sizeOf168
 v127:=Tryz.zeroValue168
 t146:=Tryz.underlying164
 a146:=Tryz.isAgg164
 z146:=Tryz.sizeOf164
 v146:=Tryz.zeroValue164
 t148:=Tryz.underlying166
 a148:=Tryz.isAgg166
 z148:=Tryz.sizeOf166
 v148:=Tryz.zeroValue166
 t164:=Tryz.underlying204
 a164:=Tryz.isAgg204
 z164:=Tryz.sizeOf204
 v164:=Tryz.zeroValue204 }
theorem Tryz.Builder_Extra_105:Builder.Extra Tryz.prog Tryz.lays105_ren:={
 sizeBuilder:=by kernel_rfl
 liesBuilder:=by kernel_rfl
 t5:=Tryz.underlying5
 a5:=Tryz.isAgg5
 z5:=Tryz.sizeOf5
 v5:=Tryz.zeroValue5
 infoByte:=by kernel_rfl
 cellsByte:=by kernel_rfl
 sizeByte:=by kernel_rfl
 neB5:=by decide }
open Go.RowKit Go.Lib in
theorem Tryz.strings_Repeat (s:ByteArray) (c:Nat) (w:World) (hc:c<=9223372036854775807) (hlen:s.size * c<=140737488355328) :
  Calls Tryz.prog 37 #[.string s,.int .i64 c] w fun e w'=>e=.returned (.string ⟨(Lib.repeatL s.data.toList c).toArray⟩)/\Below w.heap.size w w':=Any.strings_Repeat Tryz.lays105 Tryz.Builder_Extra_105 s c w hc hlen
end Go.Proofs
namespace Go.Proofs.YtkfanhdicnjdlaaGreatDoor.Nm8
open Go.GV Go.RowKit Go.Lib
def bs (l:List UInt8):ByteArray:=⟨l.toArray⟩
theorem bs_size (l:List UInt8):(bs l).size=l.length:=by simp [bs,ByteArray.size]
theorem bs_list (l:List UInt8):(bs l).data.toList=l:=by simp [bs]
theorem bs_app (a b:List UInt8):bs a ++ bs b=bs (a ++ b):=by
 apply ByteArray.ext
 simp [bs,ByteArray.data_append]
structure VK (w:World):Prop where
 tab : Lib.TabIs Tryz.prog w "internal/strconv.uint64pow10" .u64 Lib.pow10Tab
theorem var_fr {w w':World} {n:String} {cs:Array Value} (f:Fr (fun _=>False) w w') (h:w.var? Tryz.prog n=some cs):w'.var? Tryz.prog n=some cs:=by
 unfold World.var? at h ⊢
 cases hg:Tryz.prog.globalNamed n with
 | none=>rw [hg] at h; cases h
 | some g =>
  simp only [hg,Option.bind_some] at h ⊢
  have hlt:g < w.heap.size:=by
   rcases Nat.lt_or_ge g w.heap.size with h' | h'
   ·exact h'
   ·rw [Array.getElem?_eq_none h'] at h; cases h
  rw [f.block g hlt (fun h=>h)]
  exact h
theorem VK.fr {w w':World} (h:VK w) (f:Fr (fun _=>False) w w'):VK w':=⟨var_fr f h.tab⟩
theorem below_fr {w w':World} (h:Below w.heap.size w w'):Fr (fun _=>False) w w':=Fr.of_below h (fun k hk hB=>by omega)
theorem grow_fr (w:World) (k:Nat) (os:Array Obj):Fr (fun _=>False) w (Go.Sort.grow (w.drewN k) os):=by
 refine ⟨rfl,rfl,rfl,?_,fun j hj _=>?_⟩
 ·show w.heap.size<=(w.heap ++ os).size
  rw [Array.size_append]; omega
 ·show (w.heap ++ os)[j]?=w.heap[j]?
  rw [Array.getElem?_append_left hj]
theorem fourC (k:Int) (h1:1<=k) (h3:k<=3):([Value.string (⟨#[]⟩:ByteArray),.string ⟨#[115,101,103,45]⟩,.string ⟨#[104,105,110,116,45]⟩,.string ⟨#[112,111,105,110,116,45]⟩]:List Value)[k.toNat]?=some (.string (bs (wl k))):=by
 rcases kinds h1 h3 with rfl | rfl | rfl <;> rfl
theorem wl_nil {k:Int} (h:¬ (1<=k/\k<=3)):wl k=[]:=by
 unfold wl
 rw [if_neg (by omega),if_neg (by omega),if_neg (by omega)]
theorem word_calls (k:Int) (w:World):Calls Tryz.prog 35 #[.int .i64 k] w fun e w'=>e=.returned (.string (bs (wl k)))/\Fr (fun _=>False) w w':=by
 refine (F35.of k w (Q:=fun v w'=>v=.string (bs (wl k))/\Fr (fun _=>False) w w') ?_).mono (fun e w' ⟨v,he,hv,h⟩=>⟨by rw [he,hv],h⟩)
 refine nw_mk (gd_mk rfl ?_)
 have f1:Fr (fun _=>False) w (w.alloc (.cells Z124.toArray 124)):=Fr.alloc _ _ _
 refine (RecAt.new w Z124 124).st_mk (o:=0) (vs:=[Value.string (⟨#[]⟩:ByteArray),.string ⟨#[115,101,103,45]⟩,.string ⟨#[104,105,110,116,45]⟩,.string ⟨#[112,111,105,110,116,45]⟩]) (Nat.le_refl 4) (by
  intro x hx
  simp only [List.mem_cons,List.not_mem_nil,or_false] at hx
  rcases hx with rfl | rfl | rfl | rfl <;> rfl) (fun r f2=>?_)
 rw [splice_full (c:=Z124) (vs:=[Value.string (⟨#[]⟩:ByteArray),.string ⟨#[115,101,103,45]⟩,.string ⟨#[104,105,110,116,45]⟩,.string ⟨#[112,111,105,110,116,45]⟩]) rfl] at r
 have f:Fr (fun _=>False) w (stB (w.alloc (.cells Z124.toArray 124)) w.heap.size 0 [Value.string (⟨#[]⟩:ByteArray),.string ⟨#[115,101,103,45]⟩,.string ⟨#[104,105,110,116,45]⟩,.string ⟨#[112,111,105,110,116,45]⟩]):=f1.trans f2 (fun _ _ h=>h) (fun j hj h=>by omega)
 refine vIf_mk (fun h0=>?_) (fun h0=>vIf_mk (fun h4=>?_) (fun h4=>jnC_mk (fun _=>?_)))
 ·have h0:k<=0:=of_decide_eq_true h0
  rw [wl_nil (by omega)]
  exact ⟨rfl,f⟩
 ·have h4:k >= 4:=of_decide_eq_true h4
  rw [wl_nil (by omega)]
  exact ⟨rfl,f⟩
 ·have h0:¬ k<=0:=of_decide_eq_false h0
  have h4:¬ k >= 4:=of_decide_eq_false h4
  refine gd_mk (decide_eq_true (by show (0:Int)<=k; omega)) (gd_mk (decide_eq_true (by show k < 4; omega)) ⟨_,r.cell (by rw [show 0+k.toNat * 1=k.toNat by omega]; exact fourC k (by omega) (by omega)),rfl,f⟩)
set_option maxHeartbeats 1000000 in
theorem file_calls (k n:Int) (w:World) (hv:VK w):Calls Tryz.prog 19 #[.int .i64 k,.int .i64 n] w fun e w'=>e=.returned (.string (bs (fileL k n)))/\Fr (fun _=>False) w w':=by
 refine (F19.of k n w (Q:=fun v w'=>v=.string (bs (fileL k n))/\Fr (fun _=>False) w w') ?_).mono (fun e w' ⟨v,he,hv,h⟩=>⟨by rw [he,hv],h⟩)
 refine (word_calls k w).mono ?_
 rintro e u ⟨rfl,f⟩
 refine ⟨_,rfl,vIf_mk (fun h0=>?_) (fun h0=>vIf_mk (fun h1=>?_) (fun h1=>vIf_mk (fun h2=>?_) (fun h2=>jnC_mk (fun _=>?_))))⟩
 ·rw [nil_iff,bs_size] at h0
  have h0:=of_decide_eq_true h0
  rw [fileL_nil (fun h=>by
   obtain ⟨a,b,_,_⟩:=h
   rcases kinds a b with rfl | rfl | rfl <;> simp [wl] at h0)]
  exact ⟨rfl,f⟩
 ·have h1:n < 1:=of_decide_eq_true h1
  rw [fileL_nil (fun h=>by have:=h.2.2.1; omega)]
  exact ⟨rfl,f⟩
 ·have h2:n > 99999999:=of_decide_eq_true h2
  rw [fileL_nil (fun h=>by have:=h.2.2.2; omega)]
  exact ⟨rfl,f⟩
 ·rw [nil_iff,bs_size] at h0
  have h0:=of_decide_eq_false h0
  have h1:¬ n < 1:=of_decide_eq_false h1
  have h2:¬ n > 99999999:=of_decide_eq_false h2
  have hk:1<=k/\k<=3:=by
   by_cases h:1<=k/\k<=3
   ·exact h
   ·rw [wl_nil h] at h0; exact absurd rfl h0
  have hg:good k n:=⟨hk.1,hk.2,by omega,by omega⟩
  have hit:Lib.itoa n=decDigits n.toNat:=by unfold Lib.itoa; rw [if_neg (by omega)]
  obtain ⟨p1,p2⟩:=pad_digs 7 n.toNat (by omega)
  refine (Tryz.strconv_Itoa n (by omega) (by omega) u (hv.fr f).tab).mono ?_
  rintro e u2 ⟨rfl,q,os,rfl⟩
  have f2:=f.trans1 (grow_fr u q os)
  rw [hit]
  have hsz:(bs (decDigits n.toNat)).size=(decDigits n.toNat).length:=bs_size _
  refine ⟨bs (decDigits n.toNat),rfl,?_⟩
  have hw:IntKind.wrap .i64 (8 - ((bs (decDigits n.toNat)).size:Int))=((8 - (decDigits n.toNat).length:Nat):Int):=by rw [hsz,i64_id (by omega) (by omega)]; omega
  dsimp only
  rw [hw]
  refine (Tryz.strings_Repeat ⟨#[48]⟩ (8 - (decDigits n.toNat).length) _ (by omega) (by show 1 * _<=_; omega)).mono ?_
  rintro e u3 ⟨rfl,hb⟩
  have f3:=f2.trans1 (below_fr hb)
  refine ⟨bs (repeatL [48] (8 - (decDigits n.toNat).length)),rfl,?_⟩
  have hwl:(wl k).length<=6:=by rcases kinds hk.1 hk.2 with rfl | rfl | rfl <;> simp [wl]
  have hrl:(repeatL [48] (8 - (decDigits n.toNat).length)).length<=8:=by rw [repeatL_length]; simp
  refine gd_mk (decide_eq_true (by rw [bs_size,bs_size]; omega)) (gd_mk (decide_eq_true (by rw [bs_app,bs_size,bs_size,List.length_append]; omega)) ⟨?_,f3⟩)
  rw [bs_app,bs_app,fileL_good hg,List.append_assoc,p2]
end Go.Proofs.YtkfanhdicnjdlaaGreatDoor.Nm8
namespace Go.Proofs.YtkfanhdicnjdlaaGreatDoor
open Go.GV Go.RowKit Go.Lib
theorem box1 {w:World} {z v:Value} {e:TypeId} (h1:v.oneCell'=true) {K:Nat->World->Prop} (hK:∀ b w',Fr (fun _=>False) w w'->w.heap.size<=b->RecAt w' b e [v]->K b w'):nw w [z] e fun b w1=>st w1 b 0 [v] fun w2=>K b w2:=by
 refine rec_new (fun b w1 f1 hb r1=>r1.st_mk (o:=0) (by show 0+1<=1; omega) (fun x hx=>by simp at hx; subst hx; exact h1) (fun q g=>?_))
 exact hK b _ (f1.trans g (fun _ _ h=>h) (fun k hk h=>by have h:k=b:=h; omega)) hb q
structure Env (P:Nat->Prop) (W w:World):Prop where
 vk:Nm8.VK W
 fr:Fr (fun _=>False) W w
 lo:∀ k,P k->W.heap.size<=k
theorem Env.step {P:Nat->Prop} {W w w':World} (h:Env P W w) (f:Fr P w w'):Env P W w':=⟨h.vk,h.fr.trans f (fun _ _ h=>h) (fun k hk hp=>by have:=h.lo k hp; omega),h.lo⟩
theorem Env.up {P:Nat->Prop} {W w w':World} (h:Env P W w) (f:Fr (fun _=>False) w w'):Env P W w':=⟨h.vk,h.fr.trans1 f,h.lo⟩
theorem Env.v {P:Nat->Prop} {W w:World} (h:Env P W w):Nm8.VK w:=h.vk.fr h.fr
def LS (lb db r:Nat):Nat->Prop:=fun k=>k=db\/k=r\/k=lb
section
variable {P:Nat->Prop} {w w':World} {lb db r:Nat} {L L':Lg} {A:Option Addr} {n c:Nat} {A2:Option Addr} {n2 c2:Nat} {vs:List Value}
theorem LgP.ls (h:LgP P w lb db r L A n c A2 n2 c2 vs):∀ k,LS lb db r k->P k:=by
 rintro k (rfl | rfl | rfl)
 ·exact h.pd.1
 ·exact h.pd.2
 ·exact h.pl
theorem LgP.upd (h:LgP P w lb db r L A n c A2 n2 c2 vs) (f:Fr (LS lb db r) w w') (hr:RecAt w' lb 66 (lgC db L' A n c A2 n2 c2)) (e1:L'.rs=L.rs) (e2:L'.c6=L.c6) (hd:DkO (LgO P lb A A2) w' db r L'.d):LgP P w' lb db r L' A n c A2 n2 c2 vs:=by
 have hR:∀ k,LS lb db r k->¬ LgR P lb db r A A2 k:=by
  rintro k (rfl | rfl | rfl) ⟨⟨q1,q2,_⟩,q3,q4⟩
  ·exact q3 rfl
  ·exact q4 rfl
  ·exact q2 rfl
 refine ⟨hr,by rw [e2]; exact h.one,f.row h.row (fun b hb hs=>?_),?_,by rw [e1]; exact h.len,?_,hd,fun k hk=>h.new k (Nat.le_trans f.size hk),h.pl,h.pd,h.ld,h.bA,h.bB⟩
 ·have:=h.bA b hb
  rcases hs with hs | hs | hs
  ·exact this.2.2.1 hs
  ·exact this.2.2.2.1 hs
  ·exact this.2.1 hs
 ·rw [e1]
  exact h.rcs.mono (fun cs x hx=>hx.fr f hR)
 ·rw [e1]
  refine f.row h.byt (fun b hb hs=>?_)
  have:=h.bB b hb
  rcases hs with hs | hs | hs
  ·exact this.2.2.1 hs
  ·exact this.2.2.2 hs
  ·exact this.2.1 hs
theorem LgP.fr0 (h:LgP P w lb db r L A n c A2 n2 c2 vs) (f:Fr (fun _=>False) w w'):LgP P w' lb db r L A n c A2 n2 c2 vs :=
 h.upd (f.mono (fun _ _ h=>h.elim)) (h.lg.fr f (fun h=>h)) rfl rfl (h.dk.out f (fun h=>h) (fun h=>h) (fun _ h=>h.elim))
theorem LgP.nO (h:LgP P w lb db r L A n c A2 n2 c2 vs):¬ LgO P lb A A2 lb:=fun q=>q.2.1 rfl
theorem LgP.rs (h:LgP P w lb db r L A n c A2 n2 c2 vs):RSl (fun k=>P k/\k ≠ lb/\k ≠ db/\k ≠ r) w A n L.rs :=
 ⟨⟨vs,h.row.sl,h.rcs.mono (fun cs x hx=>hx.mono (fun k _ q=>⟨q.1.1,q.1.2.1,q.2.1,q.2.2⟩))⟩,h.len,fun h0 k hk=>⟨(h.bA k hk).1,(h.bA k hk).2.1,(h.bA k hk).2.2.1,(h.bA k hk).2.2.2.1⟩⟩
theorem LgP.st (h:LgP P w lb db r L A n c A2 n2 c2 vs) {o:Nat} {us:List Value} (e:splice (lgC db L A n c A2 n2 c2) o us=lgC db L' A n c A2 n2 c2) (hl:o+us.length<=16) (ho:∀ v ∈ us,v.oneCell'=true) (e1:L'.rs=L.rs) (e2:L'.c6=L.c6) (e3:L'.d=L.d) {K:World->Prop}
  (hK:∀ w',Fr (LS lb db r) w w'->LgP P w' lb db r L' A n c A2 n2 c2 vs->K w'):st w lb o us K:=by
 refine h.lg.st_mk (o:=o) hl ho (fun q g=>?_)
 rw [e] at q
 have g':Fr (LS lb db r) w (stB w lb o us):=g.mono (fun k _ hk=>.inr (.inr hk))
 refine hK _ g' (h.upd g' q e1 e2 ?_)
 rw [e3]
 exact h.dk.out g (fun h'=>h.ld.1 h'.symm) (fun h'=>h.ld.2 h'.symm) (fun k hk=>by have hk:k=lb:=hk; rw [hk]; exact h.nO)
end
theorem LgAt.fr0 {P:Nat->Prop} {w w':World} {lb db r:Nat} {L:Lg} (h:LgAt P w lb db r L) (f:Fr (fun _=>False) w w'):LgAt P w' lb db r L:=by
 obtain ⟨A,n,c,A2,n2,c2,vs,h⟩:=h
 exact ⟨A,n,c,A2,n2,c2,vs,h.fr0 f⟩
def segN (n:Int):ByteArray:=Nm8.bs (Nm8.fileL 1 n)
theorem segN_size (n:Int):(segN n).size<=12:=by
 unfold segN
 rw [Nm8.bs_size]
 unfold Nm8.fileL
 split
 ·rw [List.length_append,Nm8.digs_len]; decide
 ·decide
noncomputable def wrO (L:Lg) (b:Bs):Dk×Int:=stp [opA (segN L.ts) b,opS (segN L.ts)] L.d
noncomputable def wrL (L:Lg) (b:Bs):Lg:={ L with d:=(wrO L b).1,e:=(wrO L b).2 }
set_option maxRecDepth 100000 in
set_option maxHeartbeats 2000000 in
theorem lwrite_calls (P:Nat->Prop) (W:World) (lb db r:Nat) (L:Lg) (A:Option Addr) (n c:Nat) (A2:Option Addr) (n2 c2:Nat) (vs:List Value) (B:Option Addr) (m k:Nat) (b:Bs) (N:Nat) (w:World)
  (h:LgP P w lb db r L A n c A2 n2 c2 vs) (hE:Env P W w) (he:L.e=0) (hB:Sl w 1 B m (bys b)) (hm:m<=1099511627776) (hBk:m ≠ 0->∀ j,blkOf B=some j->j ≠ db/\j ≠ r) (hG:DkG L.d N) (hN:N+2<=349524) :
  Calls Tryz.prog 52 #[.pointer (some ⟨lb,0,none⟩),.slice B m k] w fun e w'=>Fr (LS lb db r) w w'/\e=.returned (.int .i64 (wrO L b).2)/\LgP P w' lb db r (wrL L b) A n c A2 n2 c2 vs:=by
 refine (F52.of (some ⟨lb,0,none⟩) B m k w (Q:=fun v w'=>Fr (LS lb db r) w w'/\v=.int .i64 (wrO L b).2/\LgP P w' lb db r (wrL L b) A n c A2 n2 c2 vs) ?_).mono (fun e w' ⟨v,he,hf,hv,h⟩=>⟨hf,by rw [he,hv],h⟩)
 have hlt:=h.lt
 refine rec_new (fun b1 w2 f2 hb1 r1=>rec_new (fun b3 w4 f4 hb3 r3=>?_))
 have f04:=f2.trans1 f4
 have r1:=r1.fr f4 (fun h=>h)
 have h4:=h.fr0 f04
 refine ⟨_,r1.cell (o:=0) rfl,dr_mk ⟨_,h4.lg.cell (o:=0+7) rfl,(Nm8.file_calls 1 L.ts w4 (hE.up f04).v).mono ?_⟩⟩
 rintro e w9 ⟨rfl,f9⟩
 refine ⟨_,rfl,box1 rfl (fun b12 w14 f14 hb12 r12=>?_)⟩
 have f414:=f9.trans1 f14
 have f014:=f04.trans1 f414
 have r1:=r1.fr f414 (fun h=>h)
 have r3:=r3.fr f414 (fun h=>h)
 refine ⟨_,r1.cell (o:=0) rfl,rec_new (fun b16 w17 f17 hb16 r16=>?_)⟩
 have f017:=f014.trans1 f17
 have r1:=r1.fr f17 (fun h=>h)
 have r3:=r3.fr f17 (fun h=>h)
 have r12:=r12.fr f17 (fun h=>h)
 have h17:=h.fr0 f017
 have s2:=f2.size
 have s9:=f414.size
 have s04:=f04.size
 have s14:=f014.size
 have hlb:=hlt.1
 have hdb:=hlt.2.1
 have hr:=hlt.2.2
 have hb12:w.heap.size<=b12:=by have:=f9.size; omega
 refine (steps_calls (LgO P lb A A2) lb db r (fun u=>RecAt u b1 43 [.pointer (some ⟨lb,0,none⟩)]/\RecAt u b3 32 [.slice B m k]/\RecAt u b12 9 [.string (segN L.ts)]/\Sl u 1 B m (bys b)/\RecAt u lb 66 (lgC db L A n c A2 n2 c2)) (some ⟨b16,0,none⟩) 2 2 _ [opA (segN L.ts) b,opS (segN L.ts)] L A n c A2 n2 c2 L.d N w17 rfl ⟨rfl,fun _=>⟨b16,0,rfl,rec_all r16⟩⟩
  (fun j hj=>by injection hj with hj; have hj:b16=j:=hj; omega) h17.lg he h17.nO h17.ld.1 h17.ld.2 h17.dk hG (by omega) ⟨r1,r3,r12,f017.sl hB (fun _ _ _ h=>h),h17.lg⟩ ?_ ?_ ?_).mono ?_
 ·rintro u u' ⟨q1,q2,q3,q4,q5⟩ fu
  refine ⟨q1.fr fu ?_,q2.fr fu ?_,q3.fr fu ?_,fu.sl q4 (fun h0 j hj hs=>?_),q5.fr fu ?_⟩
  ·rintro (q | q) <;> omega
  ·rintro (q | q) <;> omega
  ·rintro (q | q) <;> omega
  ·have:=hBk h0 j hj
   rcases hs with q | q
   ·exact this.1 q
   ·exact this.2 q
  ·rintro (q | q)
   ·exact h.ld.1 q
   ·exact h.ld.2 q
 ·intro i v f hv hf
  match i,hv,hf with
  | 0,hv,hf =>
   cases hv; cases hf
   rintro u d N' K ⟨q1,q2,q3,q4,q5⟩ hdu hGu hN' hK
   refine callU_mk (fn:=Tryz.f86) (t:=35) Tryz.func86 (by kernel_rfl) (by kernel_rfl) (by kernel_rfl) ?_
   refine (F86.of (b1,0) (b12,0) (b3,0) u (Q:=fun v w'=>∃ x:Int,v=.int .i64 x/\K (.int .i64 x) w') ?_).mono (fun e w' ⟨v,he,x,hv,h⟩=>⟨x,by rw [he,hv],h⟩)
   have fd:Fr (fun _=>False) u u.drew:=Fr.drew _ _
   have q1:=q1.fr fd (fun h=>h)
   have q2:=q2.fr fd (fun h=>h)
   have q3:=q3.fr fd (fun h=>h)
   have q5:=q5.fr fd (fun h=>h)
   refine ⟨_,q1.cell (o:=0) rfl,dr_mk ⟨_,q5.cell (o:=0) rfl,_,q3.cell (o:=0) rfl,_,_,_,q2.cell (o:=0) rfl,?_⟩⟩
   refine (@Append_calls ⟨LgO P lb A A2⟩ db r d (segN L.ts) B m k b u.drew N' (DkO.out hdu fd (fun h=>h) (fun h=>h) (fun _ h=>h.elim)) hGu.i hGu.b hN' (fd.sl q4 (fun _ _ _ h=>h)) hm).mono ?_
   rintro e u' ⟨fu',rfl,hdu'⟩
   exact ⟨_,rfl,_,rfl,hK u' (fd.trans fu' (fun _ _ h=>h.elim) (fun _ _ h=>h)) hdu'⟩
  | 1,hv,hf =>
   cases hv; cases hf
   rintro u d N' K ⟨q1,q2,q3,q4,q5⟩ hdu hGu hN' hK
   refine callU_mk (fn:=Tryz.f87) (t:=35) Tryz.func87 (by kernel_rfl) (by kernel_rfl) (by kernel_rfl) ?_
   refine (F87.of (b1,0) (b12,0) u (Q:=fun v w'=>∃ x:Int,v=.int .i64 x/\K (.int .i64 x) w') ?_).mono (fun e w' ⟨v,he,x,hv,h⟩=>⟨x,by rw [he,hv],h⟩)
   have fd:Fr (fun _=>False) u u.drew:=Fr.drew _ _
   have q1:=q1.fr fd (fun h=>h)
   have q3:=q3.fr fd (fun h=>h)
   have q5:=q5.fr fd (fun h=>h)
   refine ⟨_,q1.cell (o:=0) rfl,dr_mk ⟨_,q5.cell (o:=0) rfl,_,q3.cell (o:=0) rfl,?_⟩⟩
   refine (@Sync_calls ⟨LgO P lb A A2⟩ db r d (segN L.ts) u.drew N' (DkO.out hdu fd (fun h=>h) (fun h=>h) (fun _ h=>h.elim)) hGu.i hGu.b hN').mono ?_
   rintro e u' ⟨fu',rfl,hdu'⟩
   exact ⟨_,rfl,_,rfl,hK u' (fd.trans fu' (fun _ _ h=>h.elim) (fun _ _ h=>h)) hdu'⟩
  | i+2,hv,hf=>cases hv
 ·intro f hf d N' hd
  simp only [List.mem_cons,List.not_mem_nil,or_false] at hf
  rcases hf with rfl | rfl
  ·exact hd.A _ _
  ·exact hd.S _
 ·rintro e w18 ⟨f18,rfl,hlb18,hd18⟩
  have f018:Fr (LS lb db r) w w18:=f017.trans f18 (fun _ _ h=>h.elim) (fun _ _ h=>h)
  exact ⟨_,rfl,f018,rfl,h.upd f018 hlb18 rfl rfl hd18⟩
structure LgB (L:Lg):Prop where
 ts:0<=L.ts/\L.ts<=1000000
 tz:0<=L.tz/\L.tz+((byW L.rs).length:Int)<=65536
 tr:0<=L.tr/\L.tr<=L.tz
 tq:L.tq+L.rs.length<=1152921504606846976
 rs:∀ (i:Nat) (x:Rc),L.rs[i]?=some x->x.sq=L.tq+i/\RcG x/\1<=x.k/\x.k<=5
 sg:L.sg<=65536
theorem mkW_pos (x:Rc):21<=(mkW x).length:=by rw [mkW_len]; omega
theorem byW_ge:∀ l:List Rc,l.length * 21<=(byW l).length
 | []=>Nat.zero_le _
 | x :: l=>by
  have:=byW_ge l
  have h:=mkW_pos x
  have e:byW (x :: l)=mkW x ++ byW l:=rfl
  rw [e,List.length_append,List.length_cons]; omega
theorem rc_sq_self (x:Rc) {q:Nat} (h:x.sq=q):{ x with sq:=q }=x:=by cases x; cases h; rfl
theorem fmB_byW:∀ (l:List Rc) (q:Nat),(∀ (i:Nat) (x:Rc),l[i]?=some x->x.sq=q+i)->fmB l q=byW l
 | [],_,_=>rfl
 | x :: l,q,h=>by
  have h0:=h 0 x rfl
  have e:byW (x :: l)=mkW x ++ byW l:=rfl
  show mkW { x with sq:=q } ++ fmB l (q+1)=_
  rw [e,rc_sq_self x (show x.sq=q from h0),fmB_byW l (q+1) (fun i y hy=>by rw [h (i+1) y hy]; omega)]
theorem LgB.fm {L:Lg} (h:LgB L):fmB L.rs L.tq=byW L.rs:=fmB_byW _ _ (fun i x hx=>(h.rs i x hx).1)
theorem LgB.n {L:Lg} (h:LgB L):L.rs.length<=3120:=by have:=byW_ge L.rs; have:=h.tz; omega
theorem LgB.wr {L:Lg} (h:LgB L) (h0:L.rs ≠ []):wrB L.rs=0:=wrB_of h0 (fun x hm=>by
 obtain ⟨i,hi⟩:=List.mem_iff_getElem?.1 hm
 have:=h.rs i x hi
 exact ⟨this.2.2,this.2.1.rg⟩)
theorem LgB.bm {L:Lg} (h:LgB L) (h0:L.rs ≠ []):bmR L.rs L.tq=(batB L.rs L.tq,L.tq+L.rs.length+1,0):=by
 have:=h.tq
 unfold bmR
 rw [if_neg (fun q=>q (h.wr h0)),if_neg (by omega)]
theorem cm_len (n z q:Nat):(mkW (cmR n z q)).length=29:=by
 rw [mkW_len]
 have:daW (cmR n z q)=leB n 4 ++ leB z 4:=by
  unfold daW
  rw [if_neg (by show ¬ ((6:Int)=3\/(6:Int)=4); omega),if_neg (by show ¬ (6:Int)=5; omega),if_neg (by show ¬ ((6:Int)=1\/(6:Int)=2); omega),if_neg (by show ¬ (6:Int)=7; omega)]
  rfl
 rw [this,List.length_append,leB_len,leB_len]
theorem ft_len (n z q:Nat):(mkW (ftR n z q)).length=29:=by
 rw [mkW_len]
 have:daW (ftR n z q)=leB n 4 ++ leB z 4:=by
  unfold daW
  rw [if_neg (by show ¬ ((8:Int)=3\/(8:Int)=4); omega),if_neg (by show ¬ (8:Int)=5; omega),if_neg (by show ¬ ((8:Int)=1\/(8:Int)=2); omega),if_neg (by show ¬ (8:Int)=7; omega)]
  rfl
 rw [this,List.length_append,leB_len,leB_len]
theorem hd_len (n q:Nat):(mkW (hdR n q)).length=37:=by
 rw [mkW_len]
 have:daW (hdR n q)=stil ++ leB n 8:=by
  unfold daW
  rw [if_neg (by show ¬ ((7:Int)=3\/(7:Int)=4); omega),if_neg (by show ¬ (7:Int)=5; omega),if_neg (by show ¬ ((7:Int)=1\/(7:Int)=2); omega),if_pos (show (hdR n q).k=7 from rfl)]
  rfl
 rw [this,List.length_append,leB_len]; rfl
theorem LgB.bl {L:Lg} (h:LgB L):(batB L.rs L.tq).length=(byW L.rs).length+29:=by
 unfold batB
 rw [List.length_append,h.fm,cm_len]
theorem stp_G:∀ (ops:List (Dk->Dk×Int)) (d:Dk) (N:Nat),(∀ f ∈ ops,∀ d N,DkG d N->DkG (f d).1 (N+1))->DkG d N->DkG (stp ops d).1 (N+ops.length)
 | [],d,N,_,h=>h
 | f :: r,d,N,hf,h=>by
  have h1:=hf f List.mem_cons_self d N h
  unfold stp
  split
  ·have:=stp_G r (f d).1 (N+1) (fun g hg=>hf g (List.mem_cons_of_mem _ hg)) h1
   rw [List.length_cons,show N+(r.length+1)=N+1+r.length by omega]
   exact this
  ·exact ⟨h1.i,h1.b.mono (by rw [List.length_cons]; omega)⟩
theorem wr_G {L:Lg} {N:Nat} (h:DkG L.d N) (b:Bs):DkG (wrL L b).d (N+2):=stp_G _ _ _ (fun f hf d N' hd=>by
 simp only [List.mem_cons,List.not_mem_nil,or_false] at hf
 rcases hf with rfl | rfl
 ·exact hd.A _ _
 ·exact hd.S _) h
theorem wrong_calls1 (P:Nat->Prop) (lb db r:Nat) (L:Lg) (w:World) (h:LgAt P w lb db r L) :
  Calls Tryz.prog 25 #[.pointer (some ⟨lb,0,none⟩)] w fun e w'=>e=.returned (.int .i64 L.e)/\w'=w:=by
 refine (F25.of (some ⟨lb,0,none⟩) w (Q:=fun v w'=>v=.int .i64 L.e/\w'=w) ?_).mono (fun e w' ⟨v,he,hv,h⟩=>⟨by rw [he,hv],h⟩)
 obtain ⟨A,n,c,A2,n2,c2,vs,h⟩:=h
 exact vIf_f rfl (dr_mk ⟨_,h.lg.cell (o:=0+15) rfl,rfl,rfl⟩)
structure Lr (O:Nat->Prop) (w:World) (lb db r:Nat) (cs:List Value) (d:Dk):Prop where
 lg:RecAt w lb 66 cs
 dk:DkO O w db r d
 o:¬ O lb
 ld:lb ≠ db/\lb ≠ r
theorem Lr.st {O:Nat->Prop} {w:World} {lb db r:Nat} {cs cs':List Value} {d:Dk} (h:Lr O w lb db r cs d) {o:Nat} {us:List Value} (e:splice cs o us=cs') (hl:o+us.length<=cs.length) (ho:∀ v ∈ us,v.oneCell'=true) {K:World->Prop}
  (hK:∀ w',Fr (LS lb db r) w w'->Lr O w' lb db r cs' d->K w'):st w lb o us K:=by
 refine h.lg.st_mk (o:=o) hl ho (fun q g=>hK _ (g.mono (fun k _ hk=>.inr (.inr hk))) ⟨by rw [<- e]; exact q,?_,h.o,h.ld⟩)
 exact h.dk.out g (fun h'=>h.ld.1 h'.symm) (fun h'=>h.ld.2 h'.symm) (fun k hk=>by have hk:k=lb:=hk; rw [hk]; exact h.o)
theorem Lr.fr0 {O:Nat->Prop} {w w':World} {lb db r:Nat} {cs:List Value} {d:Dk} (h:Lr O w lb db r cs d) (f:Fr (fun _=>False) w w'):Lr O w' lb db r cs d:=⟨h.lg.fr f (fun h=>h),h.dk.out f (fun h=>h) (fun h=>h) (fun _ h=>h.elim),h.o,h.ld⟩
section
variable {P:Nat->Prop} {w w':World} {lb db r:Nat} {L L':Lg} {A:Option Addr} {n c:Nat} {A2:Option Addr} {n2 c2:Nat} {vs:List Value}
theorem LgP.lr (h:LgP P w lb db r L A n c A2 n2 c2 vs):Lr (LgO P lb A A2) w lb db r (lgC db L A n c A2 n2 c2) L.d:=⟨h.lg,h.dk,h.nO,h.ld⟩
theorem LgP.clr (h:LgP P w lb db r L A n c A2 n2 c2 vs) (f:Fr (LS lb db r) w w') (q:Lr (LgO P lb A A2) w' lb db r (lgC db L' none 0 0 none 0 0) L'.d) (e1:L'.rs=[]) (e2:L'.c6=L.c6):LgP P w' lb db r L' none 0 0 none 0 0 []:=by
 have hn:∀ k,w'.heap.size<=k->P k:=fun k hk=>h.new k (Nat.le_trans f.size hk)
 have hlt:=q.lg.lt
 refine ⟨q.lg,by rw [e2]; exact h.one,Row.nil _ _ _ _,by rw [e1]; exact Ech.nil,by rw [e1]; rfl,by rw [e1]; exact Row.nil _ _ _ _,q.dk.to (fun k hk=>⟨hn k hk,by omega,fun q=>(by cases q),fun q=>(by cases q)⟩) (fun k _ hk=>⟨hk.1,hk.2.1,fun q=>(by cases q),fun q=>(by cases q)⟩),hn,h.pl,h.pd,h.ld,fun k hk=>(by cases hk),fun k hk=>(by cases hk)⟩
end
noncomputable def flL (L:Lg):Lg×Int :=
 if L.e ≠ 0 then (L,L.e)
 else if L.rs=[] then (L,0)
 else if (wrO L (batB L.rs L.tq)).2 ≠ 0 then (wrL L (batB L.rs L.tq),(wrO L (batB L.rs L.tq)).2)
 else ({ wrL L (batB L.rs L.tq) with tz:=L.tz+((batB L.rs L.tq).length:Int),tr:=L.tr+(L.rs.length:Int),tq:=L.tq+L.rs.length+1,rs:=[],de:=0 },0)
theorem fl_G {L:Lg} {N:Nat} (h:DkG L.d N):DkG (flL L).1.d (N+2):=by
 have h2:DkG L.d (N+2):=⟨h.i,h.b.mono (by omega)⟩
 unfold flL
 split
 ·exact h2
 ·split
  ·exact h2
  ·split
   ·exact wr_G h _
   ·exact wr_G h _
set_option maxRecDepth 100000 in
set_option maxHeartbeats 2000000 in
theorem flush_calls (P:Nat->Prop) (W:World) (lb db r:Nat) (L:Lg) (N:Nat) (w:World) (h:LgAt P w lb db r L) (hE:Env P W w) (hB:LgB L) (hG:DkG L.d N) (hN:N+2<=349524) :
  Calls Tryz.prog 31 #[.pointer (some ⟨lb,0,none⟩)] w fun e w'=>Fr (LS lb db r) w w'/\e=.returned (.int .i64 (flL L).2)/\LgAt P w' lb db r (flL L).1:=by
 refine (F31.of (some ⟨lb,0,none⟩) w (Q:=fun v w'=>Fr (LS lb db r) w w'/\v=.int .i64 (flL L).2/\LgAt P w' lb db r (flL L).1) ?_).mono (fun e w' ⟨v,he,hf,hv,h⟩=>⟨hf,by rw [he,hv],h⟩)
 refine (wrong_calls1 P lb db r L w h).mono ?_
 rintro e w1 ⟨rfl,rfl⟩
 refine ⟨_,rfl,vIf_mk (fun g=>?_) (fun g=>?_)⟩
 ·have g:¬ L.e=0:=by simpa using g
  have e1:flL L=(L,L.e):=if_pos g
  rw [e1]
  exact ⟨Fr.refl _ _,rfl,h⟩
 have g:L.e=0:=by simpa using g
 obtain ⟨A,n,c,A2,n2,c2,vs,h⟩:=h
 have hlen:=h.len
 refine dr_mk ⟨_,_,_,h.lg.cell (o:=0+12) rfl,vIf_mk (fun g0=>?_) (fun g0=>?_)⟩
 ·have g0:(n:Int)=0:=by simpa using g0
  have e0:L.rs=[]:=List.length_eq_zero_iff.1 (by omega)
  have e1:flL L=(L,0):=by
   unfold flL
   rw [if_neg (fun q=>q g),if_pos e0]
  rw [e1,g]
  exact ⟨Fr.refl _ _,rfl,A,n,c,A2,n2,c2,vs,h⟩
 have g0:¬ (n:Int)=0:=by simpa using g0
 have hne:L.rs ≠ []:=fun e=>by rw [e] at hlen; simp at hlen; omega
 have hbm:=hB.bm hne
 have hbl:=hB.bl
 have hbz:=hB.tz
 have hbn:=hB.n
 have hbr:=hB.tr
 have hbq:=hB.tq
 have fd:Fr (fun _=>False) w1 w1.drew:=Fr.drew _ _
 have hd:=h.fr0 fd
 refine jnC_mk (fun _=>dr_mk ⟨_,_,_,hd.lg.cell (o:=0+12) rfl,dr_mk ⟨_,hd.lg.cell (o:=0+7+4) rfl,(bmk_calls _ A n c L.tq L.rs w1.drew hd.rs (by omega) (by omega)).mono ?_⟩⟩)
 rintro e w17 ⟨A19,c21,rfl,h17⟩
 rw [hbm] at h17 ⊢
 dsimp only at h17 ⊢
 refine ⟨A19,_,c21,_,0,rfl,vIf_f rfl ?_⟩
 have f17:=fd.trans1 h17.1
 have hh:=h.fr0 f17
 have hlt:=h.lt
 refine (lwrite_calls P W lb db r L A n c A2 n2 c2 vs A19 _ c21 (batB L.rs L.tq) N w17 hh (hE.up f17) g h17.sl (by omega) (fun h0 j hj=>?_) hG (by omega)).mono ?_
 ·have:=(h17.2.blt hj).1
  have hs:=fd.size
  omega
 rintro e w24 ⟨f24,rfl,h24⟩
 have f024:Fr (LS lb db r) w1 w24:=(f17.mono (fun _ _ h=>h.elim)).trans1 f24
 refine ⟨_,rfl,vIf_mk (fun g2=>?_) (fun g2=>?_)⟩
 ·have g2:¬ (wrO L (batB L.rs L.tq)).2=0:=by simpa using g2
  have e1:flL L=(wrL L (batB L.rs L.tq),(wrO L (batB L.rs L.tq)).2):=by
   unfold flL
   rw [if_neg (fun q=>q g),if_neg hne,if_pos g2]
  rw [e1]
  exact ⟨f024,rfl,A,n,c,A2,n2,c2,vs,h24⟩
 have g2:(wrO L (batB L.rs L.tq)).2=0:=by simpa using g2
 have e1:flL L=({ wrL L (batB L.rs L.tq) with tz:=L.tz+((batB L.rs L.tq).length:Int),tr:=L.tr+(L.rs.length:Int),tq:=L.tq+L.rs.length+1,rs:=[],de:=0 },0):=by
  unfold flL
  rw [if_neg (fun q=>q g),if_neg hne,if_neg (fun q=>q g2)]
 rw [e1]
 have a1:IntKind.wrap .i64 (L.tz+(((batB L.rs L.tq).length:Nat):Int))=L.tz+((batB L.rs L.tq).length:Int):=i64_id (by omega) (by omega)
 have a2:IntKind.wrap .i64 (L.tr+((n:Nat):Int))=L.tr+(L.rs.length:Int):=by rw [i64_id (by omega) (by omega),hlen]
 refine dr_mk ⟨_,h24.lg.cell (o:=0+7+1) rfl,dr_mk ?_⟩
 show st w24 lb (0+7+1) [Value.int .i64 (IntKind.wrap .i64 (L.tz+(((batB L.rs L.tq).length:Nat):Int)))] _
 rw [a1]
 refine h24.lr.st (cs':=lgC db { wrL L (batB L.rs L.tq) with tz:=L.tz+((batB L.rs L.tq).length:Int) } A n c A2 n2 c2) rfl (by show 0+7+1+1<=16; omega) (fun v hv=>by simp at hv; subst hv; rfl) (fun w32 f32 q32=>?_)
 have fd2:Fr (fun _=>False) w32 w32.drew:=Fr.drew _ _
 have q33:=q32.fr0 fd2
 have f33:Fr (LS lb db r) w24 w32.drew:=f32.trans1 (fd2.mono (fun _ _ h=>h.elim))
 generalize w32.drew=w33 at fd2 q33 f33 ⊢
 refine dr_mk ⟨_,q33.lg.cell (o:=0+7+2) rfl,dr_mk ⟨_,_,_,q33.lg.cell (o:=0+12) rfl,dr_mk ?_⟩⟩
 show st w33 lb (0+7+2) [Value.int .i64 (IntKind.wrap .i64 (L.tr+((n:Nat):Int)))] _
 rw [a2]
 refine q33.st (cs':=lgC db { wrL L (batB L.rs L.tq) with tz:=L.tz+((batB L.rs L.tq).length:Int),tr:=L.tr+(L.rs.length:Int) } A n c A2 n2 c2) rfl (by show 0+7+2+1<=16; omega) (fun v hv=>by simp at hv; subst hv; rfl) (fun w43 f43 q43=>dr_mk ?_)
 refine q43.st (cs':=lgC db { wrL L (batB L.rs L.tq) with tz:=L.tz+((batB L.rs L.tq).length:Int),tr:=L.tr+(L.rs.length:Int),tq:=L.tq+L.rs.length+1 } A n c A2 n2 c2) rfl (by show 0+7+4+1<=16; omega) (fun v hv=>by simp at hv; subst hv; rfl) (fun w46 f46 q46=>dr_mk ?_)
 refine q46.st (cs':=lgC db { wrL L (batB L.rs L.tq) with tz:=L.tz+((batB L.rs L.tq).length:Int),tr:=L.tr+(L.rs.length:Int),tq:=L.tq+L.rs.length+1 } none 0 0 A2 n2 c2) rfl (by show 0+12+1<=16; omega) (fun v hv=>by simp at hv; subst hv; rfl) (fun w49 f49 q49=>dr_mk ?_)
 refine q49.st (cs':=lgC db { wrL L (batB L.rs L.tq) with tz:=L.tz+((batB L.rs L.tq).length:Int),tr:=L.tr+(L.rs.length:Int),tq:=L.tq+L.rs.length+1 } none 0 0 none 0 0) rfl (by show 0+13+1<=16; omega) (fun v hv=>by simp at hv; subst hv; rfl) (fun w52 f52 q52=>dr_mk ?_)
 refine q52.st (cs':=lgC db { wrL L (batB L.rs L.tq) with tz:=L.tz+((batB L.rs L.tq).length:Int),tr:=L.tr+(L.rs.length:Int),tq:=L.tq+L.rs.length+1,rs:=[],de:=0 } none 0 0 none 0 0) rfl (by show 0+14+1<=16; omega) (fun v hv=>by simp at hv; subst hv; rfl) (fun w55 f55 q55=>?_)
 have f2455:Fr (LS lb db r) w24 w55:=((((f33.trans1 f43).trans1 f46).trans1 f49).trans1 f52).trans1 f55
 exact ⟨f024.trans1 f2455,rfl,none,0,0,none,0,0,[],h24.clr f2455 q55 rfl rfl⟩
noncomputable def slL (L:Lg):Lg×Int :=
 if (flL L).2 ≠ 0 then flL L
 else if (flL L).1.ts=0\/(flL L).1.sl=true then ((flL L).1,0)
 else if (wrO (flL L).1 (mkW (ftR (flL L).1.tr.toNat (flL L).1.tz.toNat (flL L).1.tq))).2 ≠ 0 then (wrL (flL L).1 (mkW (ftR (flL L).1.tr.toNat (flL L).1.tz.toNat (flL L).1.tq)),(wrO (flL L).1 (mkW (ftR (flL L).1.tr.toNat (flL L).1.tz.toNat (flL L).1.tq))).2)
 else ({ wrL (flL L).1 (mkW (ftR (flL L).1.tr.toNat (flL L).1.tz.toNat (flL L).1.tq)) with tz:=(flL L).1.tz+29,tq:=(flL L).1.tq+1,sl:=true },0)
theorem sl_G {L:Lg} {N:Nat} (h:DkG L.d N):DkG (slL L).1.d (N+4):=by
 have h1:=fl_G (L:=L) h
 have h2:DkG (flL L).1.d (N+4):=⟨h1.i,h1.b.mono (by omega)⟩
 unfold slL
 split
 ·exact h2
 ·split
  ·exact h2
  ·split
   ·exact wr_G h1 _
   ·exact wr_G h1 _
theorem flL_e {L:Lg} (h:(flL L).2=0):(flL L).1.e=0/\(flL L).1.rs=[]/\(flL L).1.ts=L.ts/\(flL L).1.sl=L.sl/\(flL L).1.c6=L.c6/\(flL L).1.sg=L.sg/\(flL L).1.bt=L.bt/\0<=(flL L).1.tz - L.tz/\L.e=0:=by
 unfold flL at h ⊢
 split at h
 ·rename_i q; exact absurd h q
 ·rename_i q
  have q:L.e=0:=by omega
  rw [if_neg (fun p=>p q)]
  split at h
  ·rename_i q2
   rw [if_pos q2]
   exact ⟨q,q2,rfl,rfl,rfl,rfl,rfl,by show 0<=L.tz - L.tz; omega,q⟩
  ·rename_i q2
   rw [if_neg q2]
   split at h
   ·rename_i q3; exact absurd h q3
   ·rename_i q3
    rw [if_neg q3]
    have q3:(wrO L (batB L.rs L.tq)).2=0:=by omega
    exact ⟨q3,rfl,rfl,rfl,rfl,rfl,rfl,by show 0<=L.tz+((batB L.rs L.tq).length:Int) - L.tz; omega,q⟩
theorem flL_z {L:Lg} (hB:LgB L):0<=(flL L).1.tz/\(flL L).1.tz<=65565/\0<=(flL L).1.tr/\(flL L).1.tr<=70000/\(flL L).1.tq<=1152921504606846977:=by
 have h1:=hB.tz
 have h2:=hB.tr
 have h3:=hB.n
 have h4:=hB.tq
 have h5:=hB.bl
 unfold flL
 split
 ·exact ⟨h1.1,by show L.tz<=_; omega,h2.1,by show L.tr<=_; omega,by show L.tq<=_; omega⟩
 ·split
  ·exact ⟨h1.1,by show L.tz<=_; omega,h2.1,by show L.tr<=_; omega,by show L.tq<=_; omega⟩
  ·split
   ·exact ⟨h1.1,by show L.tz<=_; omega,h2.1,by show L.tr<=_; omega,by show L.tq<=_; omega⟩
   ·exact ⟨by show 0<=L.tz+((batB L.rs L.tq).length:Int); omega,by show L.tz+((batB L.rs L.tq).length:Int)<=_; omega,by show 0<=L.tr+(L.rs.length:Int); omega,by show L.tr+(L.rs.length:Int)<=_; omega,by show L.tq+L.rs.length+1<=_; omega⟩
set_option maxRecDepth 100000 in
set_option maxHeartbeats 2000000 in
theorem seal_calls (P:Nat->Prop) (W:World) (lb db r:Nat) (L:Lg) (N:Nat) (w:World) (h:LgAt P w lb db r L) (hE:Env P W w) (hB:LgB L) (hG:DkG L.d N) (hN:N+4<=349524) :
  Calls Tryz.prog 76 #[.pointer (some ⟨lb,0,none⟩)] w fun e w'=>Fr (LS lb db r) w w'/\e=.returned (.int .i64 (slL L).2)/\LgAt P w' lb db r (slL L).1:=by
 refine (F76.of (some ⟨lb,0,none⟩) w (Q:=fun v w'=>Fr (LS lb db r) w w'/\v=.int .i64 (slL L).2/\LgAt P w' lb db r (slL L).1) ?_).mono (fun e w' ⟨v,he,hf,hv,h⟩=>⟨hf,by rw [he,hv],h⟩)
 have hls:∀ k,LS lb db r k->P k:=by
  obtain ⟨A,n,c,A2,n2,c2,vs,h⟩:=h
  exact h.ls
 refine (flush_calls P W lb db r L N w h hE hB hG (by omega)).mono ?_
 rintro e w1 ⟨f1,rfl,h1⟩
 have hE1:=hE.step (f1.mono (fun k _ hk=>hls k hk))
 have hG1:=fl_G (L:=L) hG
 refine ⟨_,rfl,vIf_mk (fun g=>?_) (fun g=>?_)⟩
 ·have g:¬ (flL L).2=0:=by simpa using g
  have e1:slL L=flL L:=if_pos g
  rw [e1]
  exact ⟨f1,rfl,h1⟩
 have g:(flL L).2=0:=by simpa using g
 obtain ⟨k1,k2,k3,k4,k5,k6,k7,k8,k9⟩:=flL_e g
 obtain ⟨z1,z2,z3,z4,z5⟩:=flL_z hB
 have es:slL L=(if (flL L).1.ts=0\/(flL L).1.sl=true then ((flL L).1,0)
   else if (wrO (flL L).1 (mkW (ftR (flL L).1.tr.toNat (flL L).1.tz.toNat (flL L).1.tq))).2 ≠ 0 then (wrL (flL L).1 (mkW (ftR (flL L).1.tr.toNat (flL L).1.tz.toNat (flL L).1.tq)),(wrO (flL L).1 (mkW (ftR (flL L).1.tr.toNat (flL L).1.tz.toNat (flL L).1.tq))).2)
   else ({ wrL (flL L).1 (mkW (ftR (flL L).1.tr.toNat (flL L).1.tz.toNat (flL L).1.tq)) with tz:=(flL L).1.tz+29,tq:=(flL L).1.tq+1,sl:=true },0)):=if_neg (fun q=>q g)
 rw [es]
 generalize (flL L).1=M at *
 obtain ⟨A,n,c,A2,n2,c2,vs,h1⟩:=h1
 have keep:(M.ts=0\/M.sl=true)->Fr (LS lb db r) w w1/\Value.int .i64 0=.int .i64 (if M.ts=0\/M.sl=true then (M,(0:Int)) else if (wrO M (mkW (ftR M.tr.toNat M.tz.toNat M.tq))).2 ≠ 0 then (wrL M (mkW (ftR M.tr.toNat M.tz.toNat M.tq)),(wrO M (mkW (ftR M.tr.toNat M.tz.toNat M.tq))).2) else ({ wrL M (mkW (ftR M.tr.toNat M.tz.toNat M.tq)) with tz:=M.tz+29,tq:=M.tq+1,sl:=true },0)).2/\LgAt P w1 lb db r (if M.ts=0\/M.sl=true then (M,(0:Int)) else if (wrO M (mkW (ftR M.tr.toNat M.tz.toNat M.tq))).2 ≠ 0 then (wrL M (mkW (ftR M.tr.toNat M.tz.toNat M.tq)),(wrO M (mkW (ftR M.tr.toNat M.tz.toNat M.tq))).2) else ({ wrL M (mkW (ftR M.tr.toNat M.tz.toNat M.tq)) with tz:=M.tz+29,tq:=M.tq+1,sl:=true },0)).1:=by
  intro hk
  rw [if_pos hk]
  exact ⟨f1,rfl,A,n,c,A2,n2,c2,vs,h1⟩
 refine dr_mk ⟨_,h1.lg.cell (o:=0+7) rfl,vIf_mk (fun g1=>keep (.inl (by simpa using g1))) (fun g1=>dr_mk ⟨_,h1.lg.cell (o:=0+7+3) rfl,vIf_mk (fun g2=>keep (.inr g2)) (fun g2=>?_)⟩)⟩
 have g1:¬ M.ts=0:=by simpa using g1
 have hno:¬ (M.ts=0\/M.sl=true):=fun q=>q.elim g1 (fun q=>by rw [g2] at q; cases q)
 rw [if_neg hno]
 have fd:Fr (fun _=>False) w1 w1.drew:=Fr.drew _ _
 have hd:=h1.fr0 fd
 obtain ⟨tr,htr⟩:∃ m:Nat,M.tr=(m:Int):=⟨M.tr.toNat,by omega⟩
 obtain ⟨tz,htz⟩:∃ m:Nat,M.tz=(m:Int):=⟨M.tz.toNat,by omega⟩
 have etr:M.tr.toNat=tr:=by omega
 have etz:M.tz.toNat=tz:=by omega
 rw [etr,etz]
 refine jnC_mk (fun _=>dr_mk ⟨tr,by rw [<- htr]; exact hd.lg.cell (o:=0+7+2) rfl,dr_mk ⟨tz,by rw [<- htz]; exact hd.lg.cell (o:=0+7+1) rfl,dr_mk ⟨_,hd.lg.cell (o:=0+7+4) rfl,(foot_calls tr tz M.tq w1.drew (by omega) (by omega) (by omega)).mono ?_⟩⟩⟩)
 rintro e w17 ⟨A19,c21,rfl,h17⟩
 refine ⟨A19,_,c21,rfl,?_⟩
 have f17:=fd.trans1 h17.1
 have hh:=h1.fr0 f17
 have hlt:=h1.lt
 have hfl:=ft_len tr tz M.tq
 refine (lwrite_calls P W lb db r M A n c A2 n2 c2 vs A19 _ c21 (mkW (ftR tr tz M.tq)) (N+2) w17 hh (hE1.up f17) k1 h17.sl (by omega) (fun h0 j hj=>?_) hG1 (by omega)).mono ?_
 ·have:=(h17.2.blt hj).1
  have hs:=fd.size
  omega
 rintro e w24 ⟨f24,rfl,h24⟩
 have f124:Fr (LS lb db r) w1 w24:=(f17.mono (fun _ _ h=>h.elim)).trans1 f24
 have f024:Fr (LS lb db r) w w24:=f1.trans1 f124
 refine ⟨_,rfl,vIf_mk (fun g3=>?_) (fun g3=>?_)⟩
 ·have g3:¬ (wrO M (mkW (ftR tr tz M.tq))).2=0:=by simpa using g3
  rw [if_pos g3]
  exact ⟨f024,rfl,A,n,c,A2,n2,c2,vs,h24⟩
 have g3:(wrO M (mkW (ftR tr tz M.tq))).2=0:=by simpa using g3
 rw [if_neg (fun q=>q g3)]
 have a1:IntKind.wrap .i64 (M.tz+(((mkW (ftR tr tz M.tq)).length:Nat):Int))=M.tz+29:=by rw [hfl,i64_id (by omega) (by omega)]; rfl
 have a2:IntKind.wrap .u64 ((M.tq:Nat)+1:Int)=((M.tq+1:Nat):Int):=by rw [u64_id (by omega) (by omega)]; rfl
 refine dr_mk ⟨_,h24.lg.cell (o:=0+7+1) rfl,dr_mk ?_⟩
 show st w24 lb (0+7+1) [Value.int .i64 (IntKind.wrap .i64 (M.tz+(((mkW (ftR tr tz M.tq)).length:Nat):Int)))] _
 rw [a1]
 refine h24.st (L':={ wrL M (mkW (ftR tr tz M.tq)) with tz:=M.tz+29 }) rfl (by show 0+7+1+1<=16; omega) (fun v hv=>by simp at hv; subst hv; rfl) rfl rfl rfl (fun w32 f32 h32=>dr_mk ⟨_,h32.lg.cell (o:=0+7+4) rfl,dr_mk ?_⟩)
 show st w32 lb (0+7+4) [Value.int .u64 (IntKind.wrap .u64 ((M.tq:Nat)+1:Int))] _
 rw [a2]
 refine h32.st (L':={ wrL M (mkW (ftR tr tz M.tq)) with tz:=M.tz+29,tq:=M.tq+1 }) rfl (by show 0+7+4+1<=16; omega) (fun v hv=>by simp at hv; subst hv; rfl) rfl rfl rfl (fun w38 f38 h38=>dr_mk ?_)
 refine h38.st (L':={ wrL M (mkW (ftR tr tz M.tq)) with tz:=M.tz+29,tq:=M.tq+1,sl:=true }) rfl (by show 0+7+3+1<=16; omega) (fun v hv=>by simp at hv; subst hv; rfl) rfl rfl rfl (fun w41 f41 h41=>?_)
 exact ⟨((f024.trans1 f32).trans1 f38).trans1 f41,rfl,A,n,c,A2,n2,c2,vs,h41⟩
end Go.Proofs.YtkfanhdicnjdlaaGreatDoor
