import Derived.Test.YtkfanhdicnjdlaaGreatDoorRows
import Derived.WalkKit
import Derived.ProofKit
import Derived.OpenShut
import Derived.JoinedCond
import Derived.Test.YtkfanhdicnjdlaaGreatDoorCards
import Derived.Test.YtkfanhdicnjdlaaGreatDoorTie
import Derived.Deep.DeepHandedRow
import Derived.Lib.LaidTab
import Derived.Stop.LaidErr
import Derived.Test.YtkfanhdicnjdlaaGreatDoorP4
set_option linter.unusedVariables false
set_option linter.unusedSimpArgs false
namespace Go.Proofs.YtkfanhdicnjdlaaGreatDoor
open Go.GV Go.RowKit Go.Lib
theorem slL_e {L:Lg} (hB:LgB L) (h:(slL L).2=0):(slL L).1.e=0/\(slL L).1.rs=[]/\(slL L).1.ts=L.ts/\(slL L).1.c6=L.c6/\(slL L).1.sg=L.sg/\(slL L).1.bt=L.bt/\(slL L).1.tq<=1152921504606846978/\L.e=0/\(slL L).1.c3=L.c3/\(slL L).1.c4=L.c4/\(slL L).1.c5=L.c5/\(flL L).2=0:=by
 obtain ⟨z1,z2,z3,z4,z5⟩:=flL_z hB
 have c:∀ L:Lg,(flL L).1.c3=L.c3/\(flL L).1.c4=L.c4/\(flL L).1.c5=L.c5:=fun L=>by
  unfold flL
  split
  ·exact ⟨rfl,rfl,rfl⟩
  ·split
   ·exact ⟨rfl,rfl,rfl⟩
   ·split
    ·exact ⟨rfl,rfl,rfl⟩
    ·exact ⟨rfl,rfl,rfl⟩
 have c:=c L
 by_cases g:(flL L).2=0
 ·obtain ⟨k1,k2,k3,k4,k5,k6,k7,k8,k9⟩:=flL_e g
  unfold slL at h ⊢
  rw [if_neg (fun q=>q g)] at h ⊢
  split at h
  ·rename_i q
   rw [if_pos q]
   exact ⟨k1,k2,k3,k5,k6,k7,by show (flL L).1.tq<=_; omega,k9,c.1,c.2.1,c.2.2,g⟩
  ·rename_i q
   rw [if_neg q]
   split at h
   ·rename_i q2; exact absurd h q2
   ·rename_i q2
    rw [if_neg q2]
    have q2:(wrO (flL L).1 (mkW (ftR (flL L).1.tr.toNat (flL L).1.tz.toNat (flL L).1.tq))).2=0:=by omega
    exact ⟨q2,k2,k3,k5,k6,k7,by show (flL L).1.tq+1<=_; omega,k9,c.1,c.2.1,c.2.2,g⟩
 ·have e:slL L=flL L:=if_pos g
  rw [e] at h
  exact absurd h g
noncomputable def nxO (M:Lg):Dk×Int:=stp [opC (segN (M.ts+1)),opA (segN (M.ts+1)) (mkW (hdR (M.ts+1).toNat M.tq)),opS (segN (M.ts+1)),opD] M.d
noncomputable def nxL (L:Lg):Lg×Int :=
 if (slL L).2 ≠ 0 then slL L
 else if (nxO (slL L).1).2 ≠ 0 then ({ (slL L).1 with d:=(nxO (slL L).1).1,e:=(nxO (slL L).1).2 },(nxO (slL L).1).2)
 else ({ (slL L).1 with d:=(nxO (slL L).1).1,e:=(nxO (slL L).1).2,ts:=(slL L).1.ts+1,tz:=37,tr:=0,sl:=false,tq:=(slL L).1.tq+1 },0)
theorem nx_ops (M:Lg):∀ f ∈ [opC (segN (M.ts+1)),opA (segN (M.ts+1)) (mkW (hdR (M.ts+1).toNat M.tq)),opS (segN (M.ts+1)),opD],∀ d N,DkG d N->DkG (f d).1 (N+1):=by
 intro f hf d N hd
 simp only [List.mem_cons,List.not_mem_nil,or_false] at hf
 rcases hf with rfl | rfl | rfl | rfl
 ·exact hd.C _
 ·exact hd.A _ _
 ·exact hd.S _
 ·exact hd.D
theorem nx_G {L:Lg} {N:Nat} (h:DkG L.d N):DkG (nxL L).1.d (N+8):=by
 have h1:=sl_G (L:=L) h
 have h2:DkG (slL L).1.d (N+8):=⟨h1.i,h1.b.mono (by omega)⟩
 have h3:DkG (nxO (slL L).1).1 (N+4+4):=stp_G _ _ _ (nx_ops _) h1
 unfold nxL
 split
 ·exact h2
 ·split
  ·exact h3
  ·exact h3
set_option maxRecDepth 100000 in
set_option maxHeartbeats 4000000 in
theorem next_calls (P:Nat->Prop) (W:World) (lb db r:Nat) (L:Lg) (N:Nat) (w:World) (h:LgAt P w lb db r L) (hE:Env P W w) (hB:LgB L) (hG:DkG L.d N) (hN:N+8<=349524) :
  Calls Tryz.prog 50 #[.pointer (some ⟨lb,0,none⟩)] w fun e w'=>Fr (LS lb db r) w w'/\e=.returned (.int .i64 (nxL L).2)/\LgAt P w' lb db r (nxL L).1:=by
 refine (F50.of (some ⟨lb,0,none⟩) w (Q:=fun v w'=>Fr (LS lb db r) w w'/\v=.int .i64 (nxL L).2/\LgAt P w' lb db r (nxL L).1) ?_).mono (fun e w' ⟨v,he,hf,hv,h⟩=>⟨hf,by rw [he,hv],h⟩)
 have hls:(∀ k,LS lb db r k->P k)/\lb < w.heap.size/\db < w.heap.size/\r < w.heap.size:=by
  obtain ⟨A,n,c,A2,n2,c2,vs,h⟩:=h
  exact ⟨h.ls,h.lt⟩
 obtain ⟨hls,hlb,hdb,hr⟩:=hls
 refine rec_new (fun b1 w2 f2 hb1 r1=>⟨_,r1.cell (o:=0) rfl,(seal_calls P W lb db r L N w2 (h.fr0 f2) (hE.up f2) hB hG (by omega)).mono ?_⟩)
 rintro e w4 ⟨f4,rfl,h4⟩
 have hE4:=(hE.up f2).step (f4.mono (fun k _ hk=>hls k hk))
 have hG4:=sl_G (L:=L) hG
 have s2:=f2.size
 have nb1:¬ LS lb db r b1:=by rintro (q | q | q) <;> omega
 have r1:=r1.fr f4 nb1
 have f04:Fr (LS lb db r) w w4:=(f2.mono (fun _ _ h=>h.elim)).trans1 f4
 refine ⟨_,rfl,vIf_mk (fun g=>?_) (fun g=>?_)⟩
 ·have g:¬ (slL L).2=0:=by simpa using g
  have e1:nxL L=slL L:=if_pos g
  rw [e1]
  exact ⟨f04,rfl,h4⟩
 have g:(slL L).2=0:=by simpa using g
 obtain ⟨k1,k2,k3,k4,k5,k6,k7,k8,k9⟩:=slL_e hB g
 have es:nxL L=(if (nxO (slL L).1).2 ≠ 0 then ({ (slL L).1 with d:=(nxO (slL L).1).1,e:=(nxO (slL L).1).2 },(nxO (slL L).1).2)
   else ({ (slL L).1 with d:=(nxO (slL L).1).1,e:=(nxO (slL L).1).2,ts:=(slL L).1.ts+1,tz:=37,tr:=0,sl:=false,tq:=(slL L).1.tq+1 },0)):=if_neg (fun q=>q g)
 rw [es]
 have hts:=hB.ts
 generalize (slL L).1=M at *
 obtain ⟨A,n,c,A2,n2,c2,vs,h4⟩:=h4
 have ets:IntKind.wrap .i64 (M.ts+1)=M.ts+1:=i64_id (by omega) (by omega)
 obtain ⟨m,hm⟩:∃ m:Nat,M.ts+1=(m:Int):=⟨(M.ts+1).toNat,by omega⟩
 refine ⟨_,r1.cell (o:=0) rfl,dr_mk ⟨_,h4.lg.cell (o:=0+7) rfl,?_⟩⟩
 show Calls Tryz.prog 19 #[.int .i64 1,.int .i64 (IntKind.wrap .i64 (M.ts+1))] w4 _
 rw [ets]
 refine (Nm8.file_calls 1 (M.ts+1) w4 hE4.v).mono ?_
 rintro e w11 ⟨rfl,f11⟩
 refine ⟨_,rfl,box1 rfl (fun b14 w16 f16 hb14 r14=>?_)⟩
 have f416:=f11.trans1 f16
 have r1:=r1.fr f416 (fun h=>h)
 have h16:=h4.fr0 f416
 refine ⟨_,r1.cell (o:=0) rfl,dr_mk ⟨_,h16.lg.cell (o:=0+7+4) rfl,?_⟩⟩
 show Calls Tryz.prog 77 #[.int .i64 (M.ts+1),.int .u64 (M.tq:Nat)] w16 _
 rw [hm]
 refine (head_calls m M.tq w16 (by omega) (by omega) (by omega)).mono ?_
 rintro e w21 ⟨A23,c25,rfl,h21⟩
 have hhl:=hd_len m M.tq
 refine ⟨A23,_,c25,rfl,box1 rfl (fun b26 w28 f28 hb26 r26=>?_)⟩
 have fd:Fr (fun _=>False) w28 w28.drew:=Fr.drew _ _
 have f1629:=(h21.1.trans1 f28).trans1 fd
 have f429:=f416.trans1 f1629
 have r1:=r1.fr f1629 (fun h=>h)
 have r14:=r14.fr f1629 (fun h=>h)
 have r26:=r26.fr fd (fun h=>h)
 have h29:=h4.fr0 f429
 have hsl:=(f28.trans1 fd).sl h21.sl (fun _ _ _ h=>h)
 have s4:=f04.size
 have s11:=f11.size
 have s16:=f416.size
 have s21:=h21.1.size
 have s28:=(f28.trans1 fd).size
 have lt14:w.heap.size<=b14:=by omega
 have lt26:w.heap.size<=b26:=by omega
 have hB23:∀ j,blkOf A23=some j->w.heap.size<=j:=fun j hj=>by have:=(h21.2.blt hj).1; omega
 have nb14:¬ LS lb db r b14:=by rintro (q | q | q) <;> omega
 have nb26:¬ LS lb db r b26:=by rintro (q | q | q) <;> omega
 have hw:w28.heap.size<=w28.drew.heap.size:=Nat.le_refl _
 generalize w28.drew=w29 at fd f1629 f429 r1 r14 r26 h29 hsl s28 hw ⊢
 refine ⟨_,r1.cell (o:=0) rfl,_,r1.cell (o:=0) rfl,dr_mk ⟨_,h29.lg.cell (o:=0) rfl,rec_new (fun b34 w35 f35 hb34 r34=>?_)⟩⟩
 have r1':=r1.fr f35 (fun h=>h)
 have r14':=r14.fr f35 (fun h=>h)
 have r26':=r26.fr f35 (fun h=>h)
 have h35:=h29.fr0 f35
 have hsl':=f35.sl hsl (fun _ _ _ h=>h)
 refine kp_mk f35 r1.lt (fun h=>h) ((steps_calls (LgO P lb A A2) lb db r (fun u=>RecAt u b1 43 [.pointer (some ⟨lb,0,none⟩)]/\RecAt u b26 32 [.slice A23 (mkW (hdR m M.tq)).length c25]/\RecAt u b14 9 [.string (segN (m:Int))]/\Sl u 1 A23 (mkW (hdR m M.tq)).length (bys (mkW (hdR m M.tq)))/\RecAt u lb 66 (lgC db M A n c A2 n2 c2)) (some ⟨b34,0,none⟩) 4 4 _ [opC (segN (m:Int)),opA (segN (m:Int)) (mkW (hdR m M.tq)),opS (segN (m:Int)),opD] M A n c A2 n2 c2 M.d (N+4) w35 rfl ⟨rfl,fun _=>⟨b34,0,rfl,rec_all r34⟩⟩
  (fun j hj=>by injection hj with hj; have hj:b34=j:=hj; omega) h35.lg k1 h35.nO h35.ld.1 h35.ld.2 h35.dk hG4 (by omega) ⟨r1',r26',by rw [<- hm]; exact r14',hsl',h35.lg⟩ ?_ ?_ ?_).mono ?_)
 ·rintro u u' ⟨q1,q2,q3,q4,q5⟩ fu
  refine ⟨q1.fr fu ?_,q2.fr fu ?_,q3.fr fu ?_,fu.sl q4 (fun h0 j hj hs=>?_),q5.fr fu ?_⟩
  ·rintro (q | q) <;> omega
  ·rintro (q | q) <;> omega
  ·rintro (q | q) <;> omega
  ·have:=hB23 j hj
   rcases hs with q | q <;> omega
  ·rintro (q | q)
   ·exact h4.ld.1 q
   ·exact h4.ld.2 q
 ·intro i v f hv hf
  match i,hv,hf with
  | 0,hv,hf =>
   cases hv; cases hf
   rintro u d N' K ⟨q1,q2,q3,q4,q5⟩ hdu hGu hN' hK
   refine callU_mk (fn:=Tryz.f79) (t:=35) Tryz.func79 (by kernel_rfl) (by kernel_rfl) (by kernel_rfl) ?_
   refine (F79.of (b1,0) (b14,0) u (Q:=fun v w'=>∃ x:Int,v=.int .i64 x/\K (.int .i64 x) w') ?_).mono (fun e w' ⟨v,he,x,hv,h⟩=>⟨x,by rw [he,hv],h⟩)
   have fd:Fr (fun _=>False) u u.drew:=Fr.drew _ _
   have q1:=q1.fr fd (fun h=>h)
   have q3:=q3.fr fd (fun h=>h)
   have q5:=q5.fr fd (fun h=>h)
   refine ⟨_,q1.cell (o:=0) rfl,dr_mk ⟨_,q5.cell (o:=0) rfl,_,q3.cell (o:=0) rfl,?_⟩⟩
   refine (@Create_calls ⟨LgO P lb A A2⟩ db r d (segN (m:Int)) u.drew N' (DkO.out hdu fd (fun h=>h) (fun h=>h) (fun _ h=>h.elim)) hGu.i hGu.b hN' (by have:=segN_size (m:Int); omega)).mono ?_
   rintro e u' ⟨fu',rfl,hdu'⟩
   exact ⟨_,rfl,_,rfl,hK u' (fd.trans fu' (fun _ _ h=>h.elim) (fun _ _ h=>h)) hdu'⟩
  | 1,hv,hf =>
   cases hv; cases hf
   rintro u d N' K ⟨q1,q2,q3,q4,q5⟩ hdu hGu hN' hK
   refine callU_mk (fn:=Tryz.f81) (t:=35) Tryz.func81 (by kernel_rfl) (by kernel_rfl) (by kernel_rfl) ?_
   refine (F81.of (b1,0) (b14,0) (b26,0) u (Q:=fun v w'=>∃ x:Int,v=.int .i64 x/\K (.int .i64 x) w') ?_).mono (fun e w' ⟨v,he,x,hv,h⟩=>⟨x,by rw [he,hv],h⟩)
   have fd:Fr (fun _=>False) u u.drew:=Fr.drew _ _
   have q1:=q1.fr fd (fun h=>h)
   have q2:=q2.fr fd (fun h=>h)
   have q3:=q3.fr fd (fun h=>h)
   have q5:=q5.fr fd (fun h=>h)
   refine ⟨_,q1.cell (o:=0) rfl,dr_mk ⟨_,q5.cell (o:=0) rfl,_,q3.cell (o:=0) rfl,_,_,_,q2.cell (o:=0) rfl,?_⟩⟩
   refine (@Append_calls ⟨LgO P lb A A2⟩ db r d (segN (m:Int)) A23 _ c25 (mkW (hdR m M.tq)) u.drew N' (DkO.out hdu fd (fun h=>h) (fun h=>h) (fun _ h=>h.elim)) hGu.i hGu.b hN' (fd.sl q4 (fun _ _ _ h=>h)) (by omega)).mono ?_
   rintro e u' ⟨fu',rfl,hdu'⟩
   exact ⟨_,rfl,_,rfl,hK u' (fd.trans fu' (fun _ _ h=>h.elim) (fun _ _ h=>h)) hdu'⟩
  | 2,hv,hf =>
   cases hv; cases hf
   rintro u d N' K ⟨q1,q2,q3,q4,q5⟩ hdu hGu hN' hK
   refine callU_mk (fn:=Tryz.f83) (t:=35) Tryz.func83 (by kernel_rfl) (by kernel_rfl) (by kernel_rfl) ?_
   refine (F83.of (b1,0) (b14,0) u (Q:=fun v w'=>∃ x:Int,v=.int .i64 x/\K (.int .i64 x) w') ?_).mono (fun e w' ⟨v,he,x,hv,h⟩=>⟨x,by rw [he,hv],h⟩)
   have fd:Fr (fun _=>False) u u.drew:=Fr.drew _ _
   have q1:=q1.fr fd (fun h=>h)
   have q3:=q3.fr fd (fun h=>h)
   have q5:=q5.fr fd (fun h=>h)
   refine ⟨_,q1.cell (o:=0) rfl,dr_mk ⟨_,q5.cell (o:=0) rfl,_,q3.cell (o:=0) rfl,?_⟩⟩
   refine (@Sync_calls ⟨LgO P lb A A2⟩ db r d (segN (m:Int)) u.drew N' (DkO.out hdu fd (fun h=>h) (fun h=>h) (fun _ h=>h.elim)) hGu.i hGu.b hN').mono ?_
   rintro e u' ⟨fu',rfl,hdu'⟩
   exact ⟨_,rfl,_,rfl,hK u' (fd.trans fu' (fun _ _ h=>h.elim) (fun _ _ h=>h)) hdu'⟩
  | 3,hv,hf =>
   cases hv; cases hf
   rintro u d N' K ⟨q1,q2,q3,q4,q5⟩ hdu hGu hN' hK
   refine callU_mk (fn:=Tryz.f85) (t:=35) Tryz.func85 (by kernel_rfl) (by kernel_rfl) (by kernel_rfl) ?_
   refine (@SyncDir_calls ⟨LgO P lb A A2⟩ db r d u N' hdu hGu.i hGu.b hN').mono ?_
   rintro e u' ⟨fu',rfl,hdu'⟩
   exact ⟨_,rfl,hK u' fu' hdu'⟩
  | i+4,hv,hf=>cases hv
 ·have:=nx_ops M
  rw [hm] at this
  exact this
 ·rintro e w36 ⟨f36,rfl,hlb36,hd36⟩
  have e0:nxO M=stp [opC (segN (m:Int)),opA (segN (m:Int)) (mkW (hdR m M.tq)),opS (segN (m:Int)),opD] M.d:=by unfold nxO; rw [hm]; rfl
  rw [<- e0] at hlb36 hd36 ⊢
  have f436:Fr (LS lb db r) w4 w36:=(f429.trans1 f35).trans f36 (fun _ _ h=>h.elim) (fun _ _ h=>h)
  have h36:LgP P w36 lb db r { M with d:=(nxO M).1,e:=(nxO M).2 } A n c A2 n2 c2 vs:=h4.upd f436 hlb36 rfl rfl hd36
  have f036:=f04.trans1 f436
  refine ⟨_,rfl,vIf_mk (fun g3=>?_) (fun g3=>?_)⟩
  ·have g3:(nxO M).2=0:=by simpa using g3
   rw [if_neg (fun q=>q g3)]
   have fd2:Fr (fun _=>False) w36 w36.drew:=Fr.drew _ _
   have h37:=h36.fr0 fd2
   have f36L:Fr (LS lb db r) w29 w36:=(f35.mono (fun _ _ h=>h.elim)).trans1 f36
   have r1'':=(r1.fr f36L nb1).fr fd2 (fun h=>h)
   have r26'':=(r26.fr f36L nb26).fr fd2 (fun h=>h)
   have a2:IntKind.wrap .u64 ((M.tq:Nat)+1:Int)=((M.tq+1:Nat):Int):=by rw [u64_id (by omega) (by omega)]; rfl
   refine ⟨_,r1''.cell (o:=0) rfl,_,_,_,r26''.cell (o:=0) rfl,_,r1''.cell (o:=0) rfl,dr_mk ⟨_,h37.lg.cell (o:=0+7+4) rfl,dr_mk (gd_mk rfl ?_)⟩⟩
   show st w36.drew lb (0+7) ([Value.int .i64 (m:Int)] ++ ([Value.int .i64 (((mkW (hdR m M.tq)).length:Nat):Int)] ++ ([Value.int .i64 0] ++ ([Value.bool false] ++ ([Value.int .u64 (IntKind.wrap .u64 ((M.tq:Nat)+1:Int))] ++ []))))) _
   rw [a2,hhl]
   refine h37.st (L':={ M with d:=(nxO M).1,e:=(nxO M).2,ts:=(m:Int),tz:=37,tr:=0,sl:=false,tq:=M.tq+1 }) rfl (by show 0+7+5<=16; omega) (fun v hv=>?_) rfl rfl rfl (fun w49 f49 h49=>?_)
   ·simp only [List.cons_append,List.nil_append,List.mem_cons,List.not_mem_nil,or_false] at hv
    rcases hv with rfl | rfl | rfl | rfl | rfl <;> rfl
   ·refine ⟨f036.trans ((fd2.mono (fun _ _ h=>h.elim)).trans1 f49) (fun _ _ h=>h) (fun _ _ h=>h),?_,A,n,c,A2,n2,c2,vs,h49⟩
    rw [g3]
  ·have g3:¬ (nxO M).2=0:=by simpa using g3
   rw [if_pos g3]
   exact ⟨f036,rfl,A,n,c,A2,n2,c2,vs,h36⟩
theorem RcE.go {O O' S:Nat->Prop} {w w':World} {cs:List Value} {x:Rc} (h:RcE O w cs x) (f:Fr S w w') (hS:∀ k,S k->¬ O k) (hO:∀ k,k < w.heap.size->O k->O' k):RcE O' w' cs x:=by
 obtain ⟨A,n,c,e,h1,h2,h3,h4⟩:=h
 exact ⟨A,n,c,e,f.sl h1 (fun h0 k hk hs=>hS k hs (h3 h0 k hk)),h2,fun h0 k hk=>hO k (h1.blt (by omega) h0 hk) (h3 h0 k hk),h4⟩
theorem DkO.go {O O' S:Nat->Prop} {w w':World} {db r:Nat} {d:Dk} (h:DkO O w db r d) (f:Fr S w w') (h1:¬ S db) (h2:¬ S r) (hS:∀ k,S k->¬ O k) (hO:∀ k,k < w.heap.size->O k->O' k) (hn:∀ k,w'.heap.size<=k->O' k):DkO O' w' db r d:=by
 obtain ⟨u,v,fz,lv,q1,q2,q3,q4⟩:=h
 have ok:∀ {A:Option Addr} {n sz:Nat} {vs:List Value},@OkA ⟨O⟩ w A n->Sl w sz A n vs->sz ≠ 0->@OkA ⟨O'⟩ w' A n:=fun a b hz=>⟨hn,fun h0 k hk=>hO k (b.blt hz h0 hk) (a.2 h0 k hk)⟩
 have sl:∀ {A:Option Addr} {n sz:Nat} {vs:List Value},@OkA ⟨O⟩ w A n->Sl w sz A n vs->Sl w' sz A n vs:=fun a b=>f.sl b (fun h0 k hk hs=>hS k hs (a.2 h0 k hk))
 refine ⟨u,v,fz,lv,q1.fr f h1,?_,?_,q4⟩
 ·obtain ⟨A,n,c,A',n',c',e,k1,k2,k3,k4,k5⟩:=q2
  exact ⟨A,n,c,A',n',c',e,⟨sl k4 k1.1,k1.2⟩,⟨sl k5 k2.1,k2.2⟩,k3,ok k4 k1.1 (by omega),ok k5 k2.1 (by omega)⟩
 ·obtain ⟨g,k1,k2⟩:=q3
  refine ⟨g,k1.fr f h2,fun id=>?_⟩
  obtain ⟨cs,e,A,n,c,A',n',c',e2,a1,a2,a3,a4,a5,a6⟩:=k2 id
  obtain ⟨vs,s1,s2,s3⟩:=a3
  refine ⟨cs,e,A,n,c,A',n',c',e2,sl a5 a1,a2,⟨vs,sl a6 s1,s2,s3.mono (fun cs x hx=>?_)⟩,a4,ok a5 a1 (by omega),ok a6 s1 (by omega)⟩
  obtain ⟨B,m,k,e3,t1,t2,t3⟩:=hx
  exact ⟨B,m,k,e3,sl t3 t1,t2,ok t3 t1 (by omega)⟩
structure LgQ (P:Nat->Prop) (w:World) (lb db r:Nat) (L:Lg) (bl:List UInt8) (A:Option Addr) (n c:Nat) (A2:Option Addr) (n2 c2:Nat) (vs:List Value):Prop where
 lg:RecAt w lb 66 (lgC db L A n c A2 n2 c2)
 one:L.c6.oneCell'=true
 row:Row w 0 34 38 A n c vs
 rcs:Ech 38 (RcE (LgR P lb db r A A2) w) vs L.rs
 len:L.rs.length=n
 byt:Row w 0 5 1 A2 n2 c2 (bl.map bv)
 dk:DkO (LgO P lb A A2) w db r L.d
 new:∀ k,w.heap.size<=k->P k
 pl:P lb
 pd:P db/\P r
 ld:lb ≠ db/\lb ≠ r
 bA:∀ k,blkOf A=some k->P k/\k ≠ lb/\k ≠ db/\k ≠ r/\blkOf A2 ≠ some k
 bB:∀ k,blkOf A2=some k->P k/\k ≠ lb/\k ≠ db/\k ≠ r
section
variable {P P' S:Nat->Prop} {w w':World} {lb db r:Nat} {L L':Lg} {bl:List UInt8} {A:Option Addr} {n c:Nat} {A2:Option Addr} {n2 c2:Nat} {vs:List Value}
theorem LgP.q (h:LgP P w lb db r L A n c A2 n2 c2 vs):LgQ P w lb db r L (byW L.rs) A n c A2 n2 c2 vs:=⟨h.lg,h.one,h.row,h.rcs,h.len,h.byt,h.dk,h.new,h.pl,h.pd,h.ld,h.bA,h.bB⟩
theorem LgQ.p (h:LgQ P w lb db r L bl A n c A2 n2 c2 vs) (e:bl=byW L.rs):LgP P w lb db r L A n c A2 n2 c2 vs:=⟨h.lg,h.one,h.row,h.rcs,h.len,by rw [<- e]; exact h.byt,h.dk,h.new,h.pl,h.pd,h.ld,h.bA,h.bB⟩
theorem LgQ.lt (h:LgQ P w lb db r L bl A n c A2 n2 c2 vs):lb < w.heap.size/\db < w.heap.size/\r < w.heap.size :=
 ⟨h.lg.lt,(@DkAt.lt ⟨LgO P lb A A2⟩ _ _ _ _ h.dk).1,(@DkAt.lt ⟨LgO P lb A A2⟩ _ _ _ _ h.dk).2⟩
theorem LgQ.go (h:LgQ P w lb db r L bl A n c A2 n2 c2 vs) (f:Fr S w w') (hS:∀ k,S k->¬ P k) (h1:∀ k,k < w.heap.size->P k->P' k) (h2:∀ k,w'.heap.size<=k->P' k):LgQ P' w' lb db r L bl A n c A2 n2 c2 vs:=by
 have hl:=h.lt
 have hs:=f.size
 have oA:∀ k,blkOf A=some k->k < w.heap.size:=fun k hk=>(h.row.blt hk).2
 have oB:∀ k,blkOf A2=some k->k < w.heap.size:=fun k hk=>(h.byt.blt hk).2
 refine ⟨h.lg.fr f (fun q=>hS _ q h.pl),h.one,f.row h.row (fun b hb q=>hS _ q (h.bA b hb).1),h.rcs.mono (fun cs x hx=>hx.go f (fun k q q2=>hS k q q2.1.1) (fun k hk q=>⟨⟨h1 k hk q.1.1,q.1.2⟩,q.2⟩)),h.len,f.row h.byt (fun b hb q=>hS _ q (h.bB b hb).1),h.dk.go f (fun q=>hS _ q h.pd.1) (fun q=>hS _ q h.pd.2) (fun k q q2=>hS k q q2.1) (fun k hk q=>⟨h1 k hk q.1,q.2⟩) (fun k hk=>⟨h2 k hk,by omega,fun q=>?_,fun q=>?_⟩),h2,h1 _ hl.1 h.pl,⟨h1 _ hl.2.1 h.pd.1,h1 _ hl.2.2 h.pd.2⟩,h.ld,fun k hk=>⟨h1 k (oA k hk) (h.bA k hk).1,(h.bA k hk).2⟩,fun k hk=>⟨h1 k (oB k hk) (h.bB k hk).1,(h.bB k hk).2⟩⟩
 ·have:=oA k q; omega
 ·have:=oB k q; omega
theorem LgQ.app7 (h:LgQ P w lb db r L bl A n c A2 n2 c2 vs) {B:Option Addr} {m cB:Nat} {b:List UInt8} (hb:Sl w 1 B m (b.map bv)) (hm:n2+m<=1099511627776) {K:Option Addr->Nat->Nat->World->Prop}
  (hK:∀ A2' c2' w2,Fr (fun k=>k=lb\/blkOf A2=some k) w w2->LgQ P w2 lb db r L (bl ++ b) A n c A2' (n2+m) c2' vs->(∀ k,blkOf A2'=some k->blkOf A2=some k\/w.heap.size<=k)->K A2' (n2+m) c2' w2) :
  app w 1 1 [Value.int .u8 0] 5 A2 n2 c2 (.slice B m cB) fun A' n' c' w1=>dr (some ⟨lb,0,none⟩) fun b57 o58=>st w1 b57 (o58+13) [Value.slice A' n' c'] fun w2=>K A' n' c' w2:=by
 have hl:=h.lt
 refine app_row2 h.byt hb.src (bvs_one b) rfl (by show (n2+m) * 1<=_; omega) (by omega) (Nat.zero_le _) (fun A2' c2' w1 hr f hA=>dr_mk ?_)
 have hlb1:=h.lg.fr f (fun q=>(h.bB _ q).2.1 rfl)
 refine hlb1.st_mk (o:=0+13) (by show 0+13+1<=16; omega) (fun v hv=>by simp at hv; subst hv; rfl) (fun q g=>?_)
 have q:RecAt (stB w1 lb (0+13) [Value.slice A2' (n2+m) c2']) lb 66 (lgC db L A n c A2' (n2+m) c2'):=q
 generalize stB w1 lb (0+13) [Value.slice A2' (n2+m) c2']=w2 at q g ⊢
 have ff:Fr (fun k=>k=lb\/blkOf A2=some k) w w2:=f.trans g (fun _ _ h=>.inr h) (fun _ _ h=>.inl h)
 have sA:∀ k,k < w.heap.size->blkOf A2'=some k->blkOf A2=some k:=fun k hk e=>(hA k e).elim id (fun q=>by omega)
 have s1:=f.size
 have s2:=g.size
 refine hK A2' c2' w2 ff ⟨q,h.one,ff.row h.row (fun k hk hs=>?_),h.rcs.mono (fun cs x hx=>hx.go ff (fun k hs hq=>?_) (fun k hk hq=>⟨⟨hq.1.1,hq.1.2.1,hq.1.2.2.1,fun e=>hq.1.2.2.2 (sA k hk e)⟩,hq.2⟩)),h.len,?_,h.dk.go ff (fun hs=>?_) (fun hs=>?_) (fun k hs hq=>?_) (fun k hk hq=>⟨hq.1,hq.2.1,hq.2.2.1,fun e=>hq.2.2.2 (sA k hk e)⟩) (fun k hk=>⟨h.new k (by omega),by omega,fun e=>?_,fun e=>?_⟩),fun k hk=>h.new k (by omega),h.pl,h.pd,h.ld,fun k hk=>⟨(h.bA k hk).1,(h.bA k hk).2.1,(h.bA k hk).2.2.1,(h.bA k hk).2.2.2.1,fun e=>(h.bA k hk).2.2.2.2 (sA k (h.row.blt hk).2 e)⟩,fun k hk=>?_⟩ hA
 ·rcases hs with hs | hs
  ·exact (h.bA k hk).2.1 hs
  ·exact (h.bA k hk).2.2.2.2 hs
 ·rcases hs with hs | hs
  ·exact hq.1.2.1 hs
  ·exact hq.1.2.2.2 hs
 ·rw [List.map_append]
  refine g.row hr (fun k hk hs=>?_)
  have hs:k=lb:=hs
  rcases hA k hk with e | e
  ·exact (h.bB k e).2.1 hs
  ·omega
 ·rcases hs with hs | hs
  ·exact h.ld.1 hs.symm
  ·exact (h.bB _ hs).2.2.1 rfl
 ·rcases hs with hs | hs
  ·exact h.ld.2 hs.symm
  ·exact (h.bB _ hs).2.2.2 rfl
 ·rcases hs with hs | hs
  ·exact hq.2.1 hs
  ·exact hq.2.2.2 hs
 ·have:=(h.row.blt e).2; omega
 ·have:=(hr.blt e).2; omega
 ·rcases hA k hk with e | e
  ·exact h.bB k e
  ·exact ⟨h.new k e,by omega,by omega,by omega⟩
theorem LgQ.app8 (h:LgQ P w lb db r L bl A n c A2 n2 c2 vs) {b:Nat} {cs:List Value} {x:Rc} (hb:RecAt w b 34 cs) (hx:RcE (LgR P lb db r A A2) w cs x) (hm:n<=1099511627) {K:Option Addr->Nat->Nat->World->Prop}
  (hK:∀ A' c' w2,Fr (fun k=>k=lb\/blkOf A=some k) w w2->LgQ P w2 lb db r { L with rs:=L.rs ++ [x] } bl A' (n+1) c' A2 n2 c2 (vs ++ cs)->K A' (n+1) c' w2) :
  app w 38 104 Z34 34 A n c (.slice (some ⟨b,0,none⟩) 1 1) fun A' n' c' w1=>dr (some ⟨lb,0,none⟩) fun b57 o58=>st w1 b57 (o58+12) [Value.slice A' n' c'] fun w2=>K A' n' c' w2:=by
 have hl:=h.lt
 have hxl:=hx.len
 refine app_row2 (us:=cs) (m:=1) h.row ⟨rfl,by rw [hxl.1],fun _=>dr_mk (rec_rd hb)⟩ hxl.2 rfl (by omega) (by omega) (Nat.zero_le _) (fun A' c' w1 hr f hA=>dr_mk ?_)
 have hlb1:=h.lg.fr f (fun q=>(h.bA _ q).2.1 rfl)
 refine hlb1.st_mk (o:=0+12) (by show 0+12+1<=16; omega) (fun v hv=>by simp at hv; subst hv; rfl) (fun q g=>?_)
 have q:RecAt (stB w1 lb (0+12) [Value.slice A' (n+1) c']) lb 66 (lgC db { L with rs:=L.rs ++ [x] } A' (n+1) c' A2 n2 c2):=q
 generalize stB w1 lb (0+12) [Value.slice A' (n+1) c']=w2 at q g ⊢
 have ff:Fr (fun k=>k=lb\/blkOf A=some k) w w2:=f.trans g (fun _ _ h=>.inr h) (fun _ _ h=>.inl h)
 have sA:∀ k,k < w.heap.size->blkOf A'=some k->blkOf A=some k:=fun k hk e=>(hA k e).elim id (fun q=>by omega)
 have s1:=f.size
 have s2:=g.size
 have hS:∀ k,(k=lb\/blkOf A=some k)->¬ LgR P lb db r A A2 k:=by
  rintro k (hs | hs) hq
  ·exact hq.1.2.1 hs
  ·exact hq.1.2.2.1 hs
 have hO:∀ k,k < w.heap.size->LgR P lb db r A A2 k->LgR P lb db r A' A2 k:=fun k hk hq=>⟨⟨hq.1.1,hq.1.2.1,fun e=>hq.1.2.2.1 (sA k hk e),hq.1.2.2.2⟩,hq.2⟩
 refine hK A' c' w2 ff ⟨q,h.one,g.row hr (fun k hk hs=>?_),(h.rcs.mono (fun cs x hx=>hx.go ff hS hO)).snoc h.row.len h.len hxl.1 (hx.go ff hS hO),by rw [List.length_append,h.len]; rfl,ff.row h.byt (fun k hk hs=>?_),h.dk.go ff (fun hs=>?_) (fun hs=>?_) (fun k hs hq=>?_) (fun k hk hq=>⟨hq.1,hq.2.1,fun e=>hq.2.2.1 (sA k hk e),hq.2.2.2⟩) (fun k hk=>⟨h.new k (by omega),by omega,fun e=>?_,fun e=>?_⟩),fun k hk=>h.new k (by omega),h.pl,h.pd,h.ld,fun k hk=>?_,h.bB⟩
 ·have hs:k=lb:=hs
  rcases hA k hk with e | e
  ·exact (h.bA k e).2.1 hs
  ·omega
 ·rcases hs with hs | hs
  ·exact (h.bB k hk).2.1 hs
  ·exact (h.bA k hs).2.2.2.2 hk
 ·rcases hs with hs | hs
  ·exact h.ld.1 hs.symm
  ·exact (h.bA _ hs).2.2.1 rfl
 ·rcases hs with hs | hs
  ·exact h.ld.2 hs.symm
  ·exact (h.bA _ hs).2.2.2.1 rfl
 ·rcases hs with hs | hs
  ·exact hq.2.1 hs
  ·exact hq.2.2.1 hs
 ·have:=(hr.blt e).2; omega
 ·have:=(h.byt.blt e).2; omega
 ·rcases hA k hk with e | e
  ·exact h.bA k e
  ·exact ⟨h.new k e,by omega,by omega,by omega,fun e2=>by have:=(h.byt.blt e2).2; omega⟩
end
set_option maxHeartbeats 1000000 in
theorem own_calls (x:Rc) (A:Option Addr) (n c q:Nat) (w:World) (hd:x.d.length=32) (hD:Sl w 1 A n (x.dat.map bv)) (hn:n<=1099511627776) :
  Calls Tryz.prog 51 #[ofL (rcC x A n c),.int .u64 (q:Nat)] w fun e w'=>∃ A' c',e=.returned (ofL (rcC { x with sq:=q } A' n c'))/\RB w w' A' n c' x.dat:=by
 refine (F51.of _ (q:Nat) w (Q:=fun v w'=>∃ A' c',v=ofL (rcC { x with sq:=q } A' n c')/\RB w w' A' n c' x.dat) ?_).mono (fun e w' ⟨v,he,A',c',hv,h⟩=>⟨A',c',by rw [he,hv],h⟩)
 refine rec_new (fun b1 w2 f2 hb1 r1=>rec_new (fun b3 w4 f4 hb3 r3=>?_))
 have l0:=r1.lt
 have r1:=r1.fr f4 (fun h=>h)
 have f04:=f2.trans1 f4
 have s2:=f2.size
 have l1:=r1.lt
 have l3:=r3.lt
 refine ⟨_,_,_,r1.cell (o:=0+35) (by rw [Nat.zero_add]; exact rc_data hd A n c),(clone_by A n c x.dat w4 (f04.sl hD (fun _ _ _ h=>h)) hn).mono ?_⟩
 rintro e w8 ⟨f8,A10,c12,rfl,h8⟩
 have r1:=r1.fr f8 (fun h=>h)
 have r3:=r3.fr f8 (fun h=>h)
 refine ⟨A10,n,c12,rfl,r1.st_mk (o:=0+35) (by rw [rcC_len hd]; show 0+35+1<=38; omega) (fun v hv=>by simp at hv; subst hv; rfl) (fun q1 g1=>?_)⟩
 rw [show (0+35:Nat)=35 from rfl,rcC_sta hd] at q1
 refine q1.st_mk (o:=0+1) (by rw [rcC_len hd]; show 0+1+1<=38; omega) (fun v hv=>by simp at hv; subst hv; rfl) (fun q2 g2=>?_)
 have q2:RecAt (stB (stB w8 b1 35 [Value.slice A10 n c12]) b1 (0+1) [Value.int .u64 (q:Nat)]) b1 34 (rcC { x with sq:=q } A10 n c12):=q2
 have g12:Fr (fun k=>k=b1) w8 (stB (stB w8 b1 35 [Value.slice A10 n c12]) b1 (0+1) [Value.int .u64 (q:Nat)]):=Fr.trans1 g1 g2
 have r3:=r3.fr g12 (fun h=>by have h:b3=b1:=h; omega)
 have h8:=g12.row h8 (fun k hk h=>by have h:k=b1:=h; have:=(h8.blt hk).1; omega)
 show ldA 38 (stB (stB w8 b1 35 [Value.slice A10 n c12]) b1 (0+1) [Value.int .u64 (q:Nat)]) b1 0 _
 generalize stB (stB w8 b1 35 [Value.slice A10 n c12]) b1 (0+1) [Value.int .u64 (q:Nat)]=w14 at q2 g12 r3 h8 ⊢
 have f014:Fr (fun _=>False) w w14:=(f04.trans1 f8).trans g12 (fun _ _ h=>h) (fun k hk h=>by have h:k=b1:=h; omega)
 refine ⟨_,rcC_len (x:={ x with sq:=q }) hd _ _ _,rec_all q2,?_⟩
 refine ansN_mk (N:=38) (cs:=rcC { x with sq:=q } A10 n c12) (K:=fun a w1=>∃ A' c',ofL a=ofL (rcC { x with sq:=q } A' n c')/\RB w w1 A' n c' x.dat) r3 rfl (rcC_len (x:={ x with sq:=q }) hd _ _ _) (rcC_one _ _ _ _) (fun w' g=>⟨A10,c12,rfl,f014.trans g (fun _ _ h=>h) (fun k hk h=>by have h:k=b3:=h; omega),?_⟩)
 have h9:=g.row h8 (fun k hk h=>by have h:k=b3:=h; have:=(h8.blt hk).1; omega)
 exact row_low f04.size h9
def nmR:List Rc->Nat->List Rc
 | [],_=>[]
 | x :: r,q=>{ x with sq:=q } :: nmR r (q+1)
theorem nmR_len:∀ (l:List Rc) (q:Nat),(nmR l q).length=l.length
 | [],_=>rfl
 | x :: l,q=>by
  show (nmR l (q+1)).length+1=l.length+1
  rw [nmR_len l]
theorem nmR_snoc:∀ (l:List Rc) (x:Rc) (q:Nat),nmR (l ++ [x]) q=nmR l q ++ [{ x with sq:=q+l.length }]
 | [],x,q=>rfl
 | y :: l,x,q=>by
  show { y with sq:=q } :: nmR (l ++ [x]) (q+1)={ y with sq:=q } :: (nmR l (q+1) ++ _)
  rw [nmR_snoc l x (q+1),List.length_cons,show q+1+l.length=q+(l.length+1) by omega]
theorem byW_app (a b:List Rc):byW (a ++ b)=byW a ++ byW b:=by unfold byW; rw [List.map_append,List.flatten_append]
def wdS:List Rc->Int->Int->List Wo
 | [],_,_=>[]
 | x :: r,s,z=>wdR x s z ((mkW x).length:Int) :: wdS r s (z+((mkW x).length:Int))
theorem wdS_snoc:∀ (l:List Rc) (x:Rc) (s z:Int),wdS (l ++ [x]) s z=wdS l s z ++ [wdR x s (z+((byW l).length:Int)) ((mkW x).length:Int)]
 | [],x,s,z=>by
  show [wdR x s z ((mkW x).length:Int)]=[wdR x s (z+((0:Nat):Int)) ((mkW x).length:Int)]
  rw [show z+((0:Nat):Int)=z by omega]
 | y :: l,x,s,z=>by
  have e:byW (y :: l)=mkW y ++ byW l:=rfl
  show wdR y s z _ :: wdS (l ++ [x]) s (z+((mkW y).length:Int))=wdR y s z _ :: (wdS l s (z+((mkW y).length:Int)) ++ _)
  rw [wdS_snoc l x s _,e,List.length_append,show z+((mkW y).length:Int)+((byW l).length:Int)=z+(((mkW y).length+(byW l).length:Nat):Int) by omega]
def opL (l:List Rc) (L:Lg):Lg:={ L with rs:=L.rs ++ nmR l (L.tq+L.rs.length) }
def opW (l:List Rc) (L:Lg):List Wo:=wdS (nmR l (L.tq+L.rs.length)) L.ts (L.tz+((byW L.rs).length:Int))
theorem opL_snoc (l:List Rc) (x:Rc) (L:Lg):opL (l ++ [x]) L={ opL l L with rs:=(opL l L).rs ++ [{ x with sq:=L.tq+(opL l L).rs.length }] }:=by
 unfold opL
 dsimp only
 rw [nmR_snoc,List.append_assoc,List.length_append,nmR_len,Nat.add_assoc]
theorem opW_snoc (l:List Rc) (x:Rc) (L:Lg):opW (l ++ [x]) L=opW l L ++ [wdR { x with sq:=L.tq+(opL l L).rs.length } L.ts (L.tz+((byW (opL l L).rs).length:Int)) ((mkW { x with sq:=L.tq+(opL l L).rs.length }).length:Int)]:=by
 unfold opW opL
 dsimp only
 rw [nmR_snoc,wdS_snoc,byW_app,List.length_append,List.length_append,nmR_len,Nat.add_assoc,show L.tz+((byW L.rs).length:Int)+((byW (nmR l (L.tq+L.rs.length))).length:Int)=L.tz+(((byW L.rs).length+(byW (nmR l (L.tq+L.rs.length))).length:Nat):Int) by omega]
theorem opL_nil (L:Lg):opL [] L=L:=by
 unfold opL nmR
 rw [List.append_nil]
theorem take_snoc {l:List Rc} {i:Nat} {x:Rc} (h:l[i]?=some x):l.take (i+1)=l.take i ++ [x]:=by rw [List.take_add_one,h]; rfl
theorem nmR_take:∀ (l:List Rc) (q i:Nat),(nmR l q).take i=nmR (l.take i) q
 | [],q,i=>by cases i <;> rfl
 | x :: l,q,0=>rfl
 | x :: l,q,i+1=>by
  show _ :: (nmR l (q+1)).take i=_ :: nmR (l.take i) (q+1)
  rw [nmR_take l]
theorem byW_take (l:List Rc) (i:Nat):(byW (l.take i)).length<=(byW l).length:=by
 have h:byW l=byW (l.take i) ++ byW (l.drop i):=by rw [<- byW_app,List.take_append_drop]
 rw [h,List.length_append]; omega
theorem op_le (l:List Rc) (L:Lg) (i:Nat):(byW (opL (l.take i) L).rs).length<=(byW (opL l L).rs).length:=by
 unfold opL
 dsimp only
 rw [byW_app,byW_app,List.length_append,List.length_append,<- nmR_take]
 have:=byW_take (nmR l (L.tq+L.rs.length)) i
 omega
structure Wr2 (w:World) (B:Nat) (A:Option Addr) (n c:Nat) (l:List Wo):Prop where
 row:Row w B 28 39 A n c (wsC l)
 len:l.length=n
 d:W39 l
theorem Wr2.fr {S:Nat->Prop} {w w':World} {B:Nat} {A:Option Addr} {n c:Nat} {l:List Wo} (h:Wr2 w B A n c l) (f:Fr S w w') (hS:∀ k,B<=k->¬ S k):Wr2 w' B A n c l:=⟨f.row h.row (fun k hk=>hS k (h.row.blt hk).1),h.len,h.d⟩
theorem RSl.d {O:Nat->Prop} {w:World} {A:Option Addr} {n:Nat} {l:List Rc} (h:RSl O w A n l):∀ x ∈ l,x.d.length=32:=fun x hm=>by
 obtain ⟨j,hj⟩:=List.mem_iff_getElem?.1 hm
 obtain ⟨⟨vs,_,hE⟩,_⟩:=h
 obtain ⟨_,_,_,_,_,_,_,hd,_⟩:=hE j x hj
 exact hd
theorem Wr2.push {w:World} {B:Nat} {A:Option Addr} {n c:Nat} {l:List Wo} (h:Wr2 w B A n c l) (hB:B<=w.heap.size) {x:Wo} (hd:x.d.length=32) (hm:n < 1099511627776) {K:Option Addr->Nat->Nat->World->Prop}
  (hK:∀ A' c' w',Wr2 w' B A' (n+1) c' (l ++ [x])->Fr (fun k=>blkOf A=some k) w w'->(∀ k,blkOf A'=some k->blkOf A=some k\/w.heap.size<=k)->K A' (n+1) c' w') :
  nw w (woC x ++ []) 28 fun b w1=>app w1 39 96 Z28 28 A n c (.slice (some ⟨b,0,none⟩) 1 1) K:=by
 rw [List.append_nil]
 refine rec_new (fun b w1 f1 hb r1=>?_)
 have s1:=f1.size
 refine app_row2 (us:=woC x) (m:=1) (f1.row h.row (fun _ _ h=>h)) ⟨rfl,by rw [woC_len hd],fun _=>dr_mk (rec_rd r1)⟩ (woC_one x) rfl (by show (n+1) * 96<=_; omega) (by omega) (by omega) (fun A' c' w' hr f hA=>hK A' c' w' ⟨?_,by rw [List.length_append,h.len]; rfl,?_⟩ ((f1.mono (fun _ _ h=>h.elim)).trans1 f) (fun k hk=>(hA k hk).imp id (fun q=>by omega)))
 ·rw [wsC_app,wsC_one]; exact hr
 ·intro y hy
  rcases List.mem_append.1 hy with hy | hy
  ·exact h.d y hy
  ·simp at hy; subst hy; exact hd
theorem LgQ.fr0 {P:Nat->Prop} {w w':World} {lb db r:Nat} {L:Lg} {bl:List UInt8} {A:Option Addr} {n c:Nat} {A2:Option Addr} {n2 c2:Nat} {vs:List Value} (h:LgQ P w lb db r L bl A n c A2 n2 c2 vs) (f:Fr (fun _=>False) w w'):LgQ P w' lb db r L bl A n c A2 n2 c2 vs :=
 h.go f (fun _ h=>h.elim) (fun _ _ h=>h) (fun k hk=>h.new k (Nat.le_trans f.size hk))
set_option maxRecDepth 100000 in
set_option maxHeartbeats 4000000 in
theorem open_calls (P OA:Nat->Prop) (lb db r:Nat) (L:Lg) (A1:Option Addr) (n1 c1:Nat) (l:List Rc) (w:World) (h:LgAt P w lb db r L) (hA:RSl OA w A1 n1 l) (hOA:∀ k,OA k->¬ P k) (hl:∀ x ∈ l,rgR x=0)
  (hz:0<=L.tz/\L.tz+((byW (opL l L).rs).length:Int)<=65536) (hq:L.tq+(opL l L).rs.length<=1152921504606846976) (hts:0<=L.ts/\L.ts<=1000001) :
  Calls Tryz.prog 30 #[.pointer (some ⟨lb,0,none⟩),.slice A1 n1 c1] w fun e w'=>Fr P w w'/\LgAt P w' lb db r (opL l L)/\∃ A' c',e=.returned (.slice A' (opW l L).length c')/\Wr2 w' w.heap.size A' (opW l L).length c' (opW l L):=by
 refine (F30.of (some ⟨lb,0,none⟩) A1 n1 c1 w (Q:=fun v w'=>Fr P w w'/\LgAt P w' lb db r (opL l L)/\∃ A' c',v=.slice A' (opW l L).length c'/\Wr2 w' w.heap.size A' (opW l L).length c' (opW l L)) ?_).mono (fun e w' ⟨v,he,hf,hL,A',c',hv,h⟩=>⟨hf,hL,A',c',by rw [he,hv],h⟩)
 have hl1:=hA.len
 have hd:=hA.d
 have hfin:(opL l L).rs.length=L.rs.length+l.length:=by unfold opL; dsimp only; rw [List.length_append,nmR_len]
 have hnb:=byW_ge (opL l L).rs
 refine jnC_mk (loop_rule (fun s u=>∃ (i:Nat) (W:Option Addr) (cW:Nat),i<=n1/\s=(some ⟨lb,0,none⟩,(W,i,cW),(A1,n1,c1),(n1:Int),(i:Int),())/\Fr P w u/\LgAt (fun k=>P k/\blkOf W ≠ some k) u lb db r (opL (l.take i) L)/\Wr2 u w.heap.size W i cW (opW (l.take i) L)) (fun s _=>(n1 - s.2.2.2.2.1).toNat) ?_ _ _ ⟨0,none,0,by omega,rfl,Fr.refl _ _,?_,⟨Row.nil _ _ _ _,rfl,fun _ h=>by cases h⟩⟩)
 ·rintro s u C ⟨i,W,cW,hi,rfl,fu,⟨A,n,c,A2,n2,c2,vs,hu⟩,hW⟩ hC _
  refine vIf_mk (fun hlt=>?_) (fun hge=>?_)
  ·have hlt:(i:Int) < (n1:Int):=of_decide_eq_true hlt
   have gi:l[i]?=some (l[i]'(by omega)):=List.getElem?_eq_getElem (by omega)
   generalize l[i]'(by omega)=x at gi
   have hxm:=List.mem_of_getElem? gi
   have hle:=op_le l L (i+1)
   have hrl:(opL (l.take i) L).rs.length=L.rs.length+i:=by unfold opL; dsimp only; rw [List.length_append,nmR_len,List.length_take,Nat.min_eq_left (by omega)]
   have hsn:opL (l.take (i+1)) L={ opL (l.take i) L with rs:=(opL (l.take i) L).rs ++ [{ x with sq:=L.tq+(opL (l.take i) L).rs.length }] }:=by rw [take_snoc gi,opL_snoc]
   have hsw:opW (l.take (i+1)) L=opW (l.take i) L ++ [wdR { x with sq:=L.tq+(opL (l.take i) L).rs.length } L.ts (L.tz+((byW (opL (l.take i) L).rs).length:Int)) ((mkW { x with sq:=L.tq+(opL (l.take i) L).rs.length }).length:Int)]:=by rw [take_snoc gi,opW_snoc]
   have ets:(opL (l.take i) L).ts=L.ts:=rfl
   have etz:(opL (l.take i) L).tz=L.tz:=rfl
   have etq:(opL (l.take i) L).tq=L.tq:=rfl
   rw [hsn] at hle
   have hle:(byW ((opL (l.take i) L).rs ++ [{ x with sq:=L.tq+(opL (l.take i) L).rs.length }])).length<=(byW (opL l L).rs).length:=hle
   rw [byW_app,List.length_append] at hle
   have hbx:byW [{ x with sq:=L.tq+(opL (l.take i) L).rs.length }]=mkW { x with sq:=L.tq+(opL (l.take i) L).rs.length }:=by unfold byW; simp
   rw [hbx] at hle
   generalize opL (l.take i) L=M at *
   generalize hws:opW (l.take i) L=ws at *
   have hlen:=hu.len
   have hblen:(byW M.rs).length=n2:=by have:=hu.byt.len; rw [List.length_map,Nat.mul_one] at this; exact this
   generalize hq2:L.tq+M.rs.length=q at *
   have hqM:M.tq+n=q:=by rw [etq,<- hlen]; exact hq2
   refine rs_all (hA.fr fu (fun k hk ho=>hOA k ho hk)) gi (fun cs hx=>rcv_mk hx (fun b4 w6 f6 hb4 r4=>?_))
   obtain ⟨A0,n0,c0,rfl,x1,x2,x3,x4,x5,x6⟩:=hx
   have hn0:=sl_len x1
   have fd6:Fr (fun _=>False) w6 w6.drew:=Fr.drew _ _
   have f7:=f6.trans1 fd6
   have r4:=r4.fr fd6 (fun h=>h)
   have x1:=f7.sl x1 (fun _ _ _ h=>h)
   have hu7:=hu.fr0 f7
   have hb4':u.heap.size<=b4:=hb4
   generalize w6.drew=w7 at fd6 f7 r4 x1 hu7 ⊢
   have e1:IntKind.wrap .u64 ((n:Nat):Int)=(n:Int):=u64_id (by omega) (by omega)
   have e2:IntKind.wrap .u64 (((M.tq:Nat):Int)+(n:Int))=((q:Nat):Int):=by rw [u64_id (by omega) (by omega)]; omega
   refine ⟨_,rcC_len x4 _ _ _,rec_all r4,dr_mk ⟨_,hu7.lg.cell (o:=0+7+4) rfl,dr_mk ⟨_,_,_,hu7.lg.cell (o:=0+12) rfl,?_⟩⟩⟩
   dsimp only
   rw [e1,e2]
   have lt4:b4 < w7.heap.size:=r4.lt
   refine (own_calls x A0 n0 c0 q w7 x4 x1 (by omega)).mono ?_
   rintro e w16 ⟨A10,c12,rfl,h10⟩
   have r4:=r4.fr h10.1 (fun h=>h)
   refine ⟨_,rfl,gd_mk (by rw [rcC_len (x:={ x with sq:=q }) x4]; rfl) (fo_st r4 (by rw [rcC_len (x:={ x with sq:=q }) x4,rcC_len x4]) (rcC_one _ _ _ _) (fun w19 f19 r5=>?_))⟩
   have f716:=f7.trans1 h10.1
   have s7:=f7.size
   have s16:=h10.1.size
   have s19:=f19.size
   have f019:Fr (fun _=>False) u w19:=f716.trans f19 (fun _ _ h=>h) (fun k hk h=>by have h:k=b4:=h; omega)
   have hD19:Row w19 w7.heap.size 5 1 A10 n0 c12 (x.dat.map bv):=f19.row h10.2 (fun k hk h=>by have h:k=b4:=h; have:=(h10.2.blt hk).1; omega)
   have hD16:∀ k,blkOf A10=some k->w7.heap.size<=k/\k < w16.heap.size:=fun k hk=>h10.2.blt hk
   have hG:RcG { x with sq:=q }:=⟨x4,hl x hxm,by show q < _; omega⟩
   refine ⟨_,rcC_len (x:={ x with sq:=q }) x4 _ _ _,rec_all r5,(bmake_calls { x with sq:=q } A10 n0 c12 w19 hG x5 hD19.sl).mono ?_⟩
   rintro e w21 ⟨A23,c25,rfl,h23⟩
   have hml:=mkW_le (x:={ x with sq:=q }) x4 (hl x hxm)
   have fd21:Fr (fun _=>False) w21 w21.drew:=Fr.drew _ _
   have f21:=h23.1.trans1 fd21
   have r6:=r5.fr f21 (fun h=>h)
   have h23d:=fd21.row h23.2 (fun _ _ h=>h)
   have hu21:=hu.fr0 (f019.trans1 f21)
   have hD21:=f21.row hD19 (fun _ _ h=>h)
   have s21:=f21.size
   generalize w21.drew=w22 at fd21 f21 r6 h23d hu21 hD21 s21 ⊢
   have e3:IntKind.wrap .i64 (M.tz+(n2:Int))=L.tz+((byW M.rs).length:Int):=by rw [etz,hblen,i64_id (by omega) (by omega)]
   refine ⟨A23,_,c25,0,rfl,_,rcC_len (x:={ x with sq:=q }) x4 _ _ _,rec_all r6,dr_mk ⟨_,hu21.lg.cell (o:=0+7) rfl,dr_mk ⟨_,hu21.lg.cell (o:=0+7+1) rfl,dr_mk ⟨_,_,_,hu21.lg.cell (o:=0+13) rfl,?_⟩⟩⟩⟩
   dsimp only
   rw [e3,ets]
   refine (word39_calls { x with sq:=q } A10 n0 c12 L.ts (L.tz+((byW M.rs).length:Int)) ((mkW { x with sq:=q }).length:Int) w22 x4 hn0.symm).mono ?_
   rintro e w39 ⟨rfl,f39⟩
   have r7:=r6.fr f39 (fun h=>h)
   have hu39:=hu21.fr0 f39
   have hD39:=f39.row hD21 (fun _ _ h=>h)
   have h23e:=f39.row h23d (fun _ _ h=>h)
   have s39:=f39.size
   have f039:=(f019.trans1 f21).trans1 f39
   have s039:=f039.size
   have hlu:=hu.lt
   have hWb:∀ k,blkOf W=some k->w.heap.size<=k/\k < u.heap.size:=fun k hk=>hW.row.blt hk
   have hW39:Wr2 w39 w.heap.size W i cW ws:=hW.fr f039 (fun _ _ h=>h)
   have hPn:∀ k,w.heap.size<=k->P k:=by
    obtain ⟨_,_,_,_,_,_,_,h⟩:=h
    exact h.new
   have su:=fu.size
   refine ⟨_,rfl,gd_mk (by rw [woC_len (wdR_len (x:={ x with sq:=q }) x4 _ _ _)]; rfl) (hW39.push (by omega) (wdR_len (x:={ x with sq:=q }) x4 _ _ _) (by omega) (fun W' cW' w47 hW' f47 hWin=>?_))⟩
   have s47:=f47.size
   have hu47:LgQ (fun k=>P k/\blkOf W' ≠ some k) w47 lb db r M (byW M.rs) A n c A2 n2 c2 vs:=hu39.q.go f47 (fun k hk q=>q.2 hk) (fun k hk q=>⟨q.1,fun e=>(hWin k e).elim q.2 (fun h=>by omega)⟩) (fun k hk=>⟨(hu39.new k (by omega)).1,fun e=>by have:=(hW'.row.blt e).2; omega⟩)
   have r8:=r7.fr f47 (fun h=>by have:=(hWb b4 h).2; omega)
   have hD47:=f47.row hD39 (fun k hk h=>by have:=(hWb k h).2; have:=(hD16 k hk).1; omega)
   have h23f:=f47.row h23e (fun k hk h=>by have:=(hWb k h).2; have:=(h23.2.blt hk).1; omega)
   refine dr_mk ⟨_,_,_,hu47.lg.cell (o:=0+13) rfl,hu47.app7 h23f.sl (by omega) (fun A2' c2' w59 f59 hu59 hA2=>?_)⟩
   have s59:=f59.size
   have bA2:∀ k,blkOf A2=some k->k < u.heap.size:=fun k hk=>(hu.byt.blt hk).2
   have bA1:∀ k,blkOf A=some k->k < u.heap.size:=fun k hk=>(hu.row.blt hk).2
   have r9:=r8.fr f59 (fun h=>by
    rcases h with h | h
    ·omega
    ·have:=bA2 b4 h; omega)
   have hD59:=f59.row hD47 (fun k hk h=>by
    have:=(hD16 k hk).1
    rcases h with h | h
    ·omega
    ·have:=bA2 k h; omega)
   have hW59:Wr2 w59 w.heap.size W' (i+1) cW' _:=⟨f59.row hW'.row (fun k hk h=>by
    rcases h with h | h
    ·exact hu47.pl.2 (by rw [<- h]; exact hk)
    ·exact (hu47.bB k h).1.2 hk),hW'.len,hW'.d⟩
   have fd59:Fr (fun _=>False) w59 w59.drew:=Fr.drew _ _
   have hu60:=hu59.fr0 fd59
   have r10:=r9.fr fd59 (fun h=>h)
   refine dr_mk ⟨_,_,_,hu60.lg.cell (o:=0+12) rfl,_,rcC_len (x:={ x with sq:=q }) x4 _ _ _,rec_all r10,gd_mk (by rw [rcC_len (x:={ x with sq:=q }) x4]; rfl) ?_⟩
   rw [List.append_nil]
   refine rec_new (fun b66 w67 f67 hb66 r66=>kp_mk f67 hu60.lg.lt (fun h=>h) ?_)
   have f5967:=fd59.trans1 f67
   have hu67:=hu60.fr0 f67
   have hD67:=f5967.row hD59 (fun _ _ h=>h)
   have hW67:Wr2 w67 w.heap.size W' (i+1) cW' _:=hW59.fr f5967 (fun _ _ h=>h)
   have hxE:RcE (LgR (fun k=>P k/\blkOf W' ≠ some k) lb db r A A2') w67 (rcC { x with sq:=q } A10 n0 c12) { x with sq:=q }:=⟨A10,n0,c12,rfl,hD67.sl,hD67.le,fun h0 k hk=>by
    have k1:=(hD16 k hk)
    refine ⟨⟨⟨hPn k (by omega),fun e=>?_⟩,by omega,fun e=>by have:=bA1 k e; omega,fun e=>?_⟩,by omega,by omega⟩
    ·rcases hWin k e with e | e
     ·have:=(hWb k e).2; omega
     ·omega
    ·rcases hA2 k e with e | e
     ·have:=bA2 k e; omega
     ·omega,x4,x5,x6⟩
   refine hu67.app8 r66 hxE (by omega) (fun A' c' w74 f74 hu74=>jnC_mk (hC _ _ ⟨i+1,W',cW',by omega,?_,?_,?_,?_⟩ ?_))
   ·show (_,_,_,_,IntKind.wrap .i64 ((i:Int)+1),())=_
    rw [i64_id (by omega) (by omega)]; rfl
   ·have q1:Fr P u w39:=f039.mono (fun _ _ h=>h.elim)
    have q2:Fr P w39 w47:=f47.mono (fun k _ h=>hPn k (hWb k h).1)
    have q3:Fr P w47 w59:=f59.mono (fun k _ h=>by
     rcases h with h | h
     ·rw [h]; exact hu47.pl.1
     ·exact (hu47.bB k h).1.1)
    have q4:Fr P w59 w67:=f5967.mono (fun _ _ h=>h.elim)
    have q5:Fr P w67 w74:=f74.mono (fun k _ h=>by
     rcases h with h | h
     ·rw [h]; exact hu67.pl.1
     ·exact (hu67.bA k h).1.1)
    exact ((((fu.trans1 q1).trans1 q2).trans1 q3).trans1 q4).trans1 q5
   ·rw [hsn]
    exact ⟨A',_,c',A2',_,c2',_,hu74.p (by show _=byW (M.rs ++ [{ x with sq:=q }]); rw [byW_app,hbx])⟩
   ·rw [hsw]
    refine ⟨f74.row hW67.row (fun k hk h=>?_),hW67.len,hW67.d⟩
    rcases h with h | h
    ·exact hu67.pl.2 (by rw [<- h]; exact hk)
    ·exact (hu67.bA k h).1.2 hk
   ·show ((n1:Int) - IntKind.wrap .i64 ((i:Int)+1)).toNat < ((n1:Int) - (i:Int)).toNat
    rw [i64_id (by omega) (by omega)]; omega
  ·have hge:¬ (i:Int) < (n1:Int):=of_decide_eq_false hge
   have hin:i=n1:=by omega
   have eT:l.take i=l:=List.take_of_length_le (by omega)
   rw [eT] at hu hW
   have hwl:=hW.len
   refine ⟨fu,⟨A,n,c,A2,n2,c2,vs,(hu.q.go (P':=P) (Fr.refl (fun _=>False) _) (fun _ h=>h.elim) (fun k _ q=>q.1) (fun k hk=>(hu.new k hk).1)).p rfl⟩,W,cW,?_,?_⟩
   ·rw [hwl]
   ·rw [hwl]; exact hW
 ·obtain ⟨A,n,c,A2,n2,c2,vs,h⟩:=h
  refine ⟨A,n,c,A2,n2,c2,vs,?_⟩
  rw [show l.take 0=[] from rfl,opL_nil]
  exact (h.q.go (Fr.refl (fun _=>False) _) (fun _ h=>h.elim) (fun k _ q=>⟨q,fun e=>(by cases e)⟩) (fun k hk=>⟨h.new k hk,fun e=>(by cases e)⟩)).p rfl
def szK (k:Int):Rc:=⟨k,0,z32,[],[],1,0⟩
def szS (ks:List Int):Nat:=(ks.map fun k=>szW (szK k)).sum
theorem szW_7:szW (szK 7)=37:=by
 have e:szK 7=hdR 1 0:=rfl
 rw [e]
 unfold szW
 rw [if_pos (rg_hd (by omega) (by omega)),hd_len]
theorem szW_6:szW (szK 6)=29:=by
 have e:szK 6=cmR 1 0 0:=rfl
 rw [e]
 unfold szW
 rw [if_pos (rg_cm (by omega) (by omega)),cm_len]
theorem szW_8:szW (szK 8)=29:=by
 have e:szK 8=ftR 1 0 0:=rfl
 rw [e]
 unfold szW
 rw [if_pos (rg_ft (by omega) (by omega)),ft_len]
theorem szW_le (x:Rc) (hd:x.d.length=32):szW x<=65557:=by
 unfold szW
 split
 ·rename_i h; exact mkW_le hd h
 ·omega
theorem szS_le:∀ ks:List Int,szS ks<=ks.length * 65557
 | []=>Nat.zero_le _
 | k :: r=>by
  have h1:=szW_le (szK k) z32_len
  have h2:=szS_le r
  have e:szS (k :: r)=szW (szK k)+szS r:=by unfold szS; simp
  rw [e,List.length_cons]; omega
theorem szS_snoc (ks:List Int) (k:Int):szS (ks ++ [k])=szS ks+szW (szK k):=by unfold szS; simp
theorem sizes_calls (A:Option Addr) (n c:Nat) (ks:List Int) (w:World) (h:Sl w 1 A n (ivs ks)) (hn:n<=1000) :
  Calls Tryz.prog 49 #[.slice A n c] w fun e w'=>e=.returned (.int .i64 (szS ks:Nat))/\Fr (fun _=>False) w w':=by
 refine (F49.of A n c w (Q:=fun v w'=>v=.int .i64 (szS ks:Nat)/\Fr (fun _=>False) w w') ?_).mono (fun e w' ⟨v,he,hv,h⟩=>⟨by rw [he,hv],h⟩)
 have hl:=sl_n h
 have tk:∀ i,szS (ks.take i)<=1000 * 65557:=fun i=>Nat.le_trans (szS_le _) (Nat.mul_le_mul_right _ (by rw [List.length_take]; omega))
 refine jnC_mk (loop_rule (fun s u=>Fr (fun _=>False) w u/\∃ i:Nat,i<=n/\s=(((szS (ks.take i):Nat):Int),(A,n,c),(n:Int),(i:Int),())) (fun s _=>(n - s.2.2.2.1).toNat) ?_ _ _ ⟨Fr.refl _ _,0,by omega,rfl⟩)
 rintro s u C ⟨fu,i,hi,rfl⟩ hC _
 refine vIf_mk (fun hlt=>?_) (fun hge=>?_)
 ·have hlt:(i:Int) < (n:Int):=of_decide_eq_true hlt
  have gi:ks[i]?=some (ks[i]'(by omega)):=List.getElem?_eq_getElem (by omega)
  generalize ks[i]'(by omega)=k at gi
  have h1:=tk i
  have h2:=tk (i+1)
  have e1:ks.take (i+1)=ks.take i ++ [k]:=by rw [List.take_add_one,gi]; rfl
  rw [e1,szS_snoc] at h2
  refine sl_rd (fu.sl h (fun _ _ _ h=>h)) (by omega) gi ((bsize_calls (szK k) none 0 0 u z32_len (Nat.zero_le _) (Sl.nil _ _ _)).mono ?_)
  rintro e w4 ⟨rfl,f4⟩
  refine ⟨_,rfl,jnC_mk (hC _ _ ⟨fu.trans1 f4,i+1,by omega,?_⟩ ?_)⟩
  ·show (IntKind.wrap .i64 (((szS (ks.take i):Nat):Int)+((szW (szK k):Nat):Int)),(A,n,c),(n:Int),IntKind.wrap .i64 ((i:Int)+1),())=_
   rw [i64_id (n:=((szS (ks.take i):Nat):Int)+((szW (szK k):Nat):Int)) (by omega) (by omega),i64_id (by omega) (by omega),e1,szS_snoc]; rfl
  ·show ((n:Int) - IntKind.wrap .i64 ((i:Int)+1)).toNat < ((n:Int) - (i:Int)).toNat
   rw [i64_id (by omega) (by omega)]; omega
 ·have hge:¬ (i:Int) < (n:Int):=of_decide_eq_false hge
  have eT:ks.take i=ks:=List.take_of_length_le (by omega)
  refine ⟨?_,fu⟩
  rw [eT]
def cfC (L:Lg):List Value:=[.int .i64 L.sg,.int .i64 L.bt,.int .i64 L.c3,.int .i64 L.c4,.int .i64 L.c5,L.c6]
theorem room_of {sg:Int} (h : -1099511627776<=sg/\sg<=1099511627776):IntKind.wrap .i64 (sg - ((szS [7,6,8]:Nat):Int))=sg - 95:=by
 have e:szS [7,6,8]=95:=by
  show szW (szK 7)+(szW (szK 6)+(szW (szK 8)+0))=95
  rw [szW_7,szW_6,szW_8]
 rw [e,i64_id (by omega) (by omega)]; rfl
theorem croom_calls (cs:List Value) (sg:Int) (w:World) (hl:cs.length=6) (h0:cs[0]?=some (.int .i64 sg)) (hs : -1099511627776<=sg/\sg<=1099511627776) :
  Calls Tryz.prog 28 #[ofL cs] w fun e w'=>e=.returned (.int .i64 (sg - 95))/\Fr (fun _=>False) w w':=by
 refine (F28.of cs w (Q:=fun v w'=>v=.int .i64 (sg - 95)/\Fr (fun _=>False) w w') ?_).mono (fun e w' ⟨v,he,hv,h⟩=>⟨by rw [he,hv],h⟩)
 refine rec_new (fun b1 w2 f2 hb1 r1=>?_)
 have fd:Fr (fun _=>False) w2 w2.drew:=Fr.drew _ _
 have r1:=r1.fr fd (fun h=>h)
 refine ⟨sg,r1.cell (o:=0) h0,rec_new (fun b4 w5 f5 hb4 r4=>kp_mk f5 r1.lt (fun h=>h) ((sizes_calls _ 3 3 [7,6,8] w5 ⟨rfl,fun _=>⟨b4,0,rfl,rec_all r4⟩⟩ (by omega)).mono ?_))⟩
 rintro e w6 ⟨rfl,f6⟩
 refine ⟨_,rfl,kp_mk (f5.trans1 f6) r1.lt (fun h=>h) ⟨?_,(((f2.trans1 fd).trans1 f5).trans1 f6)⟩⟩
 rw [room_of hs]
noncomputable def rmL (L:Lg) (n size:Int):Lg×Int :=
 if L.ts=0\/L.sl=true\/L.tz+((byW L.rs).length:Int)+size+58 > L.sg then nxL L
 else if (L.rs.length:Int) > 0/\(L.rs.length:Int)+n > L.bt then flL L
 else (L,0)
theorem rm_G {L:Lg} {N:Nat} {n size:Int} (h:DkG L.d N):DkG (rmL L n size).1.d (N+8):=by
 have h1:=fl_G (L:=L) h
 unfold rmL
 split
 ·exact nx_G h
 ·split
  ·exact ⟨h1.i,h1.b.mono (by omega)⟩
  ·exact ⟨h.i,h.b.mono (by omega)⟩
set_option maxHeartbeats 2000000 in
theorem room_calls1 (P:Nat->Prop) (W:World) (lb db r:Nat) (L:Lg) (N:Nat) (m size:Int) (w:World) (h:LgAt P w lb db r L) (hE:Env P W w) (hB:LgB L) (hG:DkG L.d N) (hN:N+8<=349524) (hm:0<=m/\m<=1099511627776) (hsz:0<=size/\size<=1099511627776) :
  Calls Tryz.prog 29 #[.pointer (some ⟨lb,0,none⟩),.int .i64 m,.int .i64 size] w fun e w'=>Fr (LS lb db r) w w'/\e=.returned (.int .i64 (rmL L m size).2)/\LgAt P w' lb db r (rmL L m size).1:=by
 refine (F29.of (some ⟨lb,0,none⟩) m size w (Q:=fun v w'=>Fr (LS lb db r) w w'/\v=.int .i64 (rmL L m size).2/\LgAt P w' lb db r (rmL L m size).1) ?_).mono (fun e w' ⟨v,he,hf,hv,h⟩=>⟨hf,by rw [he,hv],h⟩)
 have hbz:=hB.tz
 have hbn:=hB.n
 have hcm:szW (cmR 0 0 0)=29:=by
  unfold szW
  rw [if_pos (rg_cm (by omega) (by omega)),cm_len]
 have hft:szW (ftR 0 0 0)=29:=by
  unfold szW
  rw [if_pos (rg_ft (by omega) (by omega)),ft_len]
 refine (bsize_calls (cmR 0 0 0) none 0 0 w z32_len (Nat.zero_le _) (Sl.nil _ _ _)).mono ?_
 rintro e w1 ⟨rfl,f1⟩
 rw [hcm]
 refine ⟨_,rfl,(bsize_calls (ftR 0 0 0) none 0 0 w1 z32_len (Nat.zero_le _) (Sl.nil _ _ _)).mono ?_⟩
 rintro e w4 ⟨rfl,f4⟩
 rw [hft]
 refine ⟨_,rfl,?_⟩
 have fd:Fr (fun _=>False) w4 w4.drew:=Fr.drew _ _
 have f5:=(f1.trans1 f4).trans1 fd
 have h5:=h.fr0 f5
 have hE5:=hE.up f5
 generalize w4.drew=w5 at fd f5 h5 hE5 ⊢
 have f5L:Fr (LS lb db r) w w5:=f5.mono (fun _ _ h=>h.elim)
 have k3:∀ t:Bool,(t=true ↔ (L.ts=0\/L.sl=true\/L.tz+((byW L.rs).length:Int)+size+58 > L.sg))->jnC (F29.k3 (fun v w'=>Fr (LS lb db r) w w'/\v=.int .i64 (rmL L m size).2/\LgAt P w' lb db r (rmL L m size).1)) (some ⟨lb,0,none⟩,m,t,()) w5:=by
  intro t ht
  refine jnC_mk (fun _=>vIf_mk (fun g=>?_) (fun g=>?_))
  ·have g:t=true:=g
   have e1:rmL L m size=nxL L:=if_pos (ht.1 g)
   rw [e1]
   refine (next_calls P W lb db r L N w5 h5 hE5 hB hG hN).mono ?_
   rintro e w6 ⟨f6,rfl,h6⟩
   exact ⟨_,rfl,f5L.trans1 f6,rfl,h6⟩
  ·have g:t=false:=g
   have e1:rmL L m size=if (L.rs.length:Int) > 0/\(L.rs.length:Int)+m > L.bt then flL L else (L,0):=if_neg (fun q=>by rw [ht.2 q] at g; cases g)
   rw [e1]
   have fd2:Fr (fun _=>False) w5 w5.drew:=Fr.drew _ _
   have h6:=h5.fr0 fd2
   have hE6:=hE5.up fd2
   have f6L:Fr (LS lb db r) w w5.drew:=f5L.trans1 (fd2.mono (fun _ _ h=>h.elim))
   have h60:=h6
   obtain ⟨A,n,c,A2,n2,c2,vs,h6⟩:=h6
   have hlen:=h6.len
   have k5:∀ t:Bool,(t=true ↔ ((L.rs.length:Int) > 0/\(L.rs.length:Int)+m > L.bt))->jnC (F29.k5 (fun v w'=>Fr (LS lb db r) w w'/\v=.int .i64 (if (L.rs.length:Int) > 0/\(L.rs.length:Int)+m > L.bt then flL L else (L,0)).2/\LgAt P w' lb db r (if (L.rs.length:Int) > 0/\(L.rs.length:Int)+m > L.bt then flL L else (L,0)).1)) (some ⟨lb,0,none⟩,t,()) w5.drew:=by
    intro t ht
    refine jnC_mk (fun _=>vIf_mk (fun g=>?_) (fun g=>?_))
    ·have g:t=true:=g
     rw [if_pos (ht.1 g)]
     refine (flush_calls P W lb db r L N w5.drew h60 hE6 hB hG (by omega)).mono ?_
     rintro e w7 ⟨f7,rfl,h7⟩
     exact ⟨_,rfl,f6L.trans1 f7,rfl,h7⟩
    ·have g:t=false:=g
     rw [if_neg (fun q=>by rw [ht.2 q] at g; cases g)]
     exact ⟨f6L,rfl,h60⟩
   refine dr_mk ⟨_,_,_,h6.lg.cell (o:=0+12) rfl,vIf_mk (fun g1=>?_) (fun g1=>?_)⟩
   ·have g1:(n:Int) > 0:=of_decide_eq_true g1
    refine dr_mk ⟨_,_,_,h6.lg.cell (o:=0+12) rfl,dr_mk ⟨_,h6.lg.cell (o:=0+1+1) rfl,k5 _ ?_⟩⟩
    dsimp only
    rw [i64_id (n:=((n:Nat):Int)+m) (by omega) (by omega),hlen]
    exact ⟨fun q=>⟨by omega,of_decide_eq_true q⟩,fun q=>decide_eq_true q.2⟩
   ·have g1:¬ (n:Int) > 0:=of_decide_eq_false g1
    exact k5 false ⟨fun q=>(by cases q),fun q=>absurd q.1 (by omega)⟩
 obtain ⟨A,n,c,A2,n2,c2,vs,h6⟩:=h5
 have hblen:(byW L.rs).length=n2:=by have:=h6.byt.len; rw [List.length_map,Nat.mul_one] at this; exact this
 refine dr_mk ⟨_,h6.lg.cell (o:=0+7) rfl,vIf_mk (fun g=>k3 true ⟨fun _=>.inl (by simpa using g),fun _=>rfl⟩) (fun g=>dr_mk ⟨_,h6.lg.cell (o:=0+7+3) rfl,vIf_mk (fun g2=>k3 true ⟨fun _=>.inr (.inl g2),fun _=>rfl⟩) (fun g2=>dr_mk ⟨_,h6.lg.cell (o:=0+7+1) rfl,dr_mk ⟨_,_,_,h6.lg.cell (o:=0+13) rfl,dr_mk ⟨_,h6.lg.cell (o:=0+1) rfl,k3 _ ?_⟩⟩⟩)⟩)⟩
 have g:¬ L.ts=0:=by simpa using g
 have e1:IntKind.wrap .i64 (L.tz+((n2:Nat):Int))=L.tz+((byW L.rs).length:Int):=by rw [i64_id (by omega) (by omega),hblen]
 have e2:IntKind.wrap .i64 (((29:Nat):Int)+((29:Nat):Int))=58:=by rw [i64_id (by omega) (by omega)]; rfl
 rw [e1,e2,i64_id (n:=L.tz+((byW L.rs).length:Int)+size) (by omega) (by omega),i64_id (n:=L.tz+((byW L.rs).length:Int)+size+58) (by omega) (by omega)]
 refine ⟨fun q=>.inr (.inr (of_decide_eq_true q)),fun q=>decide_eq_true ?_⟩
 rcases q with q | q | q
 ·exact absurd q g
 ·rw [g2] at q; cases q
 ·exact q
def szs (l:List Rc):Nat:=(l.map szW).sum
theorem szs_snoc (l:List Rc) (x:Rc):szs (l ++ [x])=szs l+szW x:=by unfold szs; simp
theorem szs_le:∀ l:List Rc,(∀ x ∈ l,x.d.length=32)->szs l<=l.length * 65557
 | [],_=>Nat.zero_le _
 | x :: r,h=>by
  have h1:=szW_le x (h x List.mem_cons_self)
  have h2:=szs_le r (fun y hy=>h y (List.mem_cons_of_mem _ hy))
  have e:szs (x :: r)=szW x+szs r:=by unfold szs; simp
  rw [e,List.length_cons]; omega
def aoL (M:Lg) (l:List Rc) (deeds:Int):Lg:={ opL l M with de:=IntKind.wrap .i64 (M.de+deeds) }
noncomputable def adL (L:Lg) (l:List Rc) (deeds:Int):Lg×List Wo×Int :=
  if L.e ≠ 0 then (L,[],L.e)
  else if (bmR l 0).2.2 ≠ 0 then (L,[],(bmR l 0).2.2)
  else if (szs l:Int) > L.sg - 95 then (L,[],18)
  else if (rmL L l.length (szs l)).2 ≠ 0 then ((rmL L l.length (szs l)).1,[],(rmL L l.length (szs l)).2)
  else if (aoL (rmL L l.length (szs l)).1 l deeds).bt<=((aoL (rmL L l.length (szs l)).1 l deeds).rs.length:Int) then
    (if (flL (aoL (rmL L l.length (szs l)).1 l deeds)).2 ≠ 0 then ((flL (aoL (rmL L l.length (szs l)).1 l deeds)).1,[],(flL (aoL (rmL L l.length (szs l)).1 l deeds)).2)
     else ((flL (aoL (rmL L l.length (szs l)).1 l deeds)).1,opW l (rmL L l.length (szs l)).1,0))
  else (aoL (rmL L l.length (szs l)).1 l deeds,opW l (rmL L l.length (szs l)).1,0)
theorem ad_G {L:Lg} {N:Nat} {l:List Rc} {deeds:Int} (h:DkG L.d N):DkG (adL L l deeds).1.d (N+10):=by
 have h0:DkG L.d (N+10):=⟨h.i,h.b.mono (by omega)⟩
 have h1:=rm_G (L:=L) (n:=l.length) (size:=szs l) h
 have h1':DkG (rmL L l.length (szs l)).1.d (N+10):=⟨h1.i,h1.b.mono (by omega)⟩
 have h2:DkG (flL (aoL (rmL L l.length (szs l)).1 l deeds)).1.d (N+8+2):=fl_G (L:=aoL (rmL L l.length (szs l)).1 l deeds) h1
 unfold adL
 split
 ·exact h0
 ·split
  ·exact h0
  ·split
   ·exact h0
   ·split
    ·exact h1'
    ·split
     ·split
      ·exact h2
      ·exact h2
     ·exact h1'
theorem LgAt.nP {P:Nat->Prop} {w:World} {lb db r:Nat} {L:Lg} (h:LgAt P w lb db r L):(∀ k,LS lb db r k->P k)/\(∀ k,w.heap.size<=k->P k)/\lb < w.heap.size/\db < w.heap.size/\r < w.heap.size:=by
 obtain ⟨A,n,c,A2,n2,c2,vs,h⟩:=h
 exact ⟨h.ls,h.new,h.lt⟩
set_option maxHeartbeats 4000000 in
theorem add_calls (P OA:Nat->Prop) (W:World) (lb db r:Nat) (L:Lg) (N:Nat) (A:Option Addr) (n c:Nat) (l:List Rc) (deeds:Int) (w:World) (h:LgAt P w lb db r L) (hE:Env P W w) (hB:LgB L) (hG:DkG L.d N) (hN:N+10<=349524)
    (hA:RSl OA w A n l) (hOA:∀ k,OA k->¬ P k) (hn:n<=60000) (hsg : -1099511627776<=L.sg)
    (hM:L.e=0->(bmR l 0).2.2=0->(szs l:Int)<=L.sg - 95->(rmL L l.length (szs l)).2=0->LgB (aoL (rmL L l.length (szs l)).1 l deeds)) :
    Calls Tryz.prog 16 #[.pointer (some ⟨lb,0,none⟩),.slice A n c,.int .i64 deeds] w fun e w'=>Fr P w w'/\LgAt P w' lb db r (adL L l deeds).1/\∃ A' c',e=.returned (.tuple #[.slice A' (adL L l deeds).2.1.length c',.int .i64 (adL L l deeds).2.2])/\Wr2 w' w.heap.size A' (adL L l deeds).2.1.length c' (adL L l deeds).2.1:=by
  refine (F16.of (some ⟨lb,0,none⟩) A n c deeds w (Q:=fun v w'=>Fr P w w'/\LgAt P w' lb db r (adL L l deeds).1/\∃ A' c',v=.tuple #[.slice A' (adL L l deeds).2.1.length c',.int .i64 (adL L l deeds).2.2]/\Wr2 w' w.heap.size A' (adL L l deeds).2.1.length c' (adL L l deeds).2.1) ?_).mono (fun e w' ⟨v,he,hf,hL,A',c',hv,h⟩=>⟨hf,hL,A',c',by rw [he,hv],h⟩)
  have hl:=hA.len
  have hd:=hA.d
  have nil:∀ u:World,Wr2 u w.heap.size none 0 0 []:=fun u=>⟨Row.nil _ _ _ _,rfl,fun _ h=>by cases h⟩
  obtain ⟨hls,hnew,hlb,hdb,hrb⟩:=h.nP
  refine (wrong_calls1 P lb db r L w h).mono ?_
  rintro e w1 ⟨rfl,rfl⟩
  refine ⟨_,rfl,vIf_mk (fun g=>?_) (fun g=>?_)⟩
  · have g:¬ L.e=0:=by simpa using g
    have e1:adL L l deeds=(L,[],L.e):=if_pos g
    rw [e1]
    exact ⟨Fr.refl _ _,h,none,0,rfl,nil _⟩
  have g:L.e=0:=by simpa using g
  refine (bmk_calls OA A n c 0 l w1 hA hn (by omega)).mono ?_
  rintro e w4 ⟨A6,c8,rfl,h4⟩
  have f4:=h4.1
  have f4P:Fr P w1 w4:=f4.mono (fun _ _ h=>h.elim)
  have hh4:=h.fr0 f4
  refine ⟨A6,_,c8,_,_,rfl,vIf_mk (fun g1=>?_) (fun g1=>?_)⟩
  · have g1:¬ (bmR l 0).2.2=0:=by simpa using g1
    have e1:adL L l deeds=(L,[],(bmR l 0).2.2):=by
      unfold adL
      rw [if_neg (fun q=>q g),if_pos g1]
    rw [e1]
    exact ⟨f4P,hh4,none,0,rfl,nil _⟩
  have g1:(bmR l 0).2.2=0:=by simpa using g1
  have hw0:wrB l=0:=by
    refine Decidable.byContradiction fun q=>?_
    have e1:bmR l 0=([],0,wrB l):=if_pos q
    rw [e1] at g1
    exact q g1
  have hbsz:=szs_le l hd
  refine jnC_mk (loop_rule (fun s u=>Fr (fun _=>False) w1 u/\∃ i:Nat,i<=n/\s=(some ⟨lb,0,none⟩,(A,n,c),deeds,((szs (l.take i):Nat):Int),(A,n,c),(n:Int),(i:Int),())) (fun s _=>(n - s.2.2.2.2.2.2.1).toNat) ?_ _ _ ⟨f4,0,by omega,rfl⟩)
  rintro s u C ⟨fu,i,hi,rfl⟩ hC _
  have tk:∀ i,szs (l.take i)<=60000 * 65557:=fun i=>Nat.le_trans (szs_le _ (fun x hx=>hd x (List.mem_of_mem_take hx))) (Nat.mul_le_mul_right _ (by rw [List.length_take]; omega))
  refine vIf_mk (fun hlt=>?_) (fun hge=>?_)
  · have hlt:(i:Int) < (n:Int):=of_decide_eq_true hlt
    have gi:l[i]?=some (l[i]'(by omega)):=List.getElem?_eq_getElem (by omega)
    generalize l[i]'(by omega)=x at gi
    have h1:=tk i
    have h2:=tk (i+1)
    have e1:l.take (i+1)=l.take i ++ [x]:=take_snoc gi
    rw [e1,szs_snoc] at h2
    refine rs_all (hA.fr0 fu) gi (fun cs hx=>rcv_mk hx (fun b14 w16 f16 hb14 r14=>?_))
    obtain ⟨A0,n0,c0,rfl,x1,x2,x3,x4,x5,x6⟩:=hx
    refine ⟨_,rcC_len x4 _ _ _,rec_all r14,(bsize_calls x A0 n0 c0 w16 x4 x5 (f16.sl x1 (fun _ _ _ h=>h))).mono ?_⟩
    rintro e w18 ⟨rfl,f18⟩
    refine ⟨_,rfl,jnC_mk (hC _ _ ⟨(fu.trans1 f16).trans1 f18,i+1,by omega,?_⟩ ?_)⟩
    · show (_,(A,n,c),deeds,IntKind.wrap .i64 (((szs (l.take i):Nat):Int)+((szW x:Nat):Int)),(A,n,c),(n:Int),IntKind.wrap .i64 ((i:Int)+1),())=_
      rw [i64_id (n:=((szs (l.take i):Nat):Int)+((szW x:Nat):Int)) (by omega) (by omega),i64_id (by omega) (by omega),e1,szs_snoc]; rfl
    · show ((n:Int) - IntKind.wrap .i64 ((i:Int)+1)).toNat < ((n:Int) - (i:Int)).toNat
      rw [i64_id (by omega) (by omega)]; omega
  have hge:¬ (i:Int) < (n:Int):=of_decide_eq_false hge
  have eT:l.take i=l:=List.take_of_length_le (by omega)
  rw [eT]
  clear hC
  have hu:=h.fr0 fu
  have fuP:Fr P w1 u:=fu.mono (fun _ _ h=>h.elim)
  have hEu:=hE.up fu
  have hu0:=hu
  obtain ⟨B1,m1,k1,B2,m2,k2,vs,hu⟩:=hu
  refine dr_mk ⟨cfC L,rfl,hu.lg.cells (o:=1) (fun j v hj=>?_),(croom_calls (cfC L) L.sg u rfl rfl ⟨hsg,by have:=hB.sg; omega⟩).mono ?_⟩
  · match j,hj with
    | 0,hj=>exact hj
    | 1,hj=>exact hj
    | 2,hj=>exact hj
    | 3,hj=>exact hj
    | 4,hj=>exact hj
    | 5,hj=>exact hj
    | j+6,hj=>cases hj
  rintro e w24 ⟨rfl,f24⟩
  have f124:=fu.trans1 f24
  have f124P:Fr P w1 w24:=f124.mono (fun _ _ h=>h.elim)
  have h24:=hu0.fr0 f24
  refine ⟨_,rfl,vIf_mk (fun g2=>?_) (fun g2=>?_)⟩
  · have g2:((szs l:Nat):Int) > L.sg - 95:=of_decide_eq_true g2
    have e1:adL L l deeds=(L,[],18):=by
      unfold adL
      rw [if_neg (fun q=>q g),if_neg (fun q=>q g1),if_pos g2]
    rw [e1]
    exact ⟨f124P,h24,none,0,rfl,nil _⟩
  have g2:¬ ((szs l:Nat):Int) > L.sg - 95:=of_decide_eq_false g2
  have ead:adL L l deeds=(if (rmL L l.length (szs l)).2 ≠ 0 then ((rmL L l.length (szs l)).1,[],(rmL L l.length (szs l)).2)
    else if (aoL (rmL L l.length (szs l)).1 l deeds).bt<=((aoL (rmL L l.length (szs l)).1 l deeds).rs.length:Int) then
      (if (flL (aoL (rmL L l.length (szs l)).1 l deeds)).2 ≠ 0 then ((flL (aoL (rmL L l.length (szs l)).1 l deeds)).1,[],(flL (aoL (rmL L l.length (szs l)).1 l deeds)).2)
       else ((flL (aoL (rmL L l.length (szs l)).1 l deeds)).1,opW l (rmL L l.length (szs l)).1,0))
    else (aoL (rmL L l.length (szs l)).1 l deeds,opW l (rmL L l.length (szs l)).1,0)):=by
    unfold adL
    rw [if_neg (fun q=>q g),if_neg (fun q=>q g1),if_neg g2]
  rw [ead]
  have hM:=hM g g1 (by omega)
  refine (room_calls1 P W lb db r L N (n:Int) (szs l:Int) w24 h24 (hEu.up f24) hB hG (by omega) ⟨by omega,by omega⟩ ⟨by omega,by omega⟩).mono ?_
  rintro e w27 ⟨f27,rfl,h27⟩
  have f127:Fr P w1 w27:=f124P.trans1 (f27.mono (fun k _ hk=>hls k hk))
  have hE27:=hE.step f127
  have hG27:=rm_G (L:=L) (n:=(n:Int)) (size:=(szs l:Int)) hG
  rw [hl] at hM ⊢
  have rok:∀ R:Lg×Int,rmL L (n:Int) (szs l:Int)=R->True:=fun _ _=>trivial
  generalize hR:rmL L (n:Int) (szs l:Int)=R at hM h27 hG27 ⊢
  refine ⟨_,rfl,vIf_mk (fun g3=>?_) (fun g3=>?_)⟩
  · have g3:¬ R.2=0:=by simpa using g3
    rw [if_pos g3]
    exact ⟨f127,h27,none,0,rfl,nil _⟩
  have g3:R.2=0:=by simpa using g3
  rw [if_neg (fun q=>q g3)]
  have hM:=hM g3
  have hMz:=hM.tz
  have hMq:=hM.tq
  have hMt:=hM.ts
  refine (open_calls P OA lb db r R.1 A n c l w27 h27 (hA.fr f127 (fun k hk ho=>hOA k ho hk)) hOA (fun x hx=>((wrB_0 hw0).2 x hx).2) ⟨hMz.1,hMz.2⟩ hMq ⟨hMt.1,by have:R.1.ts<=1000000:=hMt.2; omega⟩).mono ?_
  rintro e w30 ⟨f30,h30,A32,c34,rfl,hW30⟩
  have f130:=f127.trans1 f30
  obtain ⟨B1,m1,k1,B2,m2,k2,vs,h30⟩:=h30
  have s27:=f127.size
  refine ⟨A32,_,c34,rfl,dr_mk ⟨_,h30.lg.cell (o:=0+14) rfl,dr_mk (h30.st (L':=aoL R.1 l deeds) rfl (by show 0+14+1<=16; omega) (fun v hv=>by simp at hv; subst hv; rfl) rfl rfl rfl (fun w40 f40 h40=>?_))⟩⟩
  have nLS:∀ k,w27.heap.size<=k->¬ LS lb db r k:=by rintro k hk (q | q | q) <;> omega
  have fd:Fr (fun _=>False) w40 w40.drew:=Fr.drew _ _
  have h41:=h40.fr0 fd
  have hW41:=(hW30.fr f40 nLS).fr fd (fun _ _ h=>h)
  have f141:Fr P w1 w40.drew:=(f130.trans1 (f40.mono (fun k _ hk=>hls k hk))).trans1 (fd.mono (fun _ _ h=>h.elim))
  have hE41:=hE.step f141
  have hlen:=h41.len
  have low:∀ {v:World} {A':Option Addr} {n' c':Nat} {ws:List Wo},Wr2 v w27.heap.size A' n' c' ws->Wr2 v w1.heap.size A' n' c' ws:=fun hh=>⟨row_low s27 hh.row,hh.len,hh.d⟩
  refine dr_mk ⟨_,_,_,h41.lg.cell (o:=0+12) rfl,dr_mk ⟨_,h41.lg.cell (o:=0+1+1) rfl,vIf_mk (fun g4=>?_) (fun g4=>?_)⟩⟩
  · have g4:(m1:Int) >= (aoL R.1 l deeds).bt:=of_decide_eq_true g4
    rw [if_pos (show (aoL R.1 l deeds).bt<=((aoL R.1 l deeds).rs.length:Int) by rw [hlen]; exact g4)]
    refine (flush_calls P W lb db r (aoL R.1 l deeds) (N+8) w40.drew ⟨_,_,_,_,_,_,_,h41⟩ hE41 hM hG27 (by omega)).mono ?_
    rintro e w49 ⟨f49,rfl,h49⟩
    have f149:=f141.trans1 (f49.mono (fun k _ hk=>hls k hk))
    refine ⟨_,rfl,vIf_mk (fun g5=>?_) (fun g5=>jnC_mk (fun _=>?_))⟩
    · have g5:¬ (flL (aoL R.1 l deeds)).2=0:=by simpa using g5
      rw [if_pos g5]
      exact ⟨f149,h49,none,0,rfl,nil _⟩
    · have g5:(flL (aoL R.1 l deeds)).2=0:=by simpa using g5
      rw [if_neg (fun q=>q g5)]
      exact ⟨f149,h49,A32,c34,rfl,low (hW41.fr f49 nLS)⟩
  · have g4:¬ (m1:Int) >= (aoL R.1 l deeds).bt:=of_decide_eq_false g4
    rw [if_neg (show ¬ (aoL R.1 l deeds).bt<=((aoL R.1 l deeds).rs.length:Int) by rw [hlen]; exact g4)]
    exact jnC_mk (fun _=>⟨f141,⟨_,_,_,_,_,_,_,h41⟩,A32,c34,rfl,low hW41⟩)
theorem digs_lt:∀ (k i j:Nat),i % 10 ^ k < j % 10 ^ k->compareBytes (Nm8.digs k i) (Nm8.digs k j) < 0
 | 0,i,j,h=>by simp [Nat.mod_one] at h
 | k+1,i,j,h=>by
  rw [Nat.mod_pow_succ,Nat.mod_pow_succ] at h
  rw [Nm8.digs_cons,Nm8.digs_cons]
  have hp:0 < 10 ^ k:=Nat.pow_pos (by omega)
  have h1:i % 10 ^ k < 10 ^ k:=Nat.mod_lt _ hp
  have h2:j % 10 ^ k < 10 ^ k:=Nat.mod_lt _ hp
  unfold compareBytes
  by_cases ha:Nm8.dg (i / 10 ^ k) < Nm8.dg (j / 10 ^ k)
  ·rw [if_pos ha]; decide
  ·rw [if_neg ha]
   rw [UInt8.lt_iff_toNat_lt,Nm8.dg_nat,Nm8.dg_nat] at ha
   have hle:j / 10 ^ k % 10<=i / 10 ^ k % 10:=by omega
   have heq:j / 10 ^ k % 10=i / 10 ^ k % 10:=by
    refine Nat.le_antisymm hle (Nat.le_of_not_lt (fun hlt=>?_))
    have:10 ^ k * (j / 10 ^ k % 10+1)<=10 ^ k * (i / 10 ^ k % 10):=Nat.mul_le_mul_left _ hlt
    rw [Nat.mul_add,Nat.mul_one] at this
    omega
   rw [if_neg (by rw [UInt8.lt_iff_toNat_lt,Nm8.dg_nat,Nm8.dg_nat]; omega)]
   rw [heq] at h
   exact digs_lt k i j (by omega)
theorem segN_eq {n:Nat} (h1:1<=n) (h2:n<=99999999):segN (n:Int)=Nm8.bs (Nm8.wl 1 ++ Nm8.digs 8 n):=by
 unfold segN
 rw [Nm8.fileL_good ⟨by omega,by omega,by omega,by omega⟩,Int.toNat_natCast]
theorem segN_lt {i j:Nat} (h1:1<=i) (h:i < j) (h2:j<=99999999):cmpN (segN (i:Int)) (segN (j:Int)) < 0:=by
 rw [segN_eq h1 (by omega),segN_eq (by omega) h2]
 unfold cmpN
 rw [Nm8.bs_list,Nm8.bs_list]
 rw [cmp_at 4 _ _ (by rw [List.take_left' (by rfl),List.take_left' (by rfl)]),List.drop_left' (by rfl),List.drop_left' (by rfl)]
 exact digs_lt 8 i j (by rw [Nat.mod_eq_of_lt (by omega),Nat.mod_eq_of_lt (by omega)]; exact h)
theorem digs_mem:∀ (k n:Nat) (b:UInt8),b ∈ Nm8.digs k n->48<=b.toNat/\b.toNat<=57
 | 0,_,b,h=>by cases h
 | k+1,n,b,h=>by
  rw [Nm8.digs_cons] at h
  rcases List.mem_cons.1 h with rfl | h
  ·rw [Nm8.dg_nat]; omega
  ·exact digs_mem k n b h
theorem segN_disk {n:Nat} (h1:1<=n) (h2:n<=99999999):DiskP (segN (n:Int)):=by
 rw [segN_eq h1 h2]
 have hs:(Nm8.bs (Nm8.wl 1 ++ Nm8.digs 8 n)).size=12:=by rw [Nm8.bs_size,List.length_append,Nm8.digs_len]; rfl
 refine ⟨fun i hi=>?_,by omega,by omega⟩
 rw [byteAt_eq hi]
 have hm:(Nm8.bs (Nm8.wl 1 ++ Nm8.digs 8 n))[i] ∈ Nm8.wl 1 ++ Nm8.digs 8 n:=by
  have:(Nm8.bs (Nm8.wl 1 ++ Nm8.digs 8 n))[i]=(Nm8.wl 1 ++ Nm8.digs 8 n)[i]'(by rw [Nm8.bs_size] at hi; exact hi):=rfl
  rw [this]; exact List.getElem_mem _
 rcases List.mem_append.1 hm with h | h
 ·have h:(Nm8.bs (Nm8.wl 1 ++ Nm8.digs 8 n))[i] ∈ ([115,101,103,45]:List UInt8):=h
  generalize (Nm8.bs (Nm8.wl 1 ++ Nm8.digs 8 n))[i]=b at h
  simp only [List.mem_cons,List.not_mem_nil,or_false] at h
  rcases h with rfl | rfl | rfl | rfl <;> decide
 ·have:=digs_mem _ _ _ h
  omega
def sgL (n:Nat):List Nm:=(List.range n).map fun k=>(segN ((k+1:Nat):Int),((k+1:Nat):Int))
def upI (n:Nat):List Int:=(List.range n).map fun k=>((k+1:Nat):Int)
theorem sgL_snoc (n:Nat):sgL (n+1)=sgL n ++ [(segN ((n+1:Nat):Int),((n+1:Nat):Int))]:=by unfold sgL; rw [List.range_succ,List.map_append]; rfl
theorem sgL_mem {n:Nat} {x:Nm}:x ∈ sgL n ↔ ∃ k:Nat,1<=k/\k<=n/\x=(segN (k:Int),(k:Int)):=by
 unfold sgL
 rw [List.mem_map]
 constructor
 ·rintro ⟨k,hk,rfl⟩
  rw [List.mem_range] at hk
  exact ⟨k+1,by omega,by omega,rfl⟩
 ·rintro ⟨k,h1,h2,rfl⟩
  exact ⟨k - 1,List.mem_range.2 (by omega),by rw [show k - 1+1=k by omega]⟩
theorem upI_mem {n:Nat} {x:Int}:x ∈ upI n ↔ 1<=x/\x<=(n:Int):=by
 unfold upI
 rw [List.mem_map]
 constructor
 ·rintro ⟨k,hk,rfl⟩
  rw [List.mem_range] at hk
  omega
 ·rintro ⟨h1,h2⟩
  exact ⟨(x - 1).toNat,List.mem_range.2 (by omega),by omega⟩
theorem upI_len (n:Nat):(upI n).length=n:=by unfold upI; rw [List.length_map,List.length_range]
theorem sgL_asc:∀ {n:Nat},n<=99999999->AscN (sgL n)
 | 0,_=>List.Pairwise.nil
 | n+1,h=>by
  rw [sgL_snoc]
  refine List.pairwise_append.2 ⟨sgL_asc (by omega),List.pairwise_singleton _ _,fun x hx y hy=>?_⟩
  obtain ⟨k,h1,h2,rfl⟩:=sgL_mem.1 hx
  rw [List.mem_singleton] at hy
  subst hy
  exact segN_lt h1 (by omega) h
theorem upI_asc:∀ n:Nat,AscI (upI n)
 | 0=>List.Pairwise.nil
 | n+1=>by
  have e:upI (n+1)=upI n ++ [((n+1:Nat):Int)]:=by unfold upI; rw [List.range_succ,List.map_append]; rfl
  rw [e]
  refine List.pairwise_append.2 ⟨upI_asc n,List.pairwise_singleton _ _,fun x hx y hy=>?_⟩
  have:=upI_mem.1 hx
  rw [List.mem_singleton] at hy
  subst hy
  omega
theorem sgL_find {n k:Nat} (h1:1<=k) (h2:k<=n) (hn:n<=99999999):findN (segN (k:Int)) (sgL n)=some (k:Int):=by
 induction n with
 | zero=>omega
 | succ n ih =>
  rw [sgL_snoc,findN_app]
  by_cases hk:k<=n
  ·rw [ih hk (by omega)]; rfl
  ·obtain rfl:k=n+1:=by omega
   rw [findN_none (fun x hx=>?_)]
   ·show (findN _ [_])=_
    unfold findN
    rw [if_pos rfl]
   ·obtain ⟨j,j1,j2,rfl⟩:=sgL_mem.1 hx
    exact cmp_ne (segN_lt j1 (by omega) hn)
theorem sgL_no {n:Nat} (hn:n+1<=99999999):findN (segN ((n+1:Nat):Int)) (sgL n)=none:=findN_none (fun x hx=>by
 obtain ⟨j,j1,j2,rfl⟩:=sgL_mem.1 hx
 exact cmp_ne (segN_lt j1 (by omega) hn))
theorem sgL_put {n:Nat} (hn:n+1<=99999999):putN (segN ((n+1:Nat):Int),((n+1:Nat):Int)) (sgL n)=sgL (n+1):=by
 have h:=putN_app (x:=(segN ((n+1:Nat):Int),((n+1:Nat):Int))) (U:=sgL n) [] (fun z hz=>by
  obtain ⟨j,j1,j2,rfl⟩:=sgL_mem.1 hz
  exact segN_lt j1 (by omega) hn)
 rw [List.append_nil] at h
 rw [h,sgL_snoc]; rfl
theorem ascI_ext:∀ {a b:List Int},AscI a->AscI b->(∀ x,x ∈ a ↔ x ∈ b)->a=b
 | [],[],_,_,_=>rfl
 | [],y :: b,_,_,h=>by have:=(h y).2 List.mem_cons_self; cases this
 | x :: a,[],_,_,h=>by have:=(h x).1 List.mem_cons_self; cases this
 | x :: a,y :: b,ha,hb,h=>by
  obtain ⟨a1,a2⟩:=List.pairwise_cons.1 ha
  obtain ⟨b1,b2⟩:=List.pairwise_cons.1 hb
  have hxy:x=y:=by
   rcases List.mem_cons.1 ((h x).1 List.mem_cons_self) with e | e
   ·exact e
   ·rcases List.mem_cons.1 ((h y).2 List.mem_cons_self) with e2 | e2
    ·exact e2.symm
    ·have:=b1 x e
     have:=a1 y e2
     omega
  subst hxy
  congr 1
  refine ascI_ext a2 b2 (fun z=>⟨fun hz=>?_,fun hz=>?_⟩)
  ·rcases List.mem_cons.1 ((h z).1 (List.mem_cons_of_mem _ hz)) with e | e
   ·have:=a1 z hz; omega
   ·exact e
  ·rcases List.mem_cons.1 ((h z).2 (List.mem_cons_of_mem _ hz)) with e | e
   ·have:=b1 z hz; omega
   ·exact e
def fo0 (n:Nat):Fo:=⟨sgL n,[]⟩
def crC (n:Nat):Ch:=⟨1,segN ((n+1:Nat):Int),⟨#[]⟩,((n+1:Nat):Int)⟩
def fo1 (n:Nat):Fo:=⟨sgL n,[crC n]⟩
theorem now_0 {n:Nat} (hn:n<=99999999):nowF (fo0 n)=sgL n:=by
 rw [nowF_at]
 show lastN (sgL n)=_
 exact lastN_id (sgL_asc hn)
theorem now_1 {n:Nat} (hn:n+1<=99999999):nowF (fo1 n)=sgL (n+1):=by
 rw [nowF_at]
 show stepN (lastN (sgL n)) (crC n)=_
 rw [lastN_id (sgL_asc (by omega))]
 unfold stepN
 rw [if_pos (show (crC n).k=1 from rfl)]
 exact sgL_put hn
theorem ids_0 {n:Nat} (hn:n<=99999999):idsF (fo0 n)=upI n:=by
 refine ascI_ext (ids_asc _) (upI_asc n) (fun x=>?_)
 rw [show (fo0 n)=⟨sgL n,[]⟩ from rfl,ids_one,lastN_id (sgL_asc hn),upI_mem]
 constructor
 ·rintro ⟨nm,h⟩
  obtain ⟨k,h1,h2,e⟩:=sgL_mem.1 h
  cases e; omega
 ·rintro ⟨h1,h2⟩
  exact ⟨segN x,sgL_mem.2 ⟨x.toNat,by omega,by omega,by rw [show ((x.toNat:Nat):Int)=x by omega]⟩⟩
theorem ids_1 {n:Nat} (hn:n+1<=99999999):idsF (fo1 n)=upI (n+1):=by
 refine ascI_ext (ids_asc _) (upI_asc _) (fun x=>?_)
 rw [show (fo1 n)=⟨sgL n,[] ++ [crC n]⟩ from rfl,ids_snoc,show (⟨sgL n,[]⟩:Fo)=fo0 n from rfl,ids_0 (by omega),now_0 (by omega),upI_mem,upI_mem]
 have e:stepN (sgL n) (crC n)=sgL (n+1):=by
  unfold stepN
  rw [if_pos (show (crC n).k=1 from rfl)]
  exact sgL_put hn
 rw [e]
 constructor
 ·rintro (h | ⟨nm,h⟩)
  ·omega
  ·obtain ⟨k,h1,h2,e⟩:=sgL_mem.1 h
   cases e; omega
 ·rintro ⟨h1,h2⟩
  exact .inr ⟨segN x,sgL_mem.2 ⟨x.toNat,by omega,by omega,by rw [show ((x.toNat:Nat):Int)=x by omega]⟩⟩
structure LD (d:Dk) (F:Fo) (m:Nat) (g:Nat->Ino):Prop where
 fo:d.F=F
 ids:idsF F=upI m
 now:nowF F=sgL m
 f:∀ k:Nat,1<=k->k<=m->d.f (k:Int)=g k
 last:d.last=(m:Int)
 down:d.down=false
 le:m<=99999999
def tick (d:Dk):Dk:={ d with fu:=d.fu.map (· - 1),calls:=d.calls+1 }
theorem LD.tick {d:Dk} {F:Fo} {m:Nat} {g:Nat->Ino} (h:LD d F m g):LD (tick d) F m g:=⟨h.fo,h.ids,h.now,h.f,h.last,h.down,h.le⟩
theorem pow_go {d:Dk} (h:offD d=false) (call:Dk->Dk×Int):powD d call=call (tick d):=if_neg (by rw [h]; simp)
def updG (g:Nat->Ino) (k:Nat) (x:Ino):Nat->Ino:=fun j=>if j=k then x else g j
theorem sum_le (f:Int->Int) (R:Int):∀ l:List Int,(∀ x ∈ l,f x<=R)->(l.map f).sum<=(l.length:Int) * R
 | [],_=>by simp
 | x :: l,h=>by
  have h1:=h x List.mem_cons_self
  have h2:=sum_le f R l (fun y hy=>h y (List.mem_cons_of_mem _ hy))
  rw [List.map_cons,List.sum_cons,List.length_cons,show ((l.length+1:Nat):Int)=(l.length:Int)+1 by omega,Int.add_mul,Int.one_mul]
  omega
theorem LD.file {d:Dk} {F:Fo} {m:Nat} {g:Nat->Ino} (h:LD d F m g) {k:Nat} (h1:1<=k) (h2:k<=m) {fn:Ino->Ino×Int} (h0:(fn (g k)).2=0) {R:Int} (hR:∀ j,1<=j->j<=m->roomI (updG g k (fn (g k)).1 j)<=R) (hlb:(m:Int) * R<=d.lb) :
  (fileD d (segN (k:Int)) fn).2=0/\LD (fileD d (segN (k:Int)) fn).1 F m (updG g k (fn (g k)).1)/\(fileD d (segN (k:Int)) fn).1.fu=d.fu/\(fileD d (segN (k:Int)) fn).1.lb=d.lb/\(fileD d (segN (k:Int)) fn).1.lf=d.lf:=by
 have hf:findN (segN (k:Int)) (nowF d.F)=some (k:Int):=by rw [h.fo,h.now,sgL_find h1 h2 h.le]
 have hg:=h.f k h1 h2
 have ht:takenF d.F (updF d.f (k:Int) (fn (d.f (k:Int))).1)<=d.lb:=by
  unfold takenF
  rw [h.fo,h.ids]
  refine Int.le_trans (sum_le _ R _ (fun x hx=>?_)) (by rw [upI_len]; exact hlb)
  have hx:=upI_mem.1 hx
  obtain ⟨j,rfl⟩:∃ j:Nat,x=(j:Int):=⟨x.toNat,by omega⟩
  have:=hR j (by omega) (by omega)
  unfold updG at this
  unfold updF
  by_cases e:j=k
  ·subst e
   rw [if_pos rfl] at this ⊢
   rw [hg]; exact this
  ·rw [if_neg e] at this
   rw [if_neg (by omega),h.f j (by omega) (by omega)]; exact this
 have e:fileD d (segN (k:Int)) fn=({ d with f:=updF d.f (k:Int) (fn (g k)).1 },0):=by
  have:=file_ok (d:=d) (s:=segN (k:Int)) (id:=(k:Int)) (g:=fn) hf (by rw [hg]; exact h0) (fun q=>by omega)
  rw [this,hg]
 rw [e]
 refine ⟨rfl,⟨h.fo,h.ids,h.now,fun j j1 j2=>?_,h.last,h.down,h.le⟩,rfl,rfl,rfl⟩
 show updF d.f (k:Int) _ (j:Int)=updG g k _ j
 unfold updF updG
 by_cases e:j=k
 ·subst e; rw [if_pos rfl,if_pos rfl]
 ·rw [if_neg (by omega),if_neg e,h.f j j1 j2]
theorem LD.cr {d:Dk} {n:Nat} {g:Nat->Ino} (h:LD d (fo0 n) n g) (hn:n+1<=99999999) (hlf:(n:Int) < d.lf) (hz:d.f ((n+1:Nat):Int)=zI) :
  (crD d (segN ((n+1:Nat):Int))).2=0/\LD (crD d (segN ((n+1:Nat):Int))).1 (fo1 n) (n+1) (updG g (n+1) zI)/\(crD d (segN ((n+1:Nat):Int))).1.fu=d.fu/\(crD d (segN ((n+1:Nat):Int))).1.lb=d.lb/\(crD d (segN ((n+1:Nat):Int))).1.lf=d.lf:=by
 have el:d.last+1=((n+1:Nat):Int):=by rw [h.last]; rfl
 have hw:wrongF d.F ⟨1,segN ((n+1:Nat):Int),⟨#[]⟩,d.last+1⟩=0:=by
  unfold wrongF
  rw [if_pos rfl,if_neg (not_not_intro (segN_disk (by omega) hn)),h.fo,h.now,sgL_no hn]; rfl
 have hd:doF d.F ⟨1,segN ((n+1:Nat):Int),⟨#[]⟩,d.last+1⟩=fo1 n:=by
  unfold doF
  rw [if_pos hw,h.fo,el]; rfl
 have e:crD d (segN ((n+1:Nat):Int))=({ d with F:=fo1 n,f:=trim (fo1 n) d.f,last:=((n+1:Nat):Int) },0):=by
  unfold crD
  rw [if_neg (by rw [h.fo,h.ids,upI_len]; omega),if_pos hw]
  unfold chD
  rw [hd,el]
 rw [e]
 refine ⟨rfl,⟨rfl,ids_1 hn,now_1 hn,fun j j1 j2=>?_,rfl,h.down,hn⟩,rfl,rfl,rfl⟩
 show trim (fo1 n) d.f (j:Int)=updG g (n+1) zI j
 rw [trim_in (by rw [ids_1 hn]; exact upI_mem.2 ⟨by omega,by omega⟩)]
 unfold updG
 by_cases e:j=n+1
 ·subst e; rw [if_pos rfl]; exact hz
 ·rw [if_neg e,h.f j j1 (by omega)]
theorem LD.sd {d:Dk} {F:Fo} {m:Nat} {g:Nat->Ino} (h:LD d F m g):(sdD d).2=0/\LD (sdD d).1 (fo0 m) m g/\(sdD d).1.fu=d.fu/\(sdD d).1.lb=d.lb/\(sdD d).1.lf=d.lf:=by
 have e:sdD d=({ d with F:=fo0 m,f:=trim (fo0 m) d.f },0):=by
  unfold sdD
  have:(⟨nowF d.F,[]⟩:Fo)=fo0 m:=by rw [h.fo,h.now]; rfl
  rw [this]
 rw [e]
 refine ⟨rfl,⟨rfl,ids_0 h.le,now_0 h.le,fun j j1 j2=>?_,h.last,h.down,h.le⟩,rfl,rfl,rfl⟩
 show trim (fo0 m) d.f (j:Int)=g j
 rw [trim_in (by rw [ids_0 h.le]; exact upI_mem.2 ⟨by omega,by omega⟩),h.f j j1 j2]
def tlC (ts tz tr:Int) (sl:Bool) (tq:Nat):List Value:=[.int .i64 ts,.int .i64 tz,.int .i64 tr,.bool sl,.int .u64 (tq:Nat)]
def newL (d:Dk) (sg bt c3 c4 c5:Int) (c6:Value) (ts tz tr:Int) (sl:Bool) (tq:Nat):Lg:=⟨d,sg,bt,c3,c4,c5,c6,ts,tz,tr,sl,tq,[],0,0⟩
theorem lnew_calls (P:Nat->Prop) (db r:Nat) (d:Dk) (sg bt c3 c4 c5:Int) (c6:Value) (ts tz tr:Int) (sl:Bool) (tq:Nat) (w:World) (hd:DkO P w db r d) (hn:∀ k,w.heap.size<=k->P k) (hp:P db/\P r) (h6:c6.oneCell'=true) :
  Calls Tryz.prog 15 #[.pointer (some ⟨db,0,none⟩),ofL [.int .i64 sg,.int .i64 bt,.int .i64 c3,.int .i64 c4,.int .i64 c5,c6],ofL (tlC ts tz tr sl tq)] w fun e w'=>Fr (fun _=>False) w w'/\∃ lb,e=.returned (.pointer (some ⟨lb,0,none⟩))/\w.heap.size<=lb/\LgAt P w' lb db r (newL d sg bt c3 c4 c5 c6 ts tz tr sl tq):=by
 refine (F15.of (some ⟨db,0,none⟩) _ _ w (Q:=fun v w'=>Fr (fun _=>False) w w'/\∃ lb,v=.pointer (some ⟨lb,0,none⟩)/\w.heap.size<=lb/\LgAt P w' lb db r (newL d sg bt c3 c4 c5 c6 ts tz tr sl tq)) ?_).mono (fun e w' ⟨v,he,hf,lb,hv,h⟩=>⟨hf,lb,by rw [he,hv],h⟩)
 refine rec_new (fun b1 w2 f2 hb1 r1=>rec_new (fun b3 w4 f4 hb3 r3=>⟨_,rfl,rec_all (r1.fr f4 (fun h=>h)),_,rfl,rec_all r3,gd_mk rfl (gd_mk rfl (rec_new (fun b7 w8 f8 hb7 r7=>?_)))⟩))
 have f:=(f2.trans1 f4).trans1 f8
 have s2:=f2.size
 have s4:=f4.size
 have hs:=f.size
 have hlt:=@DkAt.lt ⟨P⟩ _ _ _ _ hd
 have l7:=r7.lt
 have hb:w.heap.size<=b7:=by omega
 refine ⟨f,b7,rfl,hb,none,0,0,none,0,0,[],r7,h6,Row.nil _ _ _ _,Ech.nil,rfl,Row.nil _ _ _ _,?_,fun k hk=>hn k (by omega),hn b7 hb,hp,⟨by omega,by omega⟩,fun k hk=>(by cases hk),fun k hk=>(by cases hk)⟩
 exact hd.go f (fun h=>h) (fun h=>h) (fun _ h=>h.elim) (fun k hk q=>⟨q,by omega,fun e=>(by cases e),fun e=>(by cases e)⟩) (fun k hk=>⟨hn k (by omega),by omega,fun e=>(by cases e),fun e=>(by cases e)⟩)
theorem app1 {C b:Bs} (h:C.length+b.length<=1048576) (hb:b ≠ []):appI ⟨C,[]⟩ b=(⟨C,[⟨false,(C.length:Int),b⟩]⟩,0):=by
 have e:nowI ⟨C,[]⟩=C:=rfl
 unfold appI
 rw [e,if_neg (by omega),if_neg hb]
 rfl
theorem right1 {C b:Bs} (h:C.length+b.length<=1048576):rightW ⟨false,(C.length:Int),b⟩=true:=right_iff.2 ⟨by show (0:Int)<=(C.length:Int); omega,by show (C.length:Int)<=1048576 - (b.length:Int); omega⟩
theorem over1 (C b:Bs):over C C.length b=C ++ b:=by
 unfold over
 rw [Nat.sub_self,List.replicate_zero,List.append_nil,List.take_length,List.drop_of_length_le (by omega),List.append_nil]
theorem apply1 {C b:Bs} (h:C.length+b.length<=1048576) (hb:b ≠ []):applyW C ⟨false,(C.length:Int),b⟩=C ++ b:=by
 unfold applyW
 rw [if_neg (fun q=>q.elim (fun q=>by rw [right1 h] at q; cases q) (fun q=>hb q.2)),if_neg (by show ¬ false=true; simp)]
 show over C ((C.length:Int)).toNat b=_
 rw [Int.toNat_natCast,over1]
theorem sync1 {C b:Bs} (h:C.length+b.length<=1048576) (hb:b ≠ []):syncI ⟨C,[⟨false,(C.length:Int),b⟩]⟩=⟨C ++ b,[]⟩:=by
 unfold syncI nowI allW
 show (⟨applyW C ⟨false,(C.length:Int),b⟩,[]⟩:Ino)=_
 rw [apply1 h hb]
theorem room1 {C b:Bs} (h:C.length+b.length<=1048576) (hb:b ≠ []):roomI ⟨C,[⟨false,(C.length:Int),b⟩]⟩=((C.length+b.length:Nat):Int):=by
 show endW (C.length:Int) ⟨false,(C.length:Int),b⟩=_
 have hl:0 < b.length:=List.length_pos_iff.2 hb
 rw [endW_pos ⟨right1 h,rfl,hb⟩]
 show (if (C.length:Int) < (C.length:Int)+(b.length:Int) then (C.length:Int)+(b.length:Int) else (C.length:Int))=_
 rw [if_pos (by omega)]; omega
theorem room0 (C:Bs):roomI ⟨C,[]⟩=(C.length:Int):=rfl
theorem zI_eq:zI=⟨[],[]⟩:=rfl
def okG (C:Nat->Bs):Nat->Ino:=fun k=>⟨C k,[]⟩
def updC (C:Nat->Bs) (k:Nat) (b:Bs):Nat->Bs:=fun j=>if j=k then b else C j
theorem upd_ok (C:Nat->Bs) (k:Nat) (b:Bs):updG (okG C) k ⟨b,[]⟩=okG (updC C k b):=by
 funext j
 unfold updG okG updC
 split <;> rfl
theorem upd_upd (g:Nat->Ino) (k:Nat) (x y:Ino):updG (updG g k x) k y=updG g k y:=by
 funext j
 unfold updG
 split <;> rfl
theorem upd_at (g:Nat->Ino) (k:Nat) (x:Ino):updG g k x k=x:=if_pos rfl
structure LS0 (d:Dk) (n:Nat) (C:Nat->Bs) (lb lf:Int):Prop where
 ld:LD d (fo0 n) n (okG C)
 fu:d.fu=none
 lb:d.lb=lb
 lf:d.lf=lf
 i:DkI d
theorem off_no {d:Dk} (h1:d.down=false) (h2:d.fu=none):offD d=false:=by unfold offD; rw [h1,h2]; rfl
theorem tick_fu {d:Dk} (h:d.fu=none):(tick d).fu=none:=by show d.fu.map _=none; rw [h]; rfl
theorem nx_ok {d:Dk} {n:Nat} {C:Nat->Bs} {lb lf R:Int} {b:Bs} (h:LS0 d n C lb lf) (hn:n+1<=99999999) (hlf:(n:Int) < lf) (hl:b.length<=1048576) (hb:b ≠ []) (hR:∀ j,1<=j->j<=n+1->((updC C (n+1) b j).length:Int)<=R) (hlb:((n+1:Nat):Int) * R<=lb) :
  (stp [opC (segN ((n+1:Nat):Int)),opA (segN ((n+1:Nat):Int)) b,opS (segN ((n+1:Nat):Int)),opD] d).2=0/\LD (stp [opC (segN ((n+1:Nat):Int)),opA (segN ((n+1:Nat):Int)) b,opS (segN ((n+1:Nat):Int)),opD] d).1 (fo0 (n+1)) (n+1) (okG (updC C (n+1) b))/\(stp [opC (segN ((n+1:Nat):Int)),opA (segN ((n+1:Nat):Int)) b,opS (segN ((n+1:Nat):Int)),opD] d).1.fu=none/\(stp [opC (segN ((n+1:Nat):Int)),opA (segN ((n+1:Nat):Int)) b,opS (segN ((n+1:Nat):Int)),opD] d).1.lb=lb/\(stp [opC (segN ((n+1:Nat):Int)),opA (segN ((n+1:Nat):Int)) b,opS (segN ((n+1:Nat):Int)),opD] d).1.lf=lf:=by
 have key:∀ x:Ino,roomI x<=(b.length:Int)->∀ j,1<=j->j<=n+1->roomI (updG (okG C) (n+1) x j)<=R:=by
  intro x hx j j1 j2
  have:=hR j j1 j2
  unfold updC at this
  unfold updG okG
  by_cases e:j=n+1
  ·rw [if_pos e] at this ⊢
   exact Int.le_trans hx this
  ·rw [if_neg e] at this ⊢
   exact this
 have hz:(tick d).f ((n+1:Nat):Int)=zI:=by
  refine h.i.out _ (fun hm=>?_)
  rw [h.ld.fo,h.ld.ids,upI_mem] at hm
  omega
 have a:=h.ld.tick.cr hn (by show (n:Int) < d.lf; rw [h.lf]; exact hlf) hz
 have e1:opC (segN ((n+1:Nat):Int)) d=crD (tick d) (segN ((n+1:Nat):Int)):=pow_go (off_no h.ld.down h.fu) _
 obtain ⟨a1,a2,a3,a4,a5⟩:=a
 have hst:stp [opC (segN ((n+1:Nat):Int)),opA (segN ((n+1:Nat):Int)) b,opS (segN ((n+1:Nat):Int)),opD] d=stp [opA (segN ((n+1:Nat):Int)) b,opS (segN ((n+1:Nat):Int)),opD] (crD (tick d) (segN ((n+1:Nat):Int))).1:=by
  show (if (opC (segN ((n+1:Nat):Int)) d).2=0 then stp [opA (segN ((n+1:Nat):Int)) b,opS (segN ((n+1:Nat):Int)),opD] (opC (segN ((n+1:Nat):Int)) d).1 else opC (segN ((n+1:Nat):Int)) d)=_
  rw [e1,if_pos a1]
 rw [hst]
 generalize (crD (tick d) (segN ((n+1:Nat):Int))).1=d1 at a2 a3 a4 a5
 have f1:d1.fu=none:=a3.trans (tick_fu h.fu)
 have l1:d1.lb=lb:=a4.trans h.lb
 have m1:d1.lf=lf:=a5.trans h.lf
 have hx:=app1 (C:=[]) (b:=b) (by show 0+b.length<=_; omega) hb
 have hl0:([]:Bs).length+b.length<=1048576:=by show 0+b.length<=_; omega
 have p:=a2.tick.file (k:=n+1) (by omega) (Nat.le_refl _) (fn:=fun x=>appI x b) (by rw [upd_at,zI_eq,hx]) (R:=R) (by
  rw [upd_at,zI_eq,hx,upd_upd]
  exact key _ (by rw [room1 hl0 hb]; show ((0+b.length:Nat):Int)<=_; omega)) (by show _<=d1.lb; rw [l1]; exact hlb)
 have e2:opA (segN ((n+1:Nat):Int)) b d1=fileD (tick d1) (segN ((n+1:Nat):Int)) (fun x=>appI x b):=pow_go (off_no a2.down f1) _
 obtain ⟨p1,p2,p3,p4,p5⟩:=p
 rw [upd_at,zI_eq,hx,upd_upd] at p2
 have hst:stp [opA (segN ((n+1:Nat):Int)) b,opS (segN ((n+1:Nat):Int)),opD] d1=stp [opS (segN ((n+1:Nat):Int)),opD] (fileD (tick d1) (segN ((n+1:Nat):Int)) (fun x=>appI x b)).1:=by
  show (if (opA (segN ((n+1:Nat):Int)) b d1).2=0 then stp [opS (segN ((n+1:Nat):Int)),opD] (opA (segN ((n+1:Nat):Int)) b d1).1 else opA (segN ((n+1:Nat):Int)) b d1)=_
  rw [e2,if_pos p1]
 rw [hst]
 generalize (fileD (tick d1) (segN ((n+1:Nat):Int)) (fun x=>appI x b)).1=d2 at p2 p3 p4 p5
 have f2:d2.fu=none:=p3.trans (tick_fu f1)
 have l2:d2.lb=lb:=p4.trans l1
 have m2:d2.lf=lf:=p5.trans m1
 have sy:=sync1 (C:=[]) hl0 hb
 rw [List.nil_append] at sy
 have q:=p2.tick.file (k:=n+1) (by omega) (Nat.le_refl _) (fn:=fun x=>(syncI x,0)) rfl (R:=R) (by
  rw [upd_at,sy,upd_upd]
  exact key _ (by rw [room0]; omega)) (by show _<=d2.lb; rw [l2]; exact hlb)
 have e3:opS (segN ((n+1:Nat):Int)) d2=fileD (tick d2) (segN ((n+1:Nat):Int)) (fun x=>(syncI x,0)):=pow_go (off_no p2.down f2) _
 obtain ⟨q1,q2,q3,q4,q5⟩:=q
 rw [upd_at,sy,upd_upd,upd_ok] at q2
 have hst:stp [opS (segN ((n+1:Nat):Int)),opD] d2=stp [opD] (fileD (tick d2) (segN ((n+1:Nat):Int)) (fun x=>(syncI x,0))).1:=by
  show (if (opS (segN ((n+1:Nat):Int)) d2).2=0 then stp [opD] (opS (segN ((n+1:Nat):Int)) d2).1 else opS (segN ((n+1:Nat):Int)) d2)=_
  rw [e3,if_pos q1]
 rw [hst]
 generalize (fileD (tick d2) (segN ((n+1:Nat):Int)) (fun x=>(syncI x,0))).1=d3 at q2 q3 q4 q5
 have f3:d3.fu=none:=q3.trans (tick_fu f2)
 obtain ⟨s1,s2,s3,s4,s5⟩:=q2.tick.sd
 have e4:opD d3=sdD (tick d3):=pow_go (off_no q2.down f3) _
 have hst:stp [opD] d3=((sdD (tick d3)).1,0):=by
  show (if (opD d3).2=0 then stp [] (opD d3).1 else opD d3)=_
  rw [e4,if_pos s1]; rfl
 rw [hst]
 exact ⟨rfl,s2,s3.trans (tick_fu f3),s4.trans (q4.trans l2),s5.trans (q5.trans m2)⟩
theorem new_LS (lb lf:Int):LS0 (newD lb lf) 0 (fun _=>[]) lb lf:=⟨⟨rfl,by rw [ids_0 (by omega)],by rw [now_0 (by omega)],fun k h1 h2=>by omega,rfl,rfl,by omega⟩,rfl,rfl,rfl,new_I _ _⟩
theorem ad_first {L:Lg} {lb lf:Int} {x:Rc} (hB:LgB L) (hL:LS0 L.d 0 (fun _=>[]) lb lf) (e0:L.e=0) (e1:L.rs=[]) (e2:L.ts=0) (e3:L.bt > 1) (hlf:0 < lf) (hlb:37<=lb) (hk:1<=x.k/\x.k<=5) (hr:rgR x=0) (hz:((mkW x).length:Int)<=L.sg - 95) (hq:L.tq=0) :
  ∃ d1,LS0 d1 1 (updC (fun _=>[]) 1 (mkW (hdR 1 0))) lb lf/\(rmL L 1 (szs [x]:Nat)).2=0/\(rmL L 1 (szs [x]:Nat)).1={ L with d:=d1,ts:=1,tz:=37,tr:=0,sl:=false,tq:=1 } /\
   ∀ m,adL L [x] m=(aoL { L with d:=d1,ts:=1,tz:=37,tr:=0,sl:=false,tq:=1 } [x] m,opW [x] { L with d:=d1,ts:=1,tz:=37,tr:=0,sl:=false,tq:=1 },0):=by
 have f1:flL L=(L,0):=by
  unfold flL
  rw [if_neg (fun q=>q e0),if_pos e1]
 have s1:slL L=(L,0):=by
  unfold slL
  rw [f1]
  rw [if_neg (fun q=>q rfl),if_pos (.inl e2)]
 have et:L.ts+1=((0+1:Nat):Int):=by rw [e2]; rfl
 have hn:=nx_ok (n:=0) (R:=37) (b:=mkW (hdR 1 0)) hL (by omega) (by omega) (by rw [hd_len]; omega) (fun q=>by have:=hd_len 1 0; rw [q] at this; cases this) (fun j j1 j2=>by
  unfold updC
  split
  ·rw [hd_len]; omega
  ·show ((0:Nat):Int)<=37; omega) (by show (1:Int) * 37<=lb; omega)
 have no:nxO L=stp [opC (segN ((0+1:Nat):Int)),opA (segN ((0+1:Nat):Int)) (mkW (hdR 1 0)),opS (segN ((0+1:Nat):Int)),opD] L.d:=by
  unfold nxO
  rw [et,hq]; rfl
 rw [<- no] at hn
 obtain ⟨n1,n2,n3,n4,n5⟩:=hn
 have nx:nxL L=({ L with d:=(nxO L).1,ts:=1,tz:=37,tr:=0,sl:=false,tq:=1 },0):=by
  unfold nxL
  rw [s1]
  rw [if_neg (fun q=>q rfl),if_neg (fun q=>q n1)]
  show (({ L with d:=(nxO L).1,e:=(nxO L).2,ts:=L.ts+1,tz:=37,tr:=0,sl:=false,tq:=L.tq+1 }:Lg),(0:Int))=_
  rw [n1,e2,hq]
  cases L
  cases e0
  rfl
 have hi:DkI (nxO L).1:=by
  rw [no]
  have I0:DkI L.d:=hL.i
  have hlast:=hL.ld.last
  have g:∀ (ops:List (Dk->Dk×Int)) (d:Dk),(∀ f ∈ ops,∀ d,DkI d->0<=d.last->DkI (f d).1/\0<=(f d).1.last)->DkI d->0<=d.last->DkI (stp ops d).1:=by
   intro ops
   induction ops with
   | nil=>intro d _ h _; exact h
   | cons f r ih =>
    intro d hf h h0
    have:=hf f List.mem_cons_self d h h0
    unfold stp
    split
    ·exact ih _ (fun g hg=>hf g (List.mem_cons_of_mem _ hg)) this.1 this.2
    ·exact this.1
  refine g _ _ (fun f hf d hd h0=>?_) I0 (by rw [hlast]; omega)
  simp only [List.mem_cons,List.not_mem_nil,or_false] at hf
  rcases hf with rfl | rfl | rfl | rfl
  ·have:=do_I hd h0 ⟨1,segN ((0+1:Nat):Int),⟨#[]⟩,[],0⟩
   rw [doD1] at this
   exact this
  ·have:=do_I hd h0 ⟨2,segN ((0+1:Nat):Int),⟨#[]⟩,mkW (hdR 1 0),0⟩
   rw [doD2] at this
   exact this
  ·have:=do_I hd h0 ⟨4,segN ((0+1:Nat):Int),⟨#[]⟩,[],0⟩
   rw [doD4] at this
   exact this
  ·have:=do_I hd h0 ⟨7,⟨#[]⟩,⟨#[]⟩,[],0⟩
   rw [doD7] at this
   exact this
 have sz:szs [x]=(mkW x).length:=by
  show szW x+0=_
  unfold szW
  rw [if_pos hr]; rfl
 have rm:rmL L 1 (szs [x]:Nat)=nxL L:=if_pos (.inl e2)
 refine ⟨(nxO L).1,⟨n2,n3,n4,n5,hi⟩,by rw [rm,nx],by rw [rm,nx],fun m=>?_⟩
 have hb:(bmR [x] 0).2.2=0:=by
  have hw:wrB [x]=0:=wrB_of (by simp) (fun y hy=>by simp at hy; subst hy; exact ⟨hk,hr⟩)
  unfold bmR
  rw [if_neg (fun q=>q hw),if_neg (by show ¬ 1 >= 18446744073709551615 - 0; omega)]
 unfold adL
 rw [if_neg (fun q=>q e0),if_neg (fun q=>q hb),if_neg (by rw [sz]; omega)]
 have rm:rmL L (([x]:List Rc).length:Nat) (szs [x]:Nat)=nxL L:=if_pos (.inl e2)
 rw [rm,nx]
 rw [if_neg (fun q=>q rfl)]
 have hlen:((aoL { L with d:=(nxO L).1,ts:=1,tz:=37,tr:=0,sl:=false,tq:=1 } [x] m).rs.length:Int)=1:=by
  show (((L.rs ++ nmR [x] (1+L.rs.length)).length:Nat):Int)=1
  rw [e1]; rfl
 rw [if_neg (by rw [hlen]; show ¬ L.bt<=1; omega)]
def z7:List UInt8:=7 :: List.replicate 31 0
def x7:Rc:=⟨5,0,z7,[],[],0,0⟩
def L7:Lg:=newL (newD 9000 9) 1024 4 0 0 0 (.float .f64 0) 0 0 0 false 0
theorem L7_B:LgB L7:=⟨⟨by show (0:Int)<=0; omega,by show (0:Int)<=1000000; omega⟩,⟨by show (0:Int)<=0; omega,by show (0:Int)+((0:Nat):Int)<=65536; omega⟩,⟨by show (0:Int)<=0; omega,by show (0:Int)<=0; omega⟩,by show 0+0<=1152921504606846976; omega,fun i x h=>(by
 have h:([]:List Rc)[i]?=some x:=h
 cases i <;> cases h),by show (1024:Int)<=65536; omega⟩
theorem sl_sub {w:World} {A:Option Addr} {n c i q:Nat} {l:List Value} (h:Sl w 1 A n l) (hq:i+q<=n) (hc:n<=c):Sl w 1 (slA A c i 1) q ((l.drop i).take q):=by
 have hl:=h.1
 refine ⟨by rw [List.length_take,List.length_drop]; omega,fun h0=>?_⟩
 obtain ⟨b,o,rfl,hcl⟩:=h.2 (by omega)
 refine ⟨b,o+i,?_,fun j v hj=>?_⟩
 ·unfold slA
  rw [if_neg (by omega),Option.map_some,add_none,Nat.mul_one]
 ·rw [List.getElem?_take] at hj
  split at hj
  ·rw [List.getElem?_drop] at hj
   rw [Nat.add_assoc]
   exact hcl _ v hj
  ·cases hj
def rdL (L:Lg) (s o q:Int):Bs×Int :=
 if s ≠ L.ts\/o < L.tz then readD L.d (segN s) o q
 else if q < 0\/IntKind.wrap .i64 (o - L.tz) < 0\/IntKind.wrap .i64 (o - L.tz) > ((byW L.rs).length:Int)\/q > ((byW L.rs).length:Int) - IntKind.wrap .i64 (o - L.tz) then ([],20)
 else (((byW L.rs).drop (IntKind.wrap .i64 (o - L.tz)).toNat).take q.toNat,0)
set_option maxHeartbeats 1000000 in
theorem lread_calls (P:Nat->Prop) (W:World) (lb db r:Nat) (L:Lg) (N:Nat) (s o q:Int) (w:World) (h:LgAt P w lb db r L) (hE:Env P W w) (hG:DkG L.d N) (hN:N<=349524) (hn:(byW L.rs).length<=1099511627776) :
  Calls Tryz.prog 8 #[.pointer (some ⟨lb,0,none⟩),ofL [.int .i64 s,.int .i64 o,.int .i64 q]] w fun e w'=>Fr (fun _=>False) w w'/\∃ B k,e=.returned (.tuple #[.slice B (rdL L s o q).1.length k,.int .i64 (rdL L s o q).2])/\Sl w' 1 B (rdL L s o q).1.length (bys (rdL L s o q).1)/\(rdL L s o q).1.length<=k:=by
 refine (F8.of (some ⟨lb,0,none⟩) _ w (Q:=fun v w'=>Fr (fun _=>False) w w'/\∃ B k,v=.tuple #[.slice B (rdL L s o q).1.length k,.int .i64 (rdL L s o q).2]/\Sl w' 1 B (rdL L s o q).1.length (bys (rdL L s o q).1)/\(rdL L s o q).1.length<=k) ?_).mono (fun e w' ⟨v,he,hf,B,k,hv,h⟩=>⟨hf,B,k,by rw [he,hv],h⟩)
 obtain ⟨A,n,c,A2,n2,c2,vs,h⟩:=h
 have hblen:(byW L.rs).length=n2:=by have:=h.byt.len; rw [List.length_map,Nat.mul_one] at this; exact this
 refine rec_new (fun b1 w2 f2 hb1 r1=>vIf_f rfl ?_)
 have f2d:Fr (fun _=>False) w w2.drew:=f2.trans1 (Fr.drew _ _)
 have l1:=r1.lt
 have h2:=h.fr0 f2d
 have r2:RecAt w2.drew b1 26 [.int .i64 s,.int .i64 o,.int .i64 q]:=r1
 have bad:∀ u:World,Fr (fun _=>False) w u->∀ p:Bs×Int,p=([],20)->Fr (fun _=>False) w u/\∃ B k,Value.tuple #[Value.slice none 0 0,Value.int .i64 20]=.tuple #[.slice B p.1.length k,.int .i64 p.2]/\Sl u 1 B p.1.length (bys p.1)/\p.1.length<=k:=fun u fu p hp=>by
  subst hp
  exact ⟨fu,none,0,rfl,Sl.nil _ _ _,Nat.le_refl _⟩
 refine ⟨s,r2.cell (o:=0) rfl,dr_mk ⟨L.ts,h2.lg.cell (o:=0+7) rfl,?_⟩⟩
 have far:(s ≠ L.ts\/o < L.tz)->∀ u:World,Fr (fun _=>False) w u->RecAt u b1 26 [.int .i64 s,.int .i64 o,.int .i64 q]->F8.k4 (fun v w'=>Fr (fun _=>False) w w'/\∃ B k,v=.tuple #[.slice B (rdL L s o q).1.length k,.int .i64 (rdL L s o q).2]/\Sl w' 1 B (rdL L s o q).1.length (bys (rdL L s o q).1)/\(rdL L s o q).1.length<=k) (some ⟨lb,0,none⟩,(b1,0),true,()) u:=by
  intro hfar u fu ru
  have e:rdL L s o q=readD L.d (segN s) o q:=if_pos hfar
  rw [e]
  have fud:Fr (fun _=>False) w u.drew:=fu.trans1 (Fr.drew _ _)
  have hu:=h.fr0 fud
  have rud:RecAt u.drew b1 26 [.int .i64 s,.int .i64 o,.int .i64 q]:=ru
  have lb1:=rud.lt
  intro _
  refine vIf_t rfl (dr_mk ⟨_,hu.lg.cell (o:=0) rfl,s,rud.cell (o:=0) rfl,o,rud.cell (o:=0+1) rfl,q,rud.cell (o:=0+2) rfl,(Nm8.file_calls 1 s u.drew (hE.up fud).v).mono ?_⟩)
  rintro e w13 ⟨rfl,f13⟩
  have f013:=fud.trans1 f13
  have h13:=h.fr0 f013
  refine ⟨_,rfl,kp_mk f13 lb1 (fun h=>h) (kp_mk f13 lb1 (fun h=>h) (kp_mk f13 hu.lt.1 (fun h=>h) ((@ReadE_calls ⟨LgO P lb A A2⟩ db r L.d (segN s) o q w13 h13.dk (hG.fo (by omega)) hG.i.ino (hG.p (by omega))).mono ?_)))⟩
  rintro e w16 ⟨f16,B,k,rfl,hB,hk⟩
  exact ⟨B,_,k,_,rfl,f013.trans1 f16,B,k,rfl,hB,hk⟩
 have near:¬ (s ≠ L.ts\/o < L.tz)->∀ u:World,Fr (fun _=>False) w u->RecAt u b1 26 [.int .i64 s,.int .i64 o,.int .i64 q]->F8.k4 (fun v w'=>Fr (fun _=>False) w w'/\∃ B k,v=.tuple #[.slice B (rdL L s o q).1.length k,.int .i64 (rdL L s o q).2]/\Sl w' 1 B (rdL L s o q).1.length (bys (rdL L s o q).1)/\(rdL L s o q).1.length<=k) (some ⟨lb,0,none⟩,(b1,0),false,()) u:=by
  intro hnear u fu ru
  have er:rdL L s o q=if q < 0\/IntKind.wrap .i64 (o - L.tz) < 0\/IntKind.wrap .i64 (o - L.tz) > (n2:Int)\/q > (n2:Int) - IntKind.wrap .i64 (o - L.tz) then ([],20) else (((byW L.rs).drop (IntKind.wrap .i64 (o - L.tz)).toNat).take q.toNat,0):=by
   unfold rdL
   rw [if_neg hnear,hblen]
  rw [er]
  have f1:Fr (fun _=>False) w u.drew:=fu.trans1 (Fr.drew _ _)
  have f2:Fr (fun _=>False) w u.drew.drew:=f1.trans1 (Fr.drew _ _)
  have f3:Fr (fun _=>False) w u.drew.drew.drew:=f2.trans1 (Fr.drew _ _)
  have h1:=h.fr0 f1
  have h2:=h.fr0 f2
  have h3:=h.fr0 f3
  have r1:RecAt u.drew b1 26 [.int .i64 s,.int .i64 o,.int .i64 q]:=ru
  have r2:RecAt u.drew.drew b1 26 [.int .i64 s,.int .i64 o,.int .i64 q]:=ru
  have r3:RecAt u.drew.drew.drew b1 26 [.int .i64 s,.int .i64 o,.int .i64 q]:=ru
  intro _
  refine vIf_f rfl (jnC_mk (fun _=>⟨o,r1.cell (o:=0+1) rfl,dr_mk ⟨L.tz,h1.lg.cell (o:=0+7+1) rfl,q,r2.cell (o:=0+2) rfl,?_⟩⟩))
  generalize IntKind.wrap .i64 (o - L.tz)=i
  refine vIf_mk (fun g=>?_) (fun g=>vIf_mk (fun g1=>?_) (fun g1=>dr_mk ⟨_,_,_,h2.lg.cell (o:=0+13) rfl,vIf_mk (fun g2=>?_) (fun g2=>⟨q,r2.cell (o:=0+2) rfl,dr_mk ⟨_,_,_,h2.lg.cell (o:=0+13) rfl,vIf_mk (fun g3=>?_) (fun g3=>jnC_mk (fun _=>?_))⟩⟩)⟩))
  ·exact bad _ f2 _ (if_pos (.inl (of_decide_eq_true g)))
  ·exact bad _ f2 _ (if_pos (.inr (.inl (of_decide_eq_true g1))))
  ·exact bad _ f2 _ (if_pos (.inr (.inr (.inl (of_decide_eq_true g2)))))
  all_goals have g:=of_decide_eq_false g
  all_goals have g1:=of_decide_eq_false g1
  all_goals have g2:=of_decide_eq_false g2
  all_goals have ew:IntKind.wrap .i64 ((n2:Int) - i)=(n2:Int) - i:=i64_id (by omega) (by omega)
  ·have g3:=of_decide_eq_true g3
   rw [ew] at g3
   exact bad _ f2 _ (if_pos (.inr (.inr (.inr g3))))
  have g3:=of_decide_eq_false g3
  rw [ew] at g3
  rw [if_neg (fun x=>x.elim g (fun x=>x.elim g1 (fun x=>x.elim g2 g3)))]
  obtain ⟨i,rfl⟩:∃ k:Nat,i=(k:Int):=⟨i.toNat,by omega⟩
  obtain ⟨q,rfl⟩:∃ k:Nat,q=(k:Int):=⟨q.toNat,by omega⟩
  have hle:=h.byt.le
  have e1:IntKind.wrap .i64 ((i:Int)+(q:Int))=((i+q:Nat):Int):=by rw [i64_id (by omega) (by omega)]; omega
  refine dr_mk ⟨_,_,_,h3.lg.cell (o:=0+13) rfl,_,r3.cell (o:=0+2) rfl,?_⟩
  dsimp only
  rw [e1]
  simp only [Int.toNat_natCast]
  have hsl2:Sl u.drew.drew.drew 1 (slA A2 c2 i 1) (i+q - i) (bys (((byW L.rs).drop i).take q)):=by
   rw [Nat.add_sub_cancel_left]
   have e:bys (((byW L.rs).drop i).take q)=(((byW L.rs).map bv).drop i).take q:=by simp [bys,List.map_take,List.map_drop]
   rw [e]
   exact sl_sub h3.byt.sl (by omega) hle
  have hbl:(((byW L.rs).drop i).take q).length=i+q - i:=by rw [List.length_take,List.length_drop]; omega
  refine gd_mk (decide_eq_true (by omega)) (gd_mk (decide_eq_true (by omega)) (gd_mk (decide_eq_true (by omega)) (gd_mk (decide_eq_true (by omega)) ((clone_by _ _ _ _ _ hsl2 (by omega)).mono ?_))))
  rintro e w44 ⟨f44,A',c',rfl,hr⟩
  refine ⟨_,_,_,rfl,f3.trans1 f44,A',c',?_,?_,?_⟩
  ·rw [hbl]
  ·rw [hbl]; exact hr.sl
  ·rw [hbl]; exact hr.le
 refine vIf_mk (fun g=>?_) (fun g=>?_)
 ·have g:s ≠ L.ts:=by simpa using g
  exact jnC_mk (far (.inl g) _ f2d r2)
 have g:s=L.ts:=by simpa using g
 refine ⟨o,r2.cell (o:=0+1) rfl,dr_mk ⟨L.tz,h2.lg.cell (o:=0+7+1) rfl,?_⟩⟩
 by_cases g1:o < L.tz
 ·have:=far (.inr g1) _ f2d r2
  rw [<- decide_eq_true g1] at this
  exact jnC_mk this
 ·have:=near (fun x=>x.elim (fun x=>x g) g1) _ f2d r2
  rw [<- decide_eq_false g1] at this
  exact jnC_mk this
end Go.Proofs.YtkfanhdicnjdlaaGreatDoor
namespace Go.Proofs.YtkfanhdicnjdlaaGreatDoor
open Go.GV Go.RowKit
def wv (a:UInt32):Value:=.int .u32 a.toNat
theorem wv_one (l:List UInt32):∀ v ∈ l.map wv,v.oneCell'=true:=by
 intro v hv
 obtain ⟨b,_,rfl⟩:=List.mem_map.1 hv
 rfl
theorem bv32 (a:UInt32):(BitVec.ofInt 32 (a.toNat:Int))=a.toBitVec:=by
 apply BitVec.eq_of_toNat_eq
 have:=a.toNat_lt
 simp
theorem w_xor (a b:UInt32):iXor .u32 (a.toNat:Int) (b.toNat:Int)=((a ^^^ b).toNat:Int):=by
 unfold iXor
 show IntKind.wrap .u32 (((BitVec.ofInt 32 (a.toNat:Int) ^^^ BitVec.ofInt 32 (b.toNat:Int)).toNat:Nat):Int)=_
 rw [bv32,bv32,<- UInt32.toBitVec_xor,UInt32.toNat_toBitVec,IntKind.wrap_u32]
 have:=(a ^^^ b).toNat_lt
 omega
theorem w_and (a b:UInt32):iAnd .u32 (a.toNat:Int) (b.toNat:Int)=((a &&& b).toNat:Int):=by
 unfold iAnd
 show IntKind.wrap .u32 (((BitVec.ofInt 32 (a.toNat:Int) &&& BitVec.ofInt 32 (b.toNat:Int)).toNat:Nat):Int)=_
 rw [bv32,bv32,<- UInt32.toBitVec_and,UInt32.toNat_toBitVec,IntKind.wrap_u32]
 have:=(a &&& b).toNat_lt
 omega
theorem w_or (a b:UInt32):iOr .u32 (a.toNat:Int) (b.toNat:Int)=((a ||| b).toNat:Int):=by
 unfold iOr
 show IntKind.wrap .u32 (((BitVec.ofInt 32 (a.toNat:Int) ||| BitVec.ofInt 32 (b.toNat:Int)).toNat:Nat):Int)=_
 rw [bv32,bv32,<- UInt32.toBitVec_or,UInt32.toNat_toBitVec,IntKind.wrap_u32]
 have:=(a ||| b).toNat_lt
 omega
theorem w_not (a:UInt32):iXor .u32 4294967295 (a.toNat:Int)=((~~~a).toNat:Int):=by
 have h:=w_xor (-1) a
 rw [show (((-1:UInt32).toNat:Nat):Int)=4294967295 from rfl] at h
 rw [h,UInt32.neg_one_xor]
theorem w_add (a b:UInt32):IntKind.wrap .u32 ((a.toNat:Int)+(b.toNat:Int))=((a+b).toNat:Int):=by
 rw [IntKind.wrap_u32,UInt32.toNat_add]; omega
theorem w_shr (a:UInt32) (k:Nat) (hk:k < 32):Int.fdiv (a.toNat:Int) (2 ^ k)=((a >>> UInt32.ofNat k).toNat:Int):=by
 have e:(2:Int) ^ k=((2 ^ k:Nat):Int):=by simp
 rw [e,Int.fdiv_eq_ediv_of_nonneg _ (Int.natCast_nonneg _),UInt32.toNat_shiftRight,Nat.shiftRight_eq_div_pow]
 have:(UInt32.ofNat k).toNat % 32=k:=by simp; omega
 rw [this]; rfl
theorem w_shl (a:UInt32) (k:Nat) (hk:k < 32):IntKind.wrap .u32 ((a.toNat:Int) * 2 ^ k)=((a <<< UInt32.ofNat k).toNat:Int):=by
 have e:(2:Int) ^ k=((2 ^ k:Nat):Int):=by simp
 rw [e,IntKind.wrap_u32,UInt32.toNat_shiftLeft,Nat.shiftLeft_eq]
 have:(UInt32.ofNat k).toNat % 32=k:=by simp; omega
 rw [this]; omega
def rotr (x n:UInt32):UInt32:=x >>> n ||| x <<< (32 - n)
theorem turn_calls (a:UInt32) (n:Nat) (h0:0 < n) (hn:n < 32) (w:World):Calls Tryz.prog 132 #[.int .u32 a.toNat,.int .i64 n] w fun e w'=>e=.returned (.int .u32 (rotr a (UInt32.ofNat n)).toNat)/\w'=w:=by
 refine (F132.of a.toNat n w (Q:=fun v w'=>v=.int .u32 (rotr a (UInt32.ofNat n)).toNat/\w'=w) ?_).mono (fun e w' ⟨v,he,hv,h⟩=>⟨by rw [he,hv],h⟩)
 refine (F148.of a.toNat (IntKind.wrap .i64 (0 - (n:Int))) w (Q:=fun v w'=>v=.int .u32 (rotr a (UInt32.ofNat n)).toNat/\w'=w) ?_).mono ?_
 ·have e1:∀ m:Fin 32,0 < m.val->iAnd .u64 (IntKind.wrap .u64 (IntKind.wrap .i64 (0 - (m.val:Int)))) 31=((32 - m.val:Nat):Int):=by decide +kernel
  have e2:=e1 ⟨n,hn⟩ h0
  simp only at e2
  unfold F148.vc
  rw [e2]
  have e3:IntKind.wrap .u64 (32 - ((32 - n:Nat):Int))=(n:Int):=by rw [IntKind.wrap_u64]; omega
  rw [e3]
  refine gd_mk (decide_eq_true (Int.natCast_nonneg _)) (gd_mk (decide_eq_true (Int.natCast_nonneg _)) ⟨?_,rfl⟩)
  rw [Int.toNat_natCast,Int.toNat_natCast,Nat.min_eq_left (by omega),Nat.min_eq_left (by omega),w_shl a _ (by omega),w_shr a _ hn,w_or,UInt32.or_comm]
  have e4:UInt32.ofNat (32 - n)=32 - UInt32.ofNat n:=by
   apply UInt32.toNat_inj.1
   rw [UInt32.toNat_sub]
   simp; omega
  rw [e4]; rfl
 ·rintro e w' ⟨v,rfl,rfl,rfl⟩
  exact ⟨_,rfl,rfl,rfl⟩
def sg0 (x:UInt32):UInt32:=rotr x 7 ^^^ rotr x 18 ^^^ x >>> 3
def sg1 (y:UInt32):UInt32:=rotr y 17 ^^^ rotr y 19 ^^^ y >>> 10
def wAt (b:List UInt8) (t:Nat):UInt32:=(b.getD (4 * t) 0).toUInt32 <<< 24 ||| (b.getD (4 * t+1) 0).toUInt32 <<< 16 ||| (b.getD (4 * t+2) 0).toUInt32 <<< 8 ||| (b.getD (4 * t+3) 0).toUInt32
def wNext (l:List UInt32) (t:Nat):UInt32:=sg1 (l.getD (t - 2) 0)+l.getD (t - 7) 0+sg0 (l.getD (t - 15) 0)+l.getD (t - 16) 0
def sched (b:List UInt8):Nat->List UInt32
 | 0=>[]
 | t+1=>sched b t ++ [if t < 16 then wAt b t else wNext (sched b t) t]
theorem sched_len (b:List UInt8):∀ t,(sched b t).length=t
 | 0=>rfl
 | t+1=>by simp [sched,sched_len b t]
theorem u8_32 (c:UInt8):IntKind.wrap .u32 (c.toNat:Int)=(c.toUInt32.toNat:Int):=by
 rw [IntKind.wrap_u32]
 have:=c.toNat_lt
 simp; omega
theorem zget {l:List UInt32} {n i:Nat} (h:i < l.length) (z:List Value):(l.map wv ++ z)[i]?=some (wv (l.getD i 0)):=by
 rw [List.getElem?_append_left (by simpa using h),List.getElem?_map,List.getElem?_eq_getElem h,List.getD_eq_getElem?_getD,List.getElem?_eq_getElem h]; rfl
theorem set_next {l:List UInt32} {x:UInt32} {n t:Nat} (hl:l.length=t) (ht:t < n):splice (l.map wv ++ List.replicate (n - t) (.int .u32 0)) t [wv x]=(l ++ [x]).map wv ++ List.replicate (n - (t+1)) (.int .u32 0):=by
 unfold splice
 rw [List.take_append_of_le_length (by simp [hl]),List.take_of_length_le (by simp [hl]),List.drop_append,List.drop_eq_nil_of_le (by simp; omega),List.drop_replicate,List.map_append,List.nil_append]
 simp only [List.length_map,hl,List.length_cons,List.length_nil,List.map_cons,List.map_nil]
 congr 2
 omega
theorem words_calls (A:Option Addr) (c:Nat) (b:List UInt8) (w:World) (h:Sl w 1 A 64 (b.map bv)) (hc:64<=c) :
  Calls Tryz.prog 131 #[.slice A 64 c] w fun e w'=>e=.returned (ofL ((sched b 64).map wv))/\Fr (fun _=>False) w w':=by
 refine (F131.of A 64 c w (Q:=fun v w'=>v=ofL ((sched b 64).map wv)/\Fr (fun _=>False) w w') ?_).mono (fun e w' ⟨v,he,hv,h⟩=>⟨by rw [he,hv],h⟩)
 obtain ⟨g,o,rfl,hcells⟩:=h.2 (by omega)
 have hbl:b.length=64:=by simpa using h.1
 have hg:=h.blt (by omega) (by omega) (b:=g) rfl
 refine nw_mk (nw_mk (jnC_mk ?_))
 have f1:Fr (fun _=>False) w (w.alloc (.cells Z209.toArray 209)):=Fr.alloc _ _ _
 have r1:RecAt (w.alloc (.cells Z209.toArray 209)) w.heap.size 209 Z209:=RecAt.new w _ _
 have hs1:(w.alloc (.cells Z209.toArray 209)).heap.size=w.heap.size+1:=alloc_size _ _
 generalize w.alloc (.cells Z209.toArray 209)=w1 at f1 r1 hs1 ⊢
 have f2:Fr (fun _=>False) w1 (w1.alloc (.cells Z209.toArray 209)):=Fr.alloc _ _ _
 have r2:RecAt (w1.alloc (.cells Z209.toArray 209)) w1.heap.size 209 Z209:=RecAt.new w1 _ _
 have r12:=r1.fr f2 (fun h=>h)
 have hs2:(w1.alloc (.cells Z209.toArray 209)).heap.size=w1.heap.size+1:=alloc_size _ _
 have f12:=f1.trans1 f2
 generalize w1.alloc (.cells Z209.toArray 209)=w2 at f2 r2 r12 hs2 f12 ⊢
 generalize hb1:w.heap.size=b1 at *
 generalize hb3:w1.heap.size=b3 at *
 refine loop_rule (fun s u=>Fr (fun _=>False) w u/\RecAt u b1 209 Z209/\∃ t:Nat,t<=64/\s=((some ⟨g,o,none⟩,64,c),(b1,0),(b3,0),(t:Int),())/\RecAt u b3 209 ((sched b t).map wv ++ List.replicate (64 - t) (.int .u32 0)))
  (fun s _=>(64 - s.2.2.2.1).toNat) ?_ _ _ ⟨f12,r12,0,by omega,rfl,r2⟩
 rintro s u C ⟨hf,hr1,t,ht,rfl,hr⟩ hC _
 have hcu:=(hf.sl h (fun _ _ _ h=>h)).2 (by omega)
 obtain ⟨g',o',hA,hcells'⟩:=hcu
 injection hA with hA
 injection hA with hA1 hA2
 subst hA1; subst hA2
 have hlen:=sched_len b t
 refine vIf_mk (fun hlt=>?_) (fun hge=>?_)
 ·have hlt2:(t:Int) < 64:=of_decide_eq_true hlt
  have step:∀ (u2:World) (x:UInt32),Fr (fun _=>False) u u2->x=(if t < 16 then wAt b t else wNext (sched b t) t)->gd (decide (0<=(t:Int))) (gd (decide ((t:Int) < 64)) (st u2 b3 (0+((t:Int)).toNat * 1) [wv x] fun w17=>jnC C ((some ⟨g,o,none⟩,64,c),(b1,0),(b3,0),(IntKind.wrap .i64 ((t:Int)+1)),()) w17)):=by
   intro u2 x fu hx
   subst hx
   refine gd_mk (decide_eq_true (Int.natCast_nonneg t)) (gd_mk (decide_eq_true hlt2) ?_)
   rw [Int.toNat_natCast,Nat.zero_add,Nat.mul_one]
   refine (hr.fr fu (fun h=>h)).st_mk (by simp [hlen]; omega) (wv_one [_]) (fun r f=>jnC_mk (hC _ _ ⟨?_,?_,t+1,by omega,?_,?_⟩ ?_))
   ·exact (hf.trans1 fu).trans f (fun _ _ h=>h) (fun k hk h=>by omega)
   ·exact (hr1.fr fu (fun h=>h)).fr f (fun h=>by omega)
   ·rw [i64_id (by omega) (by omega)]; rfl
   ·rw [set_next hlen (by omega)] at r
    exact r
   ·show (64 - IntKind.wrap .i64 ((t:Int)+1)).toNat < (64 - (t:Int)).toNat
    rw [i64_id (by omega) (by omega)]; omega
  refine vIf_mk (fun h16=>?_) (fun h16=>?_)
  ·have h16:(t:Int) < 16:=of_decide_eq_true h16
   have e4:IntKind.wrap .i64 (4 * (t:Int))=((4 * t:Nat):Int):=by rw [i64_id (by omega) (by omega)]; omega
   have e5:IntKind.wrap .i64 (((4 * t:Nat):Int)+4)=((4 * t+4:Nat):Int):=by rw [i64_id (by omega) (by omega)]; omega
   dsimp only
   rw [e4,e5]
   simp only [Int.toNat_natCast]
   have hsl:slA (some ⟨g,o,none⟩) c (4 * t) 1=some ⟨g,o+4 * t,none⟩:=by
    unfold slA
    rw [if_neg (by omega),Nat.mul_one,Option.map_some,add_none]
   rw [hsl]
   have cell:∀ j,j < 4->cellAt u.drew g (o+4 * t+j)=some (.int .u8 (b.getD (4 * t+j) 0).toNat):=fun j hj=>by
    have:=hcells' (4 * t+j) (bv (b.getD (4 * t+j) 0)) (by
     rw [List.getElem?_map,List.getElem?_eq_getElem (by omega),List.getD_eq_getElem?_getD,List.getElem?_eq_getElem (by omega)]; rfl)
    rw [<- Nat.add_assoc] at this
    exact this
   refine gd_mk (decide_eq_true (by omega)) (gd_mk (decide_eq_true (by omega)) (gd_mk (decide_eq_true (by omega)) (gd_mk (decide_eq_true (by omega)) (dr_mk (gd_mk (decide_eq_true (by omega)) ⟨_,cell 0 (by omega),dr_mk (gd_mk (decide_eq_true (by omega)) ⟨_,cell 1 (by omega),dr_mk (gd_mk (decide_eq_true (by omega)) ⟨_,cell 2 (by omega),dr_mk (gd_mk (decide_eq_true (by omega)) ⟨_,cell 3 (by omega),?_⟩)⟩)⟩)⟩)))))
   dsimp only
   rw [u8_32,u8_32,u8_32,u8_32,w_shl _ 24 (by omega),w_shl _ 16 (by omega),w_shl _ 8 (by omega),w_or,w_or,w_or]
   exact step u.drew _ (Fr.drew _ _) (by rw [if_pos (by omega)]; rfl)
  ·have h16:¬ (t:Int) < 16:=of_decide_eq_false h16
   have ed:∀ k:Nat,k<=16->0 < k->IntKind.wrap .i64 ((t:Int) - k)=((t - k:Nat):Int):=fun k hk h0=>by rw [i64_id (by omega) (by omega)]; omega
   dsimp only
   have ed15:=ed 15 (by omega) (by omega)
   have ed2:=ed 2 (by omega) (by omega)
   have ed7:=ed 7 (by omega) (by omega)
   have ed16:=ed 16 (by omega) (by omega)
   simp only [Int.cast_ofNat_Int] at ed15 ed2 ed7 ed16
   rw [ed15,ed2,ed7,ed16]
   simp only [Int.toNat_natCast,Nat.zero_add,Nat.mul_one]
   have cell:∀ (u2:World),Fr (fun _=>False) u u2->∀ k,0 < k->k<=16->cellAt u2 b3 (t - k)=some (.int .u32 ((sched b t).getD (t - k) 0).toNat):=fun u2 fu k h0 hk=>(hr.fr fu (fun h=>h)).cell (zget (n:=0) (by omega) _)
   have fd:Fr (fun _=>False) u u.drew:=Fr.drew _ _
   refine gd_mk (decide_eq_true (by omega)) (gd_mk (decide_eq_true (by omega)) ⟨_,cell _ fd 15 (by omega) (by omega),gd_mk (decide_eq_true (by omega)) (gd_mk (decide_eq_true (by omega)) ⟨_,cell _ fd 2 (by omega) (by omega),?_⟩)⟩)
   refine (turn_calls _ 7 (by omega) (by omega) _).mono ?_
   rintro e w3 ⟨rfl,rfl⟩
   refine ⟨_,rfl,(turn_calls _ 18 (by omega) (by omega) _).mono ?_⟩
   rintro e w3 ⟨rfl,rfl⟩
   refine ⟨_,rfl,(turn_calls _ 17 (by omega) (by omega) _).mono ?_⟩
   rintro e w3 ⟨rfl,rfl⟩
   refine ⟨_,rfl,(turn_calls _ 19 (by omega) (by omega) _).mono ?_⟩
   rintro e w3 ⟨rfl,rfl⟩
   have fdd:Fr (fun _=>False) u u.drew.drew:=fd.trans1 (Fr.drew _ _)
   refine ⟨_,rfl,gd_mk (decide_eq_true (by omega)) (gd_mk (decide_eq_true (by omega)) ⟨_,cell _ fdd 7 (by omega) (by omega),gd_mk (decide_eq_true (by omega)) (gd_mk (decide_eq_true (by omega)) ⟨_,cell _ fdd 16 (by omega) (by omega),?_⟩)⟩)⟩
   dsimp only
   rw [w_xor,w_shr _ 10 (by omega),w_xor,w_add,w_xor,w_shr _ 3 (by omega),w_xor,w_add,w_add]
   have:=step u.drew.drew _ fdd (by rw [if_neg (by omega)])
   rw [Int.toNat_natCast,Nat.zero_add,Nat.mul_one] at this
   exact this
 ·have hge2:¬ (t:Int) < 64:=of_decide_eq_false hge
  have ht64:t=64:=by omega
  subst ht64
  clear hC
  generalize sched b 64=L at hr hlen ⊢
  have hl:(L.map wv).length=64:=by rw [List.length_map,hlen]
  have hr':RecAt u b3 209 (L.map wv):=by simpa using hr
  refine ⟨_,hl,hr'.cells (fun j v hj=>by simpa using hj),gd_mk (by simpa using hl) ?_⟩
  have hZ:Z209.length=64:=by decide +kernel
  refine hr1.st_mk (o:=0) (by rw [hl,hZ]; omega) (wv_one _) (fun r f=>?_)
  refine ⟨_,hl,?_,rfl,hf.trans f (fun _ _ h=>h) (fun k hk h=>by omega)⟩
  refine RecAt.cells (o:=0) r (fun j v hj=>?_)
  have hjl:=(List.getElem?_eq_some_iff.1 hj).1
  rw [splice_get (by rw [hl,hZ]; omega),if_neg (by omega),if_pos (by omega)]
  simpa using hj
def KC:List UInt32:=[1116352408,1899447441,3049323471,3921009573,961987163,1508970993,2453635748,2870763221,3624381080,310598401,607225278,1426881987,1925078388,2162078206,2614888103,3248222580,3835390401,4022224774,264347078,604807628,770255983,1249150122,1555081692,1996064986,2554220882,2821834349,2952996808,3210313671,3336571891,3584528711,113926993,338241895,666307205,773529912,1294757372,1396182291,1695183700,1986661051,2177026350,2456956037,2730485921,2820302411,3259730800,3345764771,3516065817,3600352804,4094571909,275423344,430227734,506948616,659060556,883997877,958139571,1322822218,1537002063,1747873779,1955562222,2024104815,2227730452,2361852424,2428436474,2756734187,3204031479,3329325298]
def KAt (w:World):Prop:=cellsAt w 0 0 (KC.map wv)
theorem KAt.fr {D:Nat->Prop} {w w':World} (f:Fr D w w') (h:KAt w) (hD:¬ D 0):KAt w':=f.cells h hD
theorem KAt.lt {w:World} (h:KAt w):0 < w.heap.size:=cellAt_lt (h 0 _ rfl)
theorem KAt.get {w:World} (h:KAt w) {t:Nat} (ht:t < 64):cellAt w 0 t=some (.int .u32 (KC.getD t 0).toNat):=by
 have:=h t (wv (KC.getD t 0)) (by
  rw [List.getElem?_map,List.getElem?_eq_getElem (show t < KC.length from ht),List.getD_eq_getElem?_getD,List.getElem?_eq_getElem (show t < KC.length from ht)]; rfl)
 rwa [Nat.zero_add] at this
def rnd (v:List UInt32) (k w:UInt32):List UInt32 :=
 let g:=fun i=>v.getD i 0
 let t1:=g 7+(rotr (g 4) 6 ^^^ rotr (g 4) 11 ^^^ rotr (g 4) 25)+(g 4 &&& g 5 ^^^ ~~~(g 4) &&& g 6)+k+w
 let t2:=(rotr (g 0) 2 ^^^ rotr (g 0) 13 ^^^ rotr (g 0) 22)+(g 0 &&& g 1 ^^^ g 0 &&& g 2 ^^^ g 1 &&& g 2)
 [t1+t2,g 0,g 1,g 2,g 3+t1,g 4,g 5,g 6]
def rnds (ws s:List UInt32):Nat->List UInt32
 | 0=>s
 | t+1=>rnd (rnds ws s t) (KC.getD t 0) (ws.getD t 0)
theorem rnds_len {ws s:List UInt32} (h:s.length=8):∀ t,(rnds ws s t).length=8
 | 0=>h
 | t+1=>rfl
def blockP (s:List UInt32) (b:List UInt8):List UInt32:=List.zipWith (·+·) s (rnds (sched b 64) s 64)
theorem blockP_len {s:List UInt32} {b:List UInt8} (h:s.length=8):(blockP s b).length=8:=by
 simp [blockP,h,rnds_len h]
theorem eight {l:List UInt32} (h:l.length=8):∃ a0 a1 a2 a3 a4 a5 a6 a7,l=[a0,a1,a2,a3,a4,a5,a6,a7]:=by
 match l,h with
 | [a0,a1,a2,a3,a4,a5,a6,a7],_=>exact ⟨a0,a1,a2,a3,a4,a5,a6,a7,rfl⟩
theorem set_map {L:List UInt32} {i:Nat} {x:UInt32} (h:i < L.length):splice (L.map wv) i [wv x]=(L.set i x).map wv:=by
 apply List.ext_getElem?
 intro j
 rw [splice_get (by simp; omega)]
 simp only [List.getElem?_map,List.getElem?_set,List.length_cons,List.length_nil]
 by_cases h1:j < i
 ·rw [if_pos h1,if_neg (by omega)]
 ·rw [if_neg h1]
  by_cases h2:i=j
  ·subst h2; rw [if_pos (by omega),if_pos rfl,if_pos h,Nat.sub_self]; rfl
  ·rw [if_neg (by omega),if_neg h2]
theorem wget {L:List UInt32} {i:Nat} (h:i < L.length):(L.map wv)[i]?=some (.int .u32 (L.getD i 0).toNat):=by
 have:=zget (n:=0) h []
 rwa [List.append_nil] at this
theorem nthV_get:∀ {l:List Value} {i:Nat} {v:Value},l[i]?=some v->nthV l i=v
 | [],_,_,h=>by simp at h
 | a :: l,0,v,h=>by simpa [nthV] using h
 | a :: l,i+1,v,h=>by
  have:l[i]?=some v:=by simpa using h
  simpa [nthV] using nthV_get this
theorem nth_wv {L:List UInt32} {i:Nat} (h:i < L.length):nthV (L.map wv) i=.int .u32 (L.getD i 0).toNat:=by
 exact nthV_get (wget h)
theorem splice_whole {c vs:List Value} (h:vs.length=c.length):splice c 0 vs=vs:=by
 unfold splice
 rw [List.take_zero,List.nil_append,Nat.zero_add,h,List.drop_length,List.append_nil]
theorem block_calls (A:Option Addr) (c:Nat) (b:List UInt8) (s:List UInt32) (w:World) (h:Sl w 1 A 64 (b.map bv)) (hc:64<=c) (hs:s.length=8) (hK:KAt w) :
  Calls Tryz.prog 100 #[ofL (s.map wv),.slice A 64 c] w fun e w'=>e=.returned (ofL ((blockP s b).map wv))/\Fr (fun _=>False) w w':=by
 refine (F100.of (s.map wv) A 64 c w (Q:=fun v w'=>v=ofL ((blockP s b).map wv)/\Fr (fun _=>False) w w') ?_).mono (fun e w' ⟨v,he,hv,h⟩=>⟨by rw [he,hv],h⟩)
 have hZ:Z171.length=8:=by decide +kernel
 refine nw_mk (nw_mk ?_)
 have f1:Fr (fun _=>False) w (w.alloc (.cells (s.map wv).toArray 171)):=Fr.alloc _ _ _
 have r1:RecAt (w.alloc (.cells (s.map wv).toArray 171)) w.heap.size 171 (s.map wv):=RecAt.new w _ _
 have hs1:(w.alloc (.cells (s.map wv).toArray 171)).heap.size=w.heap.size+1:=alloc_size _ _
 generalize w.alloc (.cells (s.map wv).toArray 171)=w1 at f1 r1 hs1 ⊢
 have f2:Fr (fun _=>False) w1 (w1.alloc (.cells Z171.toArray 171)):=Fr.alloc _ _ _
 have r2:RecAt (w1.alloc (.cells Z171.toArray 171)) w1.heap.size 171 Z171:=RecAt.new w1 _ _
 have hs2:(w1.alloc (.cells Z171.toArray 171)).heap.size=w1.heap.size+1:=alloc_size _ _
 generalize w1.alloc (.cells Z171.toArray 171)=w2 at f2 r2 hs2 ⊢
 have r12:=r1.fr f2 (fun h=>h)
 have f12:=f1.trans1 f2
 refine ⟨s.map wv,by simpa using hs,r12.cells (o:=0) (fun j v hj=>by simpa using hj),nw_mk (gd_mk (by simpa using hs) ?_)⟩
 have f3:Fr (fun _=>False) w2 (w2.alloc (.cells Z171.toArray 171)):=Fr.alloc _ _ _
 have r3:RecAt (w2.alloc (.cells Z171.toArray 171)) w2.heap.size 171 Z171:=RecAt.new w2 _ _
 have hs3:(w2.alloc (.cells Z171.toArray 171)).heap.size=w2.heap.size+1:=alloc_size _ _
 generalize w2.alloc (.cells Z171.toArray 171)=w3 at f3 r3 hs3 ⊢
 refine r3.st_mk (o:=0) (by simp [hs,hZ]) (wv_one _) (fun r4 f4=>?_)
 rw [splice_whole (by simp [hs,hZ])] at r4
 have hs4:(stB w3 w2.heap.size 0 (s.map wv)).heap.size=w3.heap.size:=stB_size _ _ _ _
 generalize stB w3 w2.heap.size 0 (s.map wv)=w4 at r4 f4 hs4 ⊢
 have r14:=(r12.fr f3 (fun h=>h)).fr f4 (fun h=>by omega)
 have r24:=(r2.fr f3 (fun h=>h)).fr f4 (fun h=>by omega)
 have f14:Fr (fun _=>False) w w4:=(f12.trans1 f3).trans f4 (fun _ _ h=>h) (fun k hk h=>by omega)
 generalize hb1:w.heap.size=b1 at *
 generalize hb3:w1.heap.size=b3 at *
 generalize hb6:w2.heap.size=b6 at *
 refine (words_calls A c b w4 (f14.sl h (fun _ _ _ h=>h)) hc).mono ?_
 rintro e w5 ⟨rfl,f5⟩
 have hW:=sched_len b 64
 refine ⟨_,rfl,jnC_mk ?_⟩
 unfold blockP
 generalize sched b 64=W at hW ⊢
 refine loop_rule (fun p u=>Fr (fun _=>False) w u/\RecAt u b1 171 (s.map wv)/\RecAt u b3 171 Z171/\∃ t:Nat,t<=64/\p=((b1,0),(b3,0),(b6,0),W.map wv,(t:Int),())/\RecAt u b6 171 ((rnds W s t).map wv))
  (fun p _=>(64 - p.2.2.2.2.1).toNat) ?_ _ _ ⟨f14.trans1 f5,r14.fr f5 (fun h=>h),r24.fr f5 (fun h=>h),0,by omega,rfl,r4.fr f5 (fun h=>h)⟩
 rintro p u C ⟨hf,hr1,hr3,t,ht,rfl,hr⟩ hC _
 have hlen:=rnds_len (ws:=W) hs t
 have hKu:=hK.fr hf (fun h=>h)
 refine vIf_mk (fun hlt=>?_) (fun hge=>?_)
 ·have hlt2:(t:Int) < 64:=of_decide_eq_true hlt
  obtain ⟨v0,v1,v2,v3,v4,v5,v6,v7,hv⟩:=eight hlen
  rw [hv] at hr
  have rd:RecAt u.drew b6 171 ([v0,v1,v2,v3,v4,v5,v6,v7].map wv):=hr
  have rdd:RecAt u.drew.drew b6 171 ([v0,v1,v2,v3,v4,v5,v6,v7].map wv):=hr
  have rddd:RecAt u.drew.drew.drew b6 171 ([v0,v1,v2,v3,v4,v5,v6,v7].map wv):=hr
  have kdd:KAt u.drew.drew:=hKu
  have k1:=kdd.lt
  have k6:=rdd.lt
  have k6d:=rddd.lt
  have nK:nthV (W.map wv) ((t:Int).toNat * 1)=.int .u32 (W.getD t 0).toNat:=by rw [Int.toNat_natCast,Nat.mul_one]; exact nth_wv (by omega)
  have kc:cellAt u.drew.drew 0 (0+(t:Int).toNat * 1)=some (.int .u32 (KC.getD t 0).toNat):=by rw [Int.toNat_natCast,Nat.mul_one,Nat.zero_add]; exact kdd.get (by omega)
  refine gd_mk (decide_eq_true (Int.natCast_nonneg t)) (gd_mk (decide_eq_true hlt2) (gd_mk (decide_eq_true (by rw [Int.toNat_natCast]; simp; omega)) ?_))
  dsimp only
  rw [nK]
  refine ⟨_,rd.cell (o:=0) rfl,_,rd.cell (o:=4) rfl,_,rdd.cell (o:=7) rfl,_,rdd.cell (o:=5) rfl,_,rdd.cell (o:=6) rfl,gd_mk (decide_eq_true (Int.natCast_nonneg t)) (gd_mk (decide_eq_true hlt2) ⟨_,kc,?_⟩)⟩
  refine (turn_calls v4 6 (by omega) (by omega) _).mono ?_
  rintro e w' ⟨rfl,rfl⟩
  have rf:=Fr.refl (fun _=>False) u.drew.drew
  have rfd:=Fr.refl (fun _=>False) u.drew.drew.drew
  refine ⟨_,rfl,kp_mk rf k1 (fun h=>h) (kp_mk rf k6 (fun h=>h) (kp_mk rf k6 (fun h=>h) (kp_mk rf k6 (fun h=>h) ((turn_calls v4 11 (by omega) (by omega) _).mono ?_))))⟩
  rintro e w' ⟨rfl,rfl⟩
  refine ⟨_,rfl,kp_mk rf k1 (fun h=>h) (kp_mk rf k6 (fun h=>h) (kp_mk rf k6 (fun h=>h) (kp_mk rf k6 (fun h=>h) ((turn_calls v4 25 (by omega) (by omega) _).mono ?_))))⟩
  rintro e w' ⟨rfl,rfl⟩
  refine ⟨_,rfl,kp_mk rf k1 (fun h=>h) (kp_mk rf k6 (fun h=>h) (kp_mk rf k6 (fun h=>h) (kp_mk rf k6 (fun h=>h) ⟨_,rddd.cell (o:=1) rfl,_,rddd.cell (o:=2) rfl,_,rddd.cell (o:=1) rfl,_,rddd.cell (o:=2) rfl,(turn_calls v0 2 (by omega) (by omega) _).mono ?_⟩)))⟩
  rintro e w' ⟨rfl,rfl⟩
  refine ⟨_,rfl,kp_mk rfd k6d (fun h=>h) (kp_mk rfd k6d (fun h=>h) (kp_mk rfd k6d (fun h=>h) (kp_mk rfd k6d (fun h=>h) ((turn_calls v0 13 (by omega) (by omega) _).mono ?_))))⟩
  rintro e w' ⟨rfl,rfl⟩
  refine ⟨_,rfl,kp_mk rfd k6d (fun h=>h) (kp_mk rfd k6d (fun h=>h) (kp_mk rfd k6d (fun h=>h) (kp_mk rfd k6d (fun h=>h) ((turn_calls v0 22 (by omega) (by omega) _).mono ?_))))⟩
  rintro e w' ⟨rfl,rfl⟩
  refine ⟨_,rfl,kp_mk rfd k6d (fun h=>h) (kp_mk rfd k6d (fun h=>h) (kp_mk rfd k6d (fun h=>h) (kp_mk rfd k6d (fun h=>h) ⟨_,rddd.cell (o:=0) rfl,_,rddd.cell (o:=1) rfl,_,rddd.cell (o:=2) rfl,_,rddd.cell (o:=3) rfl,_,rddd.cell (o:=4) rfl,_,rddd.cell (o:=5) rfl,_,rddd.cell (o:=6) rfl,gd_mk rfl ?_⟩)))⟩
  simp only [w_xor,w_not,w_and,w_add]
  refine rddd.st_mk (o:=0) (by simp) (by intro v hv; simp only [List.mem_append,List.mem_singleton,List.not_mem_nil,or_false] at hv; rcases hv with rfl | rfl | rfl | rfl | rfl | rfl | rfl | rfl <;> rfl) (fun r f=>jnC_mk (hC _ _ ⟨?_,?_,?_,t+1,by omega,?_,?_⟩ ?_))
  ·exact (hf.trans1 ((Fr.drew _ _).trans1 ((Fr.drew _ _).trans1 (Fr.drew _ _)))).trans f (fun _ _ h=>h) (fun k hk h=>by omega)
  ·exact (show RecAt u.drew.drew.drew b1 _ _ from hr1).fr f (fun h=>by omega)
  ·exact (show RecAt u.drew.drew.drew b3 _ _ from hr3).fr f (fun h=>by omega)
  ·rw [i64_id (by omega) (by omega)]; rfl
  ·rw [splice_whole (by simp)] at r
   show RecAt _ b6 _ ((rnd (rnds W s t) (KC.getD t 0) (W.getD t 0)).map wv)
   rw [hv]
   exact r
  ·show (64 - IntKind.wrap .i64 ((t:Int)+1)).toNat < (64 - (t:Int)).toNat
   rw [i64_id (by omega) (by omega)]; omega
 ·have hge2:¬ (t:Int) < 64:=of_decide_eq_false hge
  have ht64:t=64:=by omega
  subst ht64
  clear hC
  generalize rnds W s 64=V at hr hlen ⊢
  refine jnC_mk ?_
  refine loop_rule (fun p u=>Fr (fun _=>False) w u/\RecAt u b3 171 Z171/\RecAt u b6 171 (V.map wv)/\∃ (i:Nat) (L:List UInt32),i<=8/\p=((b1,0),(b3,0),(b6,0),(i:Int),())/\RecAt u b1 171 (L.map wv)/\L.length=8/\∀ j,j < 8->L.getD j 0=if j < i then s.getD j 0+V.getD j 0 else s.getD j 0)
   (fun p _=>(8 - p.2.2.2.1).toNat) ?_ _ _ ⟨hf,hr3,hr,0,s,by omega,rfl,hr1,hs,fun j _=>rfl⟩
  clear hf hr1 hr3 hr hKu
  rintro p u C ⟨hf,hr3,hr6,i,L,hi,rfl,hr1,hL,hLj⟩ hC _
  refine vIf_mk (fun hlt=>?_) (fun hge=>?_)
  ·have hlt2:(i:Int) < 8:=of_decide_eq_true hlt
   have rd1:RecAt u.drew b1 171 (L.map wv):=hr1
   have rd6:RecAt u.drew b6 171 (V.map wv):=hr6
   dsimp only
   simp only [Int.toNat_natCast,Nat.zero_add,Nat.mul_one]
   refine gd_mk (decide_eq_true (Int.natCast_nonneg i)) (gd_mk (decide_eq_true hlt2) ⟨_,rd1.cell (wget (by omega)),gd_mk (decide_eq_true (Int.natCast_nonneg i)) (gd_mk (decide_eq_true hlt2) ⟨_,rd6.cell (wget (by omega)),gd_mk (decide_eq_true (Int.natCast_nonneg i)) (gd_mk (decide_eq_true hlt2) ?_)⟩)⟩)
   rw [w_add]
   refine rd1.st_mk (by simp; omega) (wv_one [_]) (fun r f=>jnC_mk (hC _ _ ⟨?_,?_,?_,i+1,L.set i (L.getD i 0+V.getD i 0),by omega,?_,?_,by simpa using hL,fun j hj=>?_⟩ ?_))
   ·exact (hf.trans1 (Fr.drew _ _)).trans f (fun _ _ h=>h) (fun k hk h=>by omega)
   ·exact (show RecAt u.drew b3 _ _ from hr3).fr f (fun h=>by omega)
   ·exact rd6.fr f (fun h=>by omega)
   ·rw [i64_id (by omega) (by omega)]; rfl
   ·rw [<- set_map (by omega)]; exact r
   ·rw [List.getD_eq_getElem?_getD,List.getElem?_set]
    by_cases hij:i=j
    ·subst hij
     rw [if_pos rfl,if_pos (by omega),if_pos (by omega),Option.getD_some,hLj i hj,if_neg (by omega)]
    ·rw [if_neg hij,<- List.getD_eq_getElem?_getD,hLj j hj]
     by_cases hji:j < i
     ·rw [if_pos hji,if_pos (by omega)]
     ·rw [if_neg hji,if_neg (by omega)]
   ·show (8 - IntKind.wrap .i64 ((i:Int)+1)).toNat < (8 - (i:Int)).toNat
    rw [i64_id (by omega) (by omega)]; omega
  ·have hge2:¬ (i:Int) < 8:=of_decide_eq_false hge
   have hi8:i=8:=by omega
   subst hi8
   have hfin:L=List.zipWith (·+·) s V:=by
    obtain ⟨l0,l1,l2,l3,l4,l5,l6,l7,rfl⟩:=eight hL
    obtain ⟨s0,s1,s2,s3,s4,s5,s6,s7,rfl⟩:=eight hs
    obtain ⟨v0,v1,v2,v3,v4,v5,v6,v7,rfl⟩:=eight hlen
    have e0:=hLj 0 (by omega); have e1:=hLj 1 (by omega); have e2:=hLj 2 (by omega); have e3:=hLj 3 (by omega)
    have e4:=hLj 4 (by omega); have e5:=hLj 5 (by omega); have e6:=hLj 6 (by omega); have e7:=hLj 7 (by omega)
    simp at e0 e1 e2 e3 e4 e5 e6 e7
    simp [e0,e1,e2,e3,e4,e5,e6,e7]
   rw [<- hfin]
   have hl:(L.map wv).length=8:=by simpa using hL
   refine ⟨_,hl,hr1.cells (o:=0) (fun j v hj=>by simpa using hj),gd_mk (by simpa using hl) ?_⟩
   refine hr3.st_mk (o:=0) (by rw [hl,hZ]; omega) (wv_one _) (fun r f=>?_)
   rw [splice_whole (by rw [hl,hZ])] at r
   exact ⟨_,hl,r.cells (o:=0) (fun j v hj=>by simpa using hj),rfl,hf.trans f (fun _ _ h=>h) (fun k hk h=>by omega)⟩
theorem slA0 {A:Option Addr} {b o c:Nat} (h:A=some ⟨b,o,none⟩):slA A c 0 1=some ⟨b,o,none⟩:=by
 subst h
 unfold slA
 split
 ·rfl
 ·rw [Option.map_some,add_none,Nat.zero_mul,Nat.add_zero]
theorem Sl.take {w:World} {A:Option Addr} {n c k:Nat} {l:List Value} (h:Sl w 1 A n l) (hk:k<=n):Sl w 1 (slA A c 0 1) k (l.take k):=by
 have hl:=h.1
 refine ⟨by rw [List.length_take]; omega,fun h0=>?_⟩
 obtain ⟨b,o,hA,hc⟩:=h.2 (by omega)
 refine ⟨b,o,slA0 hA,fun j v hj=>hc j v ?_⟩
 rw [List.getElem?_take] at hj
 split at hj
 ·exact hj
 ·cases hj
theorem Sl.drop {w:World} {A:Option Addr} {n c k:Nat} {l:List Value} (h:Sl w 1 A n l) (hk:k<=n) (hc:n<=c):Sl w 1 (slA A c k 1) (n - k) (l.drop k):=by
 have hl:=h.1
 refine ⟨by rw [List.length_drop]; omega,fun h0=>?_⟩
 obtain ⟨b,o,hA,hcl⟩:=h.2 (by omega)
 subst hA
 refine ⟨b,o+k,?_,fun j v hj=>?_⟩
 ·unfold slA
  rw [if_neg (by omega),Option.map_some,add_none,Nat.mul_one]
 ·rw [List.getElem?_drop] at hj
  rw [Nat.add_assoc]
  exact hcl _ v hj
theorem slA_blk {A:Option Addr} {c k n:Nat}:blkOf (slA A c k 1)=blkOf A:=by
 unfold slA
 split
 ·rfl
 ·cases A with
  | none=>rfl
  | some a=>obtain ⟨b,o,s⟩:=a; cases s <;> simp [blkOf,Addr.add] <;> split <;> rfl
theorem app_full {w:World} {B:Nat} {e:TypeId} {sz bytes:Nat} {z:List Value} {A:Option Addr} {n:Nat} {x:Value} {old us:List Value} {m:Nat} {K:Option Addr->Nat->Nat->World->Prop}
  (hs:Sl w sz A n old) (hx:srcOf w sz x m us) (h1:∀ v ∈ us,v.oneCell'=true) (hz:z.length=sz) (hb:(n+m) * bytes<=140737488355328) (hm:n+m<=9223372036854775807) (hB:B<=w.heap.size)
  (hK0:m=0->us=[]->K A (n+m) n w) (hK:m ≠ 0->∀ A' c' w',Row w' B e sz A' (n+m) c' (old ++ us)->Fr (fun _=>False) w w'->(∀ k,blkOf A'=some k->w.heap.size<=k)->K A' (n+m) c' w'):app w sz bytes z e A n n x K:=by
 have hul:us.length=m * sz:=by
  unfold srcOf at hx
  split at hx
  ·obtain ⟨rfl,h,_⟩:=hx; exact h
  ·obtain ⟨rfl,rfl,rfl⟩:=hx; simp
  ·exact hx.elim
 refine ⟨m,us,hx,h1,hb,hm,fun hle=>⟨fun h0=>?_,fun h0=>absurd hle (by omega)⟩,fun hlt=>⟨old,hs.src,fun cap hc1 hc2=>?_⟩⟩
 ·subst h0
  exact hK0 rfl (List.length_eq_zero_iff.1 (by simpa using hul))
 ·refine hK (by omega) _ _ _ ⟨by rw [List.length_append,hs.1,hul,Nat.add_mul],hc1,.inr ⟨_,_,rfl,?_,heap_alloc_at _ _,?_,?_⟩⟩ ?_ (fun k hk=>(by simp only [blkOf,Option.some.injEq] at hk; subst hk; exact Nat.le_refl _))
  ·exact hB
  ·simp only [List.size_toArray,List.length_append,zeros_length,hs.1,hul,hz,<- Nat.add_mul]
   congr 1; omega
  ·simp only [List.append_assoc]
   rw [<- List.append_assoc,List.take_append_of_le_length (by rw [List.length_append,hs.1,hul,<- Nat.add_mul]; exact Nat.le_refl _),List.take_of_length_le (by rw [List.length_append,hs.1,hul,<- Nat.add_mul]; exact Nat.le_refl _)]
  ·exact (Fr.drew _ w).trans1 (Fr.alloc _ _ _)
def firstP:List UInt32:=[1779033703,3144134277,1013904242,2773480762,1359893119,2600822924,528734635,1541459225]
def blocksN (s:List UInt32) (l:List UInt8):Nat->List UInt32
 | 0=>s
 | k+1=>blocksN (blockP s (l.take 64)) (l.drop 64) k
theorem blocksN_len:∀ (k:Nat) {s:List UInt32} {l:List UInt8},s.length=8->(blocksN s l k).length=8
 | 0,_,_,h=>h
 | k+1,_,_,h=>blocksN_len k (blockP_len h)
theorem blocksN_append:∀ (j:Nat) (s:List UInt32) (a c:List UInt8) (k:Nat),64 * j<=a.length->blocksN s (a ++ c) (j+k)=blocksN (blocksN s a j) (a.drop (64 * j) ++ c) k
 | 0,s,a,c,k,_=>by simp [blocksN]
 | j+1,s,a,c,k,h=>by
  rw [show j+1+k=(j+k)+1 by omega]
  show blocksN (blockP s ((a ++ c).take 64)) ((a ++ c).drop 64) (j+k)=_
  rw [List.take_append_of_le_length (by omega),List.drop_append_of_le_length (by omega),blocksN_append j _ _ _ _ (by rw [List.length_drop]; omega),List.drop_drop,show 64+64 * j=64 * (j+1) by omega]
  rfl
def be64 (n:Nat):List UInt8:=[UInt8.ofNat (n / 2 ^ 56),UInt8.ofNat (n / 2 ^ 48),UInt8.ofNat (n / 2 ^ 40),UInt8.ofNat (n / 2 ^ 32),UInt8.ofNat (n / 2 ^ 24),UInt8.ofNat (n / 2 ^ 16),UInt8.ofNat (n / 2 ^ 8),UInt8.ofNat n]
def padP (n:Nat):List UInt8:=[128] ++ List.replicate ((119 - n % 64) % 64) 0 ++ be64 (8 * n)
theorem padP_len (n:Nat):(padP n).length=9+(119 - n % 64) % 64:=by simp [padP,be64]; omega
def outP (s:List UInt32):List UInt8:=s.flatMap fun x=>[UInt8.ofNat (x.toNat / 2 ^ 24),UInt8.ofNat (x.toNat / 2 ^ 16),UInt8.ofNat (x.toNat / 2 ^ 8),UInt8.ofNat x.toNat]
def shaS (l:List UInt8):List UInt32:=blocksN firstP (l ++ padP l.length) ((l ++ padP l.length).length / 64)
def shaP (l:List UInt8):List UInt8:=outP (shaS l)
theorem shaS_len (l:List UInt8):(shaS l).length=8:=blocksN_len _ rfl
structure HashAt (w:World) (B p:Nat) (l:List UInt8) (e:TypeId) (A:Option Addr) (n c:Nat):Prop where
 hd:RecAt w p e ((blocksN firstP l (l.length / 64)).map wv ++ [.slice A n c,.int .i64 (l.length:Nat)])
 row:Sl w 1 A n ((l.drop (64 * (l.length / 64))).map bv)
 le:n<=c
 ne:blkOf A ≠ some p
 low:∀ k,blkOf A=some k->B<=k
 bp:B<=p
theorem HashAt.n {w:World} {B p:Nat} {l:List UInt8} {e:TypeId} {A:Option Addr} {n c:Nat} (h:HashAt w B p l e A n c):n=l.length % 64:=by
 have:=h.row.1
 simp at this; omega
theorem new_hash (w:World):Calls Tryz.prog 68 #[] w fun e w'=>∃ p ty,e=.returned (.pointer (some ⟨p,0,none⟩))/\Fr (fun _=>False) w w'/\w.heap.size<=p/\HashAt w' w.heap.size p [] ty none 0 0:=by
 refine (F68.of w (Q:=fun v w'=>∃ p ty,v=.pointer (some ⟨p,0,none⟩)/\Fr (fun _=>False) w w'/\w.heap.size<=p/\HashAt w' w.heap.size p [] ty none 0 0) ?_).mono (fun e w' ⟨v,he,p,ty,hv,h⟩=>⟨p,ty,by rw [he,hv],h⟩)
 refine (F99.of w (Q:=fun v w'=>v=ofL (firstP.map wv)/\Fr (fun _=>False) w w') ?_).mono ?_
 ·refine nw_mk (gd_mk rfl ?_)
  have hZ:Z171.length=8:=by decide +kernel
  have f1:Fr (fun _=>False) w (w.alloc (.cells Z171.toArray 171)):=Fr.alloc _ _ _
  have r1:RecAt (w.alloc (.cells Z171.toArray 171)) w.heap.size 171 Z171:=RecAt.new w _ _
  generalize w.alloc (.cells Z171.toArray 171)=w1 at f1 r1 ⊢
  show st w1 w.heap.size 0 (firstP.map wv) _
  refine r1.st_mk (o:=0) (by rw [hZ]; decide) (wv_one _) (fun r f=>?_)
  rw [splice_whole (by rw [hZ]; rfl)] at r
  exact ⟨firstP.map wv,rfl,r.cells (o:=0) (fun j v hj=>by simpa using hj),rfl,f1.trans f (fun _ _ h=>h) (fun k hk h=>by omega)⟩
 rintro e w1 ⟨v,rfl,rfl,f1⟩
 refine ⟨_,rfl,gd_mk rfl (nw_mk ⟨w1.heap.size,174,rfl,f1.trans1 (Fr.alloc _ _ _),f1.size,?_⟩)⟩
 exact ⟨RecAt.new _ _ _,Sl.nil _ _ _,Nat.le_refl _,by simp [blkOf],by simp [blkOf],f1.size⟩
theorem wvs_get {S:List UInt32} {z:List Value} (h:S.length=8) (j:Nat):(S.map wv ++ z)[8+j]?=z[j]?:=by
 rw [List.getElem?_append_right (by simp [h])]
 congr 1; simp [h]
theorem set_state {S T:List UInt32} {z:List Value} (h:S.length=8) (h':T.length=8):splice (S.map wv ++ z) 0 (T.map wv)=T.map wv ++ z:=by
 unfold splice
 rw [List.take_zero,List.nil_append,Nat.zero_add,List.length_map,h',List.drop_append,List.drop_eq_nil_of_le (by simp [h]),List.nil_append,List.length_map,h]
 rfl
theorem write_calls (B p:Nat) (l:List UInt8) (ty:TypeId) (A:Option Addr) (n c:Nat) (A1:Option Addr) (n1 c1:Nat) (l1:List UInt8) (w:World) (h:HashAt w B p l ty A n c) (h1:Sl w 1 A1 n1 (l1.map bv)) (hp:n1 ≠ 0->blkOf A1 ≠ some p)
  (hK:KAt w) (hpK:p ≠ 0) (hB:B<=w.heap.size) (hlen:l.length+l1.length<=70368744177664) :
  Calls Tryz.prog 69 #[.pointer (some ⟨p,0,none⟩),.slice A1 n1 c1] w fun e w'=>e=.returned (.tuple #[])/\Fr (fun k=>k=p) w w'/\∃ A' n' c',HashAt w' B p (l ++ l1) ty A' n' c':=by
 refine (F69.of (some ⟨p,0,none⟩) A1 n1 c1 w (Q:=fun v w'=>v=.tuple #[]/\Fr (fun k=>k=p) w w'/\∃ A' n' c',HashAt w' B p (l ++ l1) ty A' n' c') ?_).mono (fun e w' ⟨v,he,hv,h⟩=>⟨by rw [he,hv],h⟩)
 have hS:=blocksN_len (l.length / 64) (s:=firstP) (l:=l) rfl
 have hn:=h.n
 have hl1:l1.length=n1:=by simpa using h1.1
 generalize hSS:blocksN firstP l (l.length / 64)=S at hS
 have hrec:=h.hd
 rw [hSS] at hrec
 refine vIf_f rfl (dr_mk ⟨_,hrec.cell (o:=0+9) (wvs_get hS 1),dr_mk ?_⟩)
 have e1:IntKind.wrap .i64 (((l.length:Nat):Int)+((n1:Nat):Int))=(((l ++ l1).length:Nat):Int):=by
  rw [i64_id (by omega) (by omega),List.length_append,hl1]; omega
 rw [e1]
 refine hrec.st_mk (o:=0+9) (by simp [hS]) (by intro v hv; simp only [List.mem_singleton] at hv; subst hv; rfl) (fun r f=>?_)
 have esp:splice (S.map wv ++ [.slice A n c,.int .i64 (l.length:Nat)]) (0+9) [.int .i64 ((l ++ l1).length:Nat)]=S.map wv ++ [.slice A n c,.int .i64 ((l ++ l1).length:Nat)]:=by
  obtain ⟨a0,a1,a2,a3,a4,a5,a6,a7,rfl⟩:=eight hS
  rfl
 rw [esp] at r
 have hrow2:Sl (stB w p (0+9) [.int .i64 ((l ++ l1).length:Nat)]) 1 A n ((l.drop (64 * (l.length / 64))).map bv):=f.sl h.row (fun _ k hk h'=>h.ne (by rw [hk,h']))
 have h12:Sl (stB w p (0+9) [.int .i64 ((l ++ l1).length:Nat)]) 1 A1 n1 (l1.map bv):=f.sl h1 (fun h0 k hk h'=>hp h0 (by rw [hk,h']))
 have hK2:KAt (stB w p (0+9) [.int .i64 ((l ++ l1).length:Nat)]):=hK.fr f (fun h'=>hpK h'.symm)
 have hB2:B<=(stB w p (0+9) [.int .i64 ((l ++ l1).length:Nat)]).heap.size:=by rw [stB_size]; exact hB
 have hpl:p < (stB w p (0+9) [.int .i64 ((l ++ l1).length:Nat)]).heap.size:=r.lt
 generalize stB w p (0+9) [.int .i64 ((l ++ l1).length:Nat)]=w2 at r f hrow2 h12 hK2 hB2 hpl ⊢
 have r':RecAt w2.drew p ty (S.map wv ++ [.slice A n c,.int .i64 ((l ++ l1).length:Nat)]):=r
 refine dr_mk ⟨_,_,_,r'.cell (o:=0+8) (wvs_get hS 0),dr_mk ⟨_,_,_,r'.cell (o:=0+8) (wvs_get hS 0),dr_mk ⟨_,_,_,r'.cell (o:=0+8) (wvs_get hS 0),?_⟩⟩⟩
 have hle:=h.le
 refine gd_mk (decide_eq_true (Int.natCast_nonneg n)) (gd_mk (decide_eq_true (by omega)) (gd_mk (decide_eq_true (Int.natCast_nonneg n)) (gd_mk (decide_eq_true (by rw [Int.toNat_natCast]; omega)) ?_)))
 rw [Int.toNat_natCast]
 generalize hR:l.drop (64 * (l.length / 64))=R at hrow2
 have hRl:R.length=n:=by simpa using hrow2.1
 have go:∀ (A2:Option Addr) (c2:Nat) (w3:World),Fr (fun _=>False) w2.drew w3->Sl w3 1 A2 (n+n1) ((R ++ l1).map bv)->n+n1<=c2->blkOf A2 ≠ some p ->
   jnC (F69.l3 (fun v w'=>v=.tuple #[]/\Fr (fun k=>k=p) w w'/\∃ A' n' c',HashAt w' B p (l ++ l1) ty A' n' c')) (some ⟨p,0,none⟩,(A2,n+n1,c2),()) w3:=by
  intro A2 c2 w3 f3 hs2 hc2 hne2
  refine jnC_mk (loop_rule (fun s u=>Fr (fun k=>k=p) w u/\∃ (j:Nat) (A3:Option Addr) (n3 c3:Nat),64 * j<=(R ++ l1).length/\s=(some ⟨p,0,none⟩,(A3,n3,c3),())/\Sl u 1 A3 n3 (((R ++ l1).drop (64 * j)).map bv)/\n3<=c3/\blkOf A3 ≠ some p /\
    RecAt u p ty ((blocksN S (R ++ l1) j).map wv ++ [.slice A n c,.int .i64 ((l ++ l1).length:Nat)])) (fun s _=>s.2.1.2.1) ?_ _ _ ⟨?_,0,A2,n+n1,c2,by omega,rfl,hs2,hc2,hne2,r.fr (S:=fun _=>False) ((Fr.drew _ _).trans1 f3) (fun h=>h)⟩)
  rotate_left
  ·exact f.trans ((Fr.drew _ w2).trans1 f3) (fun _ _ h=>h) (fun k _ h=>h.elim)
  rintro s u C ⟨hf,j,A3,n3,c3,hj,rfl,hs3,hc3,hne3,hr3⟩ hC _
  have hSj:=blocksN_len j (s:=S) (l:=R ++ l1) hS
  have hl3:((R ++ l1).drop (64 * j)).length=n3:=by simpa using hs3.1
  have hKu:KAt u:=hK.fr hf (fun h'=>hpK h'.symm)
  refine vIf_mk (fun hlt=>?_) (fun hge=>?_)
  ·have hlt2:(n3:Int) >= 64:=of_decide_eq_true hlt
   have hr3':RecAt u.drew p ty _:=hr3
   refine dr_mk ⟨(blocksN S (R ++ l1) j).map wv,by simpa using hSj,hr3'.cells (o:=0) (fun q v hq=>by
    rw [Nat.zero_add,List.getElem?_append_left (List.getElem?_eq_some_iff.1 hq).1]; exact hq),gd_mk (decide_eq_true (by show (64:Int)<=(c3:Nat); omega)) ?_⟩
   have ht:Sl u.drew 1 (slA A3 c3 0 1) 64 ((((R ++ l1).drop (64 * j)).take 64).map bv):=by rw [List.map_take]; exact Sl.take (show Sl u.drew 1 A3 n3 _ from hs3) (by omega)
   refine (block_calls (slA A3 c3 0 1) c3 _ _ u.drew ht (by omega) hSj hKu).mono ?_
   rintro e u2 ⟨rfl,f2⟩
   have f2':Fr (fun _=>False) u u2:=(Fr.drew _ _).trans1 f2
   have hbl:=blockP_len (s:=blocksN S (R ++ l1) j) (b:=((R ++ l1).drop (64 * j)).take 64) hSj
   refine ⟨_,rfl,dr_mk (gd_mk (by simpa using hbl) ?_)⟩
   refine (hr3.fr f2' (fun h=>h)).st_mk (o:=0) (by simp [hSj,hbl]) (wv_one _) (fun r4 f4=>gd_mk (decide_eq_true (by show (64:Int)<=(n3:Nat); omega)) (jnC_mk (hC _ _ ⟨?_,j+1,_,_,_,?_,rfl,?_,?_,?_,?_⟩ ?_)))
   ·exact (hf.trans f2' (fun _ _ h=>h) (fun _ _ h=>h.elim)).trans1 f4
   ·simp at hl3 ⊢; omega
   ·have:=Sl.drop (c:=c3) hs3 (k:=64) (by omega) hc3
    rw [<- List.map_drop,List.drop_drop] at this
    have hthis:=(f2'.sl this (fun _ _ _ h=>h))
    exact f4.sl hthis (fun _ k hk h'=>hne3 (by rw [slA_blk (n:=0)] at hk; rw [hk,h']))
   ·show n3 - 64<=c3 - 64; omega
   ·rw [slA_blk (n:=0)]; exact hne3
   ·rw [set_state hSj hbl] at r4
    have:blocksN S (R ++ l1) (j+1)=blockP (blocksN S (R ++ l1) j) (((R ++ l1).drop (64 * j)).take 64):=by
     have:=blocksN_append j S (R ++ l1) [] 1 hj
     rw [List.append_nil,List.append_nil] at this
     exact this
    rw [this]
    exact r4
   ·show n3 - 64 < n3; omega
  ·have hge2:¬ (n3:Int) >= 64:=of_decide_eq_false hge
   have hsrc:=hs3.src (c:=c3)
   refine app_row2 (Row.nil u B 5 1) hsrc (bvs_one _) rfl (by simp at hl3; omega) (by simp at hl3; omega) (by have:=hf.size; omega) (fun A4 c4 w4 hr4 f4 hb4=>?_)
   have f4':Fr (fun _=>False) u w4:=f4.mono (fun k _ hk=>by simp [blkOf] at hk)
   have hpu:=hr3.lt
   have hA4:blkOf A4 ≠ some p:=fun hk=>by
    rcases hb4 p hk with h' | h'
    ·simp [blkOf] at h'
    ·omega
   refine dr_mk ((hr3.fr f4' (fun h=>h)).st_mk (o:=0+8) (by simp [hSj]) (by intro v hv; simp only [List.mem_singleton] at hv; subst hv; rfl) (fun r5 f5=>?_))
   have hq:(l ++ l1).length / 64=l.length / 64+j:=by
    simp only [List.length_append,List.length_drop] at hl3 hj ⊢
    omega
   have hbl:blocksN firstP (l ++ l1) ((l ++ l1).length / 64)=blocksN S (R ++ l1) j:=by
    rw [hq,blocksN_append _ _ _ _ _ (by omega),hSS,hR]
   have hdr:(l ++ l1).drop (64 * ((l ++ l1).length / 64))=(R ++ l1).drop (64 * j):=by
    rw [hq,Nat.mul_add,<- List.drop_drop,List.drop_append_of_le_length (by omega),hR]
   refine ⟨rfl,(hf.trans f4' (fun _ _ h=>h) (fun _ _ h=>h.elim)).trans1 f5,A4,0+n3,c4,?_,?_,hr4.le,hA4,fun k hk=>(hr4.blt hk).1,h.bp⟩
   ·rw [hbl]
    have esp2:∀ T:List UInt32,T.length=8->splice (T.map wv ++ [.slice A n c,.int .i64 ((l ++ l1).length:Nat)]) (0+8) [.slice A4 (0+n3) c4]=T.map wv ++ [.slice A4 (0+n3) c4,.int .i64 ((l ++ l1).length:Nat)]:=by
     intro T hT
     obtain ⟨a0,a1,a2,a3,a4,a5,a6,a7,rfl⟩:=eight hT
     rfl
    rw [esp2 _ hSj] at r5
    exact r5
   ·rw [hdr]
    have:=hr4.sl
    rw [List.nil_append] at this
    exact f5.sl this (fun _ k hk h'=>hA4 (by rw [hk,h']))
 have hs0:Sl w2.drew 1 (slA A n 0 1) n (R.map bv):=by
  have:=Sl.take (c:=n) (show Sl w2.drew 1 A n _ from hrow2) (Nat.le_refl n)
  rwa [List.take_of_length_le (by simp [hRl])] at this
 have hne0:blkOf (slA A n 0 1) ≠ some p:=by rw [slA_blk (n:=0)]; exact h.ne
 refine app_full (B:=B) hs0 (show srcOf w2.drew 1 (.slice A1 n1 c1) n1 (l1.map bv) from Sl.src (show Sl w2.drew 1 A1 n1 _ from h12)) (bvs_one _) rfl (by omega) (by omega) hB2 (fun h0 hu=>?_) (fun h0 A' c' w3 hr3 f3 hb3=>?_)
 ·subst h0
  have hl10:l1=[]:=List.length_eq_zero_iff.1 hl1
  subst hl10
  exact go _ _ _ (Fr.refl _ _) (by rw [List.append_nil]; exact hs0) (by omega) hne0
 ·refine go _ _ _ f3 (by rw [List.map_append]; exact hr3.sl) hr3.le (fun hk=>?_)
  have:=hb3 p hk
  have:w2.drew.heap.size=w2.heap.size:=rfl
  omega
theorem be64_get (n j:Nat) (h:j < 8):(be64 n)[j]?=some (UInt8.ofNat (n / 2 ^ (56 - 8 * j))):=by
 match j,h with
 | 0,_=>rfl
 | 1,_=>rfl
 | 2,_=>rfl
 | 3,_=>rfl
 | 4,_=>rfl
 | 5,_=>rfl
 | 6,_=>rfl
 | 7,_=>simp [be64]
theorem u8_of (n:Nat):IntKind.wrap .u8 (n:Int)=((UInt8.ofNat n).toNat:Int):=by
 rw [IntKind.wrap_u8]; simp
theorem one_row {w:World} {c:UInt8} {e:TypeId}:srcOf (w.alloc (.cells #[.int .u8 c.toNat] e)) 1 (.slice (some ⟨w.heap.size,0,none⟩) 1 1) 1 [bv c] :=
 (Row.new (sz:=1) (n:=1) (B:=0) (vs:=[bv c]) (Nat.zero_le _) rfl).sl.src
theorem end_calls (B p:Nat) (l:List UInt8) (ty:TypeId) (A:Option Addr) (n c:Nat) (w:World) (h:HashAt w B p l ty A n c) (hlen:l.length<=70368744177664) :
  Calls Tryz.prog 101 #[.pointer (some ⟨p,0,none⟩)] w fun e w'=>∃ A' n' c',e=.returned (.slice A' n' c')/\Fr (fun _=>False) w w'/\Sl w' 1 A' n' ((l.drop (64 * (l.length / 64)) ++ padP l.length).map bv)/\n'<=c'/\(∀ k,blkOf A'=some k->w.heap.size<=k):=by
 refine (F101.of (some ⟨p,0,none⟩) w (Q:=fun v w'=>∃ A' n' c',v=.slice A' n' c'/\Fr (fun _=>False) w w'/\Sl w' 1 A' n' ((l.drop (64 * (l.length / 64)) ++ padP l.length).map bv)/\n'<=c'/\(∀ k,blkOf A'=some k->w.heap.size<=k)) ?_).mono (fun e w' ⟨v,he,A',n',c',hv,h⟩=>⟨A',n',c',by rw [he,hv],h⟩)
 have hS:=blocksN_len (l.length / 64) (s:=firstP) (l:=l) rfl
 have hn:=h.n
 have hle:=h.le
 have hrec:RecAt w.drew p ty _:=h.hd
 have hpl:=h.hd.lt
 generalize blocksN firstP l (l.length / 64)=S at hS hrec
 have hR:=h.row
 generalize l.drop (64 * (l.length / 64))=R at hR ⊢
 have hRl:R.length=n:=by simpa using hR.1
 refine dr_mk ⟨_,_,_,hrec.cell (o:=0+8) (wvs_get hS 0),dr_mk ⟨_,_,_,hrec.cell (o:=0+8) (wvs_get hS 0),dr_mk ⟨_,_,_,hrec.cell (o:=0+8) (wvs_get hS 0),?_⟩⟩⟩
 refine gd_mk (decide_eq_true (Int.natCast_nonneg n)) (gd_mk (decide_eq_true (by omega)) (gd_mk (decide_eq_true (Int.natCast_nonneg n)) (gd_mk (decide_eq_true (by rw [Int.toNat_natCast]; omega)) (nw_mk ?_))))
 rw [Int.toNat_natCast]
 have fa:Fr (fun _=>False) w.drew (w.drew.alloc (.cells ([Value.int .u8 128] ++ []).toArray 5)):=Fr.alloc _ _ _
 have hsrc:srcOf (w.drew.alloc (.cells ([Value.int .u8 128] ++ []).toArray 5)) 1 (.slice (some ⟨w.drew.heap.size,0,none⟩) 1 1) 1 [bv 128]:=one_row (c:=128)
 have hs1:(w.drew.alloc (.cells ([Value.int .u8 128] ++ []).toArray 5)).heap.size=w.heap.size+1:=alloc_size _ _
 generalize w.drew.alloc (.cells ([Value.int .u8 128] ++ []).toArray 5)=w1 at fa hsrc hs1 ⊢
 have f01:Fr (fun _=>False) w w1:=(Fr.drew _ _).trans1 fa
 have hpd:p < w.drew.heap.size:=hpl
 refine kp_mk fa hpd (fun h=>h) (kp_mk fa hpd (fun h=>h) (kp_mk fa hpd (fun h=>h) ?_))
 have hs0:Sl w1 1 (slA A n 0 1) n (R.map bv):=by
  have:=Sl.take (c:=n) (f01.sl hR (fun _ _ _ h=>h)) (Nat.le_refl n)
  rwa [List.take_of_length_le (by simp [hRl])] at this
 refine app_full (B:=w.heap.size) hs0 hsrc (bvs_one [128]) rfl (by omega) (by omega) (by omega) (fun h0=>absurd h0 (by omega)) (fun _ A2 c2 w2 hr2 f2 hb2=>jnC_mk ?_)
 have hZ:(119 - n % 64) % 64=(119 - l.length % 64) % 64:=by omega
 refine loop_rule (fun s u=>Fr (fun _=>False) w u/\∃ (k:Nat) (A3:Option Addr) (c3:Nat),k<=(119 - l.length % 64) % 64/\s=(some ⟨p,0,none⟩,(A3,n+1+k,c3),())/\Row u w.heap.size 5 1 A3 (n+1+k) c3 ((R ++ [128] ++ List.replicate k 0).map bv))
  (fun s _=>n+1+(119 - l.length % 64) % 64 - s.2.1.2.1) ?_ _ _ ⟨f01.trans1 f2,0,A2,c2,Nat.zero_le _,rfl,by simpa using hr2⟩
 rintro s u C ⟨hf,k,A3,c3,hk,rfl,hr3⟩ hC _
 have hmod:Int.tmod ((n+1+k:Nat):Int) 64=(((n+1+k) % 64:Nat):Int):=tmod_nat _ 64
 refine vIf_mk (fun hne=>?_) (fun heq=>?_)
 ·have hne2:(n+1+k) % 64 ≠ 56:=by
   have:(Int.tmod ((n+1+k:Nat):Int) 64 != 56)=true:=hne
   rw [hmod] at this
   simp at this
   omega
  refine nw_mk ?_
  have fb:Fr (fun _=>False) u (u.alloc (.cells ([Value.int .u8 0] ++ []).toArray 5)):=Fr.alloc _ _ _
  have hsrc2:srcOf (u.alloc (.cells ([Value.int .u8 0] ++ []).toArray 5)) 1 (.slice (some ⟨u.heap.size,0,none⟩) 1 1) 1 [bv 0]:=one_row (c:=0)
  have hs3:(u.alloc (.cells ([Value.int .u8 0] ++ []).toArray 5)).heap.size=u.heap.size+1:=alloc_size _ _
  generalize u.alloc (.cells ([Value.int .u8 0] ++ []).toArray 5)=u1 at fb hsrc2 hs3 ⊢
  have hus:=hf.size
  dsimp only
  refine app_row (fb.row hr3 (fun _ _ h=>h)) hsrc2 (bvs_one [0]) rfl (by omega) (by omega) (by omega) (fun A4 c4 u2 hr4 f4=>jnC_mk (hC _ _ ⟨?_,k+1,A4,c4,by omega,rfl,?_⟩ ?_))
  ·exact (hf.trans1 fb).trans f4 (fun _ _ h=>h) (fun q hq h=>by have:=(hr3.blt h).1; omega)
  ·have e:(R ++ [128] ++ List.replicate (k+1) (0:UInt8)).map bv=(R ++ [128] ++ List.replicate k 0).map bv ++ [bv 0]:=by
    rw [List.replicate_succ',<- List.append_assoc,List.map_append]; rfl
   rw [e]; exact hr4
  ·show n+1+_ - (n+1+k+1) < n+1+_ - (n+1+k); omega
 ·have heq2:(n+1+k) % 64=56:=by
   have:(Int.tmod ((n+1+k:Nat):Int) 64 != 56)=false:=heq
   rw [hmod] at this
   simp at this
   omega
  have hkZ:k=(119 - l.length % 64) % 64:=by omega
  clear hC
  have hru:RecAt u p ty _:=hrec.fr (S:=fun _=>False) (w:=w.drew) (w':=u) ⟨hf.os,hf.tape,hf.output,hf.size,hf.block⟩ (fun h=>h)
  refine dr_mk ⟨_,hru.cell (o:=0+9) (wvs_get hS 1),jnC_mk ?_⟩
  have e8:IntKind.wrap .u64 (IntKind.wrap .u64 ((l.length:Nat):Int) * 8)=((8 * l.length:Nat):Int):=by
   rw [IntKind.wrap_u64,IntKind.wrap_u64]; omega
  dsimp only
  rw [e8]
  refine loop_rule (fun s u=>Fr (fun _=>False) w u/\∃ (j:Nat) (A4:Option Addr) (c4:Nat),j<=8/\s=((A4,n+1+k+j,c4),((8 * l.length:Nat):Int),(56 - 8 * j:Int),())/\Row u w.heap.size 5 1 A4 (n+1+k+j) c4 ((R ++ [128] ++ List.replicate k 0 ++ (be64 (8 * l.length)).take j).map bv))
   (fun s _=>(s.2.2.1+8).toNat) ?_ _ _ ⟨hf,0,A3,c3,by omega,rfl,by simpa using hr3⟩
  clear hf hr3 hru
  rintro s u C ⟨hf,j,A4,c4,hj,rfl,hr4⟩ hC _
  refine vIf_mk (fun hge=>?_) (fun hlt=>?_)
  ·have hge2:(56 - 8 * j:Int) >= 0:=of_decide_eq_true hge
   have ej:(56 - 8 * j:Int)=((56 - 8 * j:Nat):Int):=by omega
   refine gd_mk (decide_eq_true hge2) ?_
   dsimp only
   have eb:IntKind.wrap .u8 (Int.fdiv ((8 * l.length:Nat):Int) (2 ^ min ((56 - 8 * j:Int)).toNat 64))=((UInt8.ofNat (8 * l.length / 2 ^ (56 - 8 * j))).toNat:Int):=by
    rw [ej,Int.toNat_natCast,Nat.min_eq_left (by omega)]
    have e2:(2:Int) ^ (56 - 8 * j)=((2 ^ (56 - 8 * j):Nat):Int):=by simp
    rw [e2,Int.fdiv_eq_ediv_of_nonneg _ (Int.natCast_nonneg _),<- u8_of]; rfl
   rw [eb]
   refine nw_mk ?_
   have fb:Fr (fun _=>False) u (u.alloc (.cells ([Value.int .u8 (UInt8.ofNat (8 * l.length / 2 ^ (56 - 8 * j))).toNat] ++ []).toArray 5)):=Fr.alloc _ _ _
   have hsrc2:srcOf (u.alloc (.cells ([Value.int .u8 (UInt8.ofNat (8 * l.length / 2 ^ (56 - 8 * j))).toNat] ++ []).toArray 5)) 1 (.slice (some ⟨u.heap.size,0,none⟩) 1 1) 1 [bv (UInt8.ofNat (8 * l.length / 2 ^ (56 - 8 * j)))]:=one_row
   have hs3:(u.alloc (.cells ([Value.int .u8 (UInt8.ofNat (8 * l.length / 2 ^ (56 - 8 * j))).toNat] ++ []).toArray 5)).heap.size=u.heap.size+1:=alloc_size _ _
   generalize u.alloc (.cells ([Value.int .u8 (UInt8.ofNat (8 * l.length / 2 ^ (56 - 8 * j))).toNat] ++ []).toArray 5)=u1 at fb hsrc2 hs3 ⊢
   have hus:=hf.size
   refine app_row (fb.row hr4 (fun _ _ h=>h)) hsrc2 (bvs_one [_]) rfl (by omega) (by omega) (by omega) (fun A5 c5 u2 hr5 f5=>jnC_mk (hC _ _ ⟨?_,j+1,A5,c5,by omega,?_,?_⟩ ?_))
   ·exact (hf.trans1 fb).trans f5 (fun _ _ h=>h) (fun q hq h=>by have:=(hr4.blt h).1; omega)
   ·rw [i64_id (by omega) (by omega),show (56 - 8 * j:Int) - 8=(56 - 8 * ((j+1:Nat):Int)) by omega]; rfl
   ·rw [List.take_add_one,be64_get _ _ (by omega),Option.toList_some,<- List.append_assoc,List.map_append (l₂:=[_])]
    exact hr5
   ·show (IntKind.wrap .i64 ((56 - 8 * j:Int) - 8)+8).toNat < ((56 - 8 * j:Int)+8).toNat
    rw [i64_id (by omega) (by omega)]; omega
  ·have hlt2:¬ (56 - 8 * j:Int) >= 0:=of_decide_eq_false hlt
   have hj8:j=8:=by omega
   subst hj8
   refine ⟨A4,_,c4,rfl,hf,?_,hr4.le,fun q hq=>(hr4.blt hq).1⟩
   have e:R ++ padP l.length=R ++ [128] ++ List.replicate k 0 ++ (be64 (8 * l.length)).take 8:=by
    rw [List.take_of_length_le (by simp [be64]),padP,hkZ]; simp only [List.append_assoc]
   rw [e]
   exact hr4.sl
theorem bset_next {l:List UInt8} {x:UInt8} {n t:Nat} (hl:l.length=t) (ht:t < n):splice (l.map bv ++ List.replicate (n - t) (.int .u8 0)) t [bv x]=(l ++ [x]).map bv ++ List.replicate (n - (t+1)) (.int .u8 0):=by
 unfold splice
 rw [List.take_append_of_le_length (by simp [hl]),List.take_of_length_le (by simp [hl]),List.drop_append,List.drop_eq_nil_of_le (by simp; omega),List.drop_replicate,List.map_append,List.nil_append]
 simp only [List.length_map,hl,List.length_cons,List.length_nil,List.map_cons,List.map_nil]
 congr 2
 omega
theorem outP_len:∀ S:List UInt32,(outP S).length=4 * S.length
 | []=>rfl
 | x :: r=>by
  have:=outP_len r
  simp only [outP,List.flatMap_cons,List.length_append,List.length_cons,List.length_nil] at this ⊢
  omega
theorem outP_take (S:List UInt32) (i:Nat) (h:i < S.length):outP (S.take (i+1))=outP (S.take i) ++ [UInt8.ofNat ((S.getD i 0).toNat / 2 ^ 24)] ++ [UInt8.ofNat ((S.getD i 0).toNat / 2 ^ 16)] ++ [UInt8.ofNat ((S.getD i 0).toNat / 2 ^ 8)] ++ [UInt8.ofNat (S.getD i 0).toNat]:=by
 rw [List.take_add_one,List.getElem?_eq_getElem h,List.getD_eq_getElem?_getD,List.getElem?_eq_getElem h]
 simp only [outP,Option.toList_some,List.flatMap_append,List.flatMap_cons,List.flatMap_nil,List.append_nil,List.append_assoc,Option.getD_some,List.cons_append,List.nil_append]
theorem w_byte (x:UInt32) (k:Nat) (hk:k < 32):IntKind.wrap .u8 (Int.fdiv (x.toNat:Int) (2 ^ k))=((UInt8.ofNat (x.toNat / 2 ^ k)).toNat:Int):=by
 have e:(2:Int) ^ k=((2 ^ k:Nat):Int):=by simp
 rw [e,Int.fdiv_eq_ediv_of_nonneg _ (Int.natCast_nonneg _),<- u8_of]; rfl
theorem hsum_calls (B p:Nat) (l:List UInt8) (ty:TypeId) (A:Option Addr) (n c:Nat) (w:World) (h:HashAt w B p l ty A n c) (hK:KAt w) (hlen:l.length<=70368744177664) :
  Calls Tryz.prog 70 #[.pointer (some ⟨p,0,none⟩)] w fun e w'=>e=.returned (ofL ((shaP l).map bv))/\Fr (fun _=>False) w w':=by
 refine (F70.of (some ⟨p,0,none⟩) w (Q:=fun v w'=>v=ofL ((shaP l).map bv)/\Fr (fun _=>False) w w') ?_).mono (fun e w' ⟨v,he,hv,h⟩=>⟨by rw [he,hv],h⟩)
 have hZd:Z24.length=32:=by decide +kernel
 have hZd2:Z24=List.replicate 32 (.int .u8 0):=by rfl
 have hZs:Z171.length=8:=by decide +kernel
 refine nw_mk (nw_mk (vIf_f rfl ?_))
 have f1:Fr (fun _=>False) w (w.alloc (.cells Z24.toArray 24)):=Fr.alloc _ _ _
 have r1:RecAt (w.alloc (.cells Z24.toArray 24)) w.heap.size 24 Z24:=RecAt.new w _ _
 have hs1:(w.alloc (.cells Z24.toArray 24)).heap.size=w.heap.size+1:=alloc_size _ _
 generalize w.alloc (.cells Z24.toArray 24)=w1 at f1 r1 hs1 ⊢
 have f2:Fr (fun _=>False) w1 (w1.alloc (.cells Z24.toArray 24)):=Fr.alloc _ _ _
 have r2:RecAt (w1.alloc (.cells Z24.toArray 24)) w1.heap.size 24 Z24:=RecAt.new w1 _ _
 have hs2:(w1.alloc (.cells Z24.toArray 24)).heap.size=w1.heap.size+1:=alloc_size _ _
 generalize w1.alloc (.cells Z24.toArray 24)=w2 at f2 r2 hs2 ⊢
 have hS:=blocksN_len (l.length / 64) (s:=firstP) (l:=l) rfl
 have f12:=f1.trans1 f2
 have r12:=r1.fr f2 (fun h=>h)
 have hd2:=h.hd.fr f12 (fun h=>h)
 generalize hSS:blocksN firstP l (l.length / 64)=S at hS hd2
 refine dr_mk ⟨S.map wv,by simpa using hS,hd2.cells (o:=0) (fun j v hj=>by rw [Nat.zero_add,List.getElem?_append_left (List.getElem?_eq_some_iff.1 hj).1]; exact hj),nw_mk (gd_mk (by simpa using hS) ?_)⟩
 have f3:Fr (fun _=>False) w2 (w2.alloc (.cells Z171.toArray 171)):=Fr.alloc _ _ _
 have r3:RecAt (w2.alloc (.cells Z171.toArray 171)) w2.heap.size 171 Z171:=RecAt.new w2 _ _
 have hs3:(w2.alloc (.cells Z171.toArray 171)).heap.size=w2.heap.size+1:=alloc_size _ _
 generalize w2.alloc (.cells Z171.toArray 171)=w3 at f3 r3 hs3 ⊢
 refine r3.st_mk (o:=0) (by simp [hS,hZs]) (wv_one _) (fun r4 f4=>?_)
 rw [splice_whole (by simp [hS,hZs])] at r4
 have hs4:(stB w3 w2.heap.size 0 (S.map wv)).heap.size=w3.heap.size:=stB_size _ _ _ _
 generalize stB w3 w2.heap.size 0 (S.map wv)=w4 at r4 f4 hs4 ⊢
 have f14:Fr (fun _=>False) w w4:=(f12.trans1 f3).trans f4 (fun _ _ h=>h) (fun k hk h=>by omega)
 have r14:=(r12.fr f3 (fun h=>h)).fr f4 (fun h=>by omega)
 have r24:=(r2.fr f3 (fun h=>h)).fr f4 (fun h=>by omega)
 have h4:HashAt w4 B p l ty A n c:=⟨h.hd.fr f14 (fun h=>h),f14.sl h.row (fun _ _ _ h=>h),h.le,h.ne,h.low,h.bp⟩
 generalize hb1:w.heap.size=b1 at *
 generalize hb3:w1.heap.size=b3 at *
 generalize hb11:w2.heap.size=b11 at *
 refine (end_calls B p l ty A n c w4 h4 hlen).mono ?_
 rintro e w5 ⟨A5,n5,c5,rfl,f5,hs5,hc5,hb5⟩
 refine ⟨_,_,_,rfl,jnC_mk ?_⟩
 have hblk5:blkOf A5 ≠ some b11:=fun hk=>by have:=hb5 _ hk; omega
 generalize hM:l.drop (64 * (l.length / 64)) ++ padP l.length=M at hs5
 have hM64:M.length % 64=0:=by
  rw [<- hM,List.length_append,padP_len,List.length_drop]; omega
 have hfin:blocksN S M (M.length / 64)=shaS l:=by
  unfold shaS
  have e1:(l ++ padP l.length).length / 64=l.length / 64+M.length / 64:=by
   rw [<- hM]
   simp only [List.length_append,List.length_drop,padP_len]
   omega
  rw [e1,blocksN_append _ _ _ _ _ (by omega),hSS,hM]
 refine loop_rule (fun s u=>Fr (fun _=>False) w u/\RecAt u b1 24 Z24/\RecAt u b3 24 Z24/\∃ (j:Nat) (A6:Option Addr) (n6 c6:Nat),64 * j<=M.length/\s=((b1,0),(b3,0),(b11,0),(A6,n6,c6),())/\Sl u 1 A6 n6 ((M.drop (64 * j)).map bv)/\n6<=c6/\blkOf A6 ≠ some b11/\RecAt u b11 171 ((blocksN S M j).map wv))
  (fun s _=>s.2.2.2.1.2.1) ?_ _ _ ⟨f14.trans1 f5,r14.fr f5 (fun h=>h),r24.fr f5 (fun h=>h),0,A5,n5,c5,by omega,rfl,hs5,hc5,hblk5,r4.fr f5 (fun h=>h)⟩
 rintro s u C ⟨hf,hr1,hr3,j,A6,n6,c6,hj,rfl,hs6,hc6,hne6,hr6⟩ hC _
 have hSj:=blocksN_len j (s:=S) (l:=M) hS
 have hl6:(M.drop (64 * j)).length=n6:=by simpa using hs6.1
 rw [List.length_drop] at hl6
 refine vIf_mk (fun hlt=>?_) (fun hge=>?_)
 ·have hlt2:(n6:Int) > 0:=of_decide_eq_true hlt
  have hr6':RecAt u.drew b11 171 _:=hr6
  refine ⟨(blocksN S M j).map wv,by simpa using hSj,hr6'.cells (o:=0) (fun q v hq=>by simpa using hq),gd_mk (decide_eq_true (by show (64:Int)<=(c6:Nat); omega)) ?_⟩
  have ht:Sl u.drew 1 (slA A6 c6 0 1) 64 (((M.drop (64 * j)).take 64).map bv):=by rw [List.map_take]; exact Sl.take (show Sl u.drew 1 A6 n6 _ from hs6) (by omega)
  refine (block_calls (slA A6 c6 0 1) c6 _ _ u.drew ht (by omega) hSj (hK.fr (hf.trans1 (Fr.drew _ _)) (fun h=>h))).mono ?_
  rintro e u2 ⟨rfl,g2⟩
  have g2':Fr (fun _=>False) u u2:=(Fr.drew _ _).trans1 g2
  have hbl:=blockP_len (s:=blocksN S M j) (b:=(M.drop (64 * j)).take 64) hSj
  refine ⟨_,rfl,gd_mk (by simpa using hbl) ?_⟩
  have hwl:=hf.size
  refine (hr6.fr g2' (fun h=>h)).st_mk (o:=0) (by simp [hSj,hbl]) (wv_one _) (fun r7 g7=>gd_mk (decide_eq_true (by show (64:Int)<=(n6:Nat); omega)) (jnC_mk (hC _ _ ⟨?_,?_,?_,j+1,_,_,_,?_,rfl,?_,?_,?_,?_⟩ ?_)))
  ·exact (hf.trans1 g2').trans g7 (fun _ _ h=>h) (fun k hk h=>by omega)
  ·exact (hr1.fr g2' (fun h=>h)).fr g7 (fun h=>by omega)
  ·exact (hr3.fr g2' (fun h=>h)).fr g7 (fun h=>by omega)
  ·omega
  ·have:=Sl.drop (c:=c6) hs6 (k:=64) (by omega) hc6
   rw [<- List.map_drop,List.drop_drop] at this
   have hthis:=(g2'.sl this (fun _ _ _ h=>h))
   exact g7.sl hthis (fun _ k hk h'=>hne6 (by rw [slA_blk (n:=0)] at hk; rw [hk,h']))
  ·show n6 - 64<=c6 - 64; omega
  ·rw [slA_blk (n:=0)]; exact hne6
  ·rw [splice_whole (by simp [hSj,hbl])] at r7
   have:blocksN S M (j+1)=blockP (blocksN S M j) ((M.drop (64 * j)).take 64):=by
    have:=blocksN_append j S M [] 1 hj
    rw [List.append_nil,List.append_nil] at this
    exact this
   rw [this]
   exact r7
  ·show n6 - 64 < n6; omega
 ·have hge2:¬ (n6:Int) > 0:=of_decide_eq_false hge
  have hjM:j=M.length / 64:=by omega
  subst hjM
  rw [hfin] at hr6 hSj
  clear hC
  unfold shaP
  generalize shaS l=T at hr6 hSj ⊢
  refine ⟨T.map wv,by simpa using hSj,hr6.cells (o:=0) (fun q v hq=>by simpa using hq),jnC_mk ?_⟩
  refine loop_rule (fun s u=>Fr (fun _=>False) w u/\RecAt u b1 24 Z24/\∃ i:Nat,i<=8/\s=((b1,0),(b3,0),T.map wv,(i:Int),())/\RecAt u b3 24 ((outP (T.take i)).map bv ++ List.replicate (32 - 4 * i) (.int .u8 0)))
   (fun s _=>(8 - s.2.2.2.1).toNat) ?_ _ _ ⟨hf,hr1,0,by omega,rfl,by rw [hZd2] at hr3; exact hr3⟩
  clear hf hr1 hr3 hr6 hs6
  rintro s u C ⟨hf,hr1,i,hi,rfl,hr3⟩ hC _
  have hwl:=hf.size
  have ho:=outP_len (T.take i)
  rw [List.length_take,hSj,Nat.min_eq_left hi] at ho
  refine vIf_mk (fun hlt=>?_) (fun hge=>?_)
  ·have hlt2:(i:Int) < 8:=of_decide_eq_true hlt
   have nT:nthV (T.map wv) ((i:Int).toNat * 1)=.int .u32 (T.getD i 0).toNat:=by rw [Int.toNat_natCast,Nat.mul_one]; exact nth_wv (by omega)
   refine gd_mk (decide_eq_true (Int.natCast_nonneg i)) (gd_mk (decide_eq_true hlt2) (gd_mk (decide_eq_true (by rw [Int.toNat_natCast]; simp; omega)) ?_))
   dsimp only
   rw [nT]
   have e4:IntKind.wrap .i64 (4 * (i:Int))=((4 * i:Nat):Int):=by rw [i64_id (by omega) (by omega)]; omega
   have e5:IntKind.wrap .i64 (((4 * i:Nat):Int)+1)=((4 * i+1:Nat):Int):=by rw [i64_id (by omega) (by omega)]; omega
   have e6:IntKind.wrap .i64 (((4 * i:Nat):Int)+2)=((4 * i+2:Nat):Int):=by rw [i64_id (by omega) (by omega)]; omega
   have e7:IntKind.wrap .i64 (((4 * i:Nat):Int)+3)=((4 * i+3:Nat):Int):=by rw [i64_id (by omega) (by omega)]; omega
   show gd (decide (0<=IntKind.wrap .i64 (4 * (i:Int)))) _
   rw [e4,e5,e6,e7,w_byte _ 24 (by omega),w_byte _ 16 (by omega),w_byte _ 8 (by omega),u8_of]
   simp only [Int.toNat_natCast,Nat.zero_add,Nat.mul_one]
   have stp:∀ (u1:World) (L:List UInt8) (t:Nat) (x:UInt8) (K:World->Prop),RecAt u1 b3 24 (L.map bv ++ List.replicate (32 - t) (.int .u8 0))->L.length=t->t < 32->(∀ u2,RecAt u2 b3 24 ((L ++ [x]).map bv ++ List.replicate (32 - (t+1)) (.int .u8 0))->Fr (fun k=>k=b3) u1 u2->K u2)->st u1 b3 t [.int .u8 x.toNat] K:=by
    intro u1 L t x K hr hL ht hK'
    refine hr.st_mk (by simp [hL]; omega) (bvs_one [x]) (fun r f=>hK' _ ?_ f)
    rw [<- bset_next hL ht]; exact r
   refine gd_mk (decide_eq_true (by omega)) (gd_mk (decide_eq_true (by omega)) (stp u _ _ _ _ hr3 ho (by omega) (fun u2 q2 g2=>gd_mk (decide_eq_true (by omega)) (gd_mk (decide_eq_true (by omega)) (stp u2 _ _ _ _ q2 (by simp [ho]) (by omega) (fun u3 q3 g3=>gd_mk (decide_eq_true (by omega)) (gd_mk (decide_eq_true (by omega)) (stp u3 _ _ _ _ q3 (by simp [ho]) (by omega) (fun u4 q4 g4=>gd_mk (decide_eq_true (by omega)) (gd_mk (decide_eq_true (by omega)) (stp u4 _ _ _ _ q4 (by simp [ho]) (by omega) (fun u5 q5 g5=>jnC_mk (hC _ _ ⟨?_,?_,i+1,by omega,?_,?_⟩ ?_)))))))))))))
   ·have g25:=((g2.trans1 g3).trans1 g4).trans1 g5
    exact hf.trans g25 (fun _ _ h=>h) (fun k hk h=>by omega)
   ·have g25:=((g2.trans1 g3).trans1 g4).trans1 g5
    exact hr1.fr g25 (fun h=>by omega)
   ·rw [i64_id (by omega) (by omega)]; rfl
   ·rw [outP_take T i (by omega)]
    have e8:32 - (4 * i+1+1+1+1)=32 - 4 * (i+1):=by omega
    rw [e8] at q5
    exact q5
   ·show (8 - IntKind.wrap .i64 ((i:Int)+1)).toNat < (8 - (i:Int)).toNat
    rw [i64_id (by omega) (by omega)]; omega
  ·have hge2:¬ (i:Int) < 8:=of_decide_eq_false hge
   have hi8:i=8:=by omega
   subst hi8
   rw [List.take_of_length_le (by omega)] at hr3 ho
   have hl:((outP T).map bv).length=32:=by simpa using ho
   have hr3':RecAt u b3 24 ((outP T).map bv):=by simpa using hr3
   refine ⟨_,hl,hr3'.cells (o:=0) (fun q v hq=>by simpa using hq),gd_mk (by simpa using hl) ?_⟩
   refine hr1.st_mk (o:=0) (by rw [hl,hZd]; omega) (bvs_one _) (fun r f=>?_)
   rw [splice_whole (by rw [hl,hZd])] at r
   exact ⟨_,hl,r.cells (o:=0) (fun q v hq=>by simpa using hq),rfl,hf.trans f (fun _ _ h=>h) (fun k hk h=>by omega)⟩
theorem shaP_len (l:List UInt8):(shaP l).length=32:=by unfold shaP; rw [outP_len,shaS_len]
theorem sum_calls (A:Option Addr) (n c:Nat) (l:List UInt8) (w:World) (h:Sl w 1 A n (l.map bv)) (hK:KAt w) (hlen:l.length<=70368744177664) :
  Calls Tryz.prog 44 #[.slice A n c] w fun e w'=>e=.returned (ofL ((shaP l).map bv))/\Fr (fun _=>False) w w':=by
 refine (F44.of A n c w (Q:=fun v w'=>v=ofL ((shaP l).map bv)/\Fr (fun _=>False) w w') ?_).mono (fun e w' ⟨v,he,hv,h⟩=>⟨by rw [he,hv],h⟩)
 have hZd:Z24.length=32:=by decide +kernel
 refine nw_mk ?_
 have f1:Fr (fun _=>False) w (w.alloc (.cells Z24.toArray 24)):=Fr.alloc _ _ _
 have r1:RecAt (w.alloc (.cells Z24.toArray 24)) w.heap.size 24 Z24:=RecAt.new w _ _
 have hs1:(w.alloc (.cells Z24.toArray 24)).heap.size=w.heap.size+1:=alloc_size _ _
 generalize w.alloc (.cells Z24.toArray 24)=w1 at f1 r1 hs1 ⊢
 refine (new_hash w1).mono ?_
 rintro e w2 ⟨p,ty,rfl,f2,hp,hH⟩
 have f12:=f1.trans1 f2
 have hKw:=hK.lt
 have hApw:n ≠ 0->blkOf A ≠ some p:=fun hn0 hk=>by
  have:=h.blt (by omega) hn0 hk
  omega
 refine ⟨_,rfl,(write_calls w1.heap.size p [] ty none 0 0 A n c l w2 hH (f12.sl h (fun _ _ _ h=>h)) hApw (hK.fr f12 (fun h=>h)) (by omega) f2.size (by simpa using hlen)).mono ?_⟩
 rintro e w3 ⟨rfl,f3,A',n',c',hH3⟩
 have f13:Fr (fun _=>False) w w3:=f12.trans f3 (fun _ _ h=>h) (fun k hk h=>by omega)
 rw [List.nil_append] at hH3
 refine ⟨rfl,(hsum_calls w1.heap.size p l ty A' n' c' w3 hH3 (hK.fr f13 (fun h=>h)) hlen).mono ?_⟩
 rintro e w4 ⟨rfl,f4⟩
 have hl:((shaP l).map bv).length=32:=by rw [List.length_map,shaP_len]
 have r4:=((r1.fr f2 (fun h=>h)).fr f3 (fun h=>by omega)).fr f4 (fun h=>h)
 refine ⟨_,rfl,gd_mk (by rw [hl]; rfl) (r4.st_mk (o:=0) (by rw [hl,hZd]; omega) (bvs_one _) (fun r f=>?_))⟩
 rw [splice_whole (by rw [hl,hZd])] at r
 exact ⟨_,hl,r.cells (o:=0) (fun q v hq=>by simpa using hq),rfl,(f13.trans1 f4).trans f (fun _ _ h=>h) (fun k hk h=>by omega)⟩
end Go.Proofs.YtkfanhdicnjdlaaGreatDoor
namespace Go.Proofs.YtkfanhdicnjdlaaGreatDoor
open Go.GV Go.RowKit Go.Lib
theorem frG_mk {k sq:Nat} {d rest:List UInt8} (hk:1<=k/\k<=8) (hs:sq < 18446744073709551616) (hd:d.length<=65536):frG (mkF k sq d ++ rest)=(0,k,sq,d):=by
 have hh:(hdF k sq d.length).length=13:=by
  unfold hdF
  simp only [List.length_append,List.length_cons,List.length_nil,leB_len]
 have hb:(bdF k sq d).length=17+d.length:=by
  unfold bdF
  simp only [List.length_append,hh,leB_len]
 have hm:=mkF_len k sq d
 generalize hB:mkF k sq d ++ rest=b
 have hl:21+d.length<=b.length:=by rw [<- hB,List.length_append,hm]; omega
 have e1:b.take (17+d.length)=bdF k sq d:=by
  rw [<- hB]
  unfold mkF
  rw [List.append_assoc,List.take_left' hb]
 have e2:(b.drop (17+d.length)).take 4=leB (crcS (bdF k sq d)).toNat 4:=by
  rw [<- hB]
  unfold mkF
  rw [List.append_assoc,List.drop_left' hb,List.take_left' (leB_len _ _)]
 have e3:b.take 13=hdF k sq d.length:=by
  have:b.take 13=(b.take (17+d.length)).take 13:=by rw [List.take_take,Nat.min_eq_left (by omega)]
  rw [this,e1]
  unfold bdF
  rw [List.append_assoc,List.take_left' hh]
 have e4:(b.drop 13).take 4=leB (crcS (hdF k sq d.length)).toNat 4:=by
  rw [<- hB]
  unfold mkF bdF
  rw [List.append_assoc,List.append_assoc,List.append_assoc,List.drop_left' hh,List.take_left' (leB_len _ _)]
 have e5:(b.drop 17).take d.length=d:=by
  rw [<- hB]
  unfold mkF bdF
  rw [List.append_assoc,List.append_assoc,List.drop_left' (by rw [List.length_append,hh,leB_len]),List.take_left' rfl]
 have kk:kF b=k:=by
  have:b.take 1=[UInt8.ofNat (k % 256)]:=by
   have:b.take 1=(b.take 13).take 1:=by rw [List.take_take,Nat.min_eq_left (by omega)]
   rw [this,e3]
   unfold hdF
   rw [List.append_assoc]; rfl
  unfold kF
  rw [this]
  show (UInt8.ofNat (k % 256)).toNat+256 * 0=k
  rw [u8n]; omega
 have ss:sF b=sq:=by
  have:(b.drop 1).take 8=leB sq 8:=by
   have:(b.drop 1).take 8=((b.take 13).drop 1).take 8:=by rw [List.drop_take,List.take_take,Nat.min_eq_left (by omega)]
   rw [this,e3]
   unfold hdF
   rw [List.append_assoc]
   show (leB sq 8 ++ leB d.length 4).take 8=_
   rw [List.take_left' (leB_len _ _)]
  unfold sF
  rw [this,leT_leB,Nat.mod_eq_of_lt (by omega)]
 have zz:zF b=d.length:=by
  have:(b.drop 9).take 4=leB d.length 4:=by
   have:(b.drop 9).take 4=((b.take 13).drop 9).take 4:=by rw [List.drop_take,List.take_take]; rfl
   rw [this,e3]
   unfold hdF
   rw [List.drop_left' (by rw [List.length_append,leB_len]; rfl),List.take_of_length_le (by rw [leB_len]; omega)]
  unfold zF
  rw [this,leT_leB,Nat.mod_eq_of_lt (by omega)]
 have c4:∀ x:List UInt8,leT (leB (crcS x).toNat 4)=(crcS x).toNat:=fun x=>by rw [leT_leB,Nat.mod_eq_of_lt (crc_lt x)]
 have w1:whF b 13:=by
  show leT ((b.drop 13).take 4)=(crcS (b.take 13)).toNat
  rw [e4,e3,c4]
 have w2:whF b (17+zF b):=by
  show leT ((b.drop (17+zF b)).take 4)=(crcS (b.take (17+zF b))).toNat
  rw [zz,e2,e1,c4]
 rw [frG_0 (by omega) w1 (by rw [kk,zz]; omega) (by rw [zz]; omega) w2,kk,ss,zz,e5]
theorem frP_mk {k sq:Nat} {d rest:List UInt8} (hk:1<=k/\k<=8) (hs:sq < 18446744073709551616) (hd:d.length<=65536):frP (mkF k sq d ++ rest) 0=⟨0,k,sq,d,((21+d.length:Nat):Int)⟩:=by
 have:=frP_ok (b:=mkF k sq d ++ rest) (a:=0) (k:=k) (sq:=sq) (d:=d) (by omega) (by rw [List.drop_zero]; exact frG_mk hk hs hd)
 rw [show ((0:Nat):Int)=0 from rfl] at this
 rw [this]
 congr 1
theorem rdR_daW {x:Rc} (hd:x.d.length=32) (hr:rgR x=0):rdR x.k.toNat x.sq (daW x)=some (bareR x):=by
 obtain ⟨h1,h8⟩:=rg_k hr
 have kc:∀ n:Nat,(x.k=(n:Int) ↔ x.k.toNat=n):=fun n=>by omega
 obtain ⟨k,sq,d,nm,dat,n,z⟩:=x
 obtain ⟨k,rfl⟩:∃ m:Nat,k=(m:Int):=⟨k.toNat,by have:1<=k:=h1; omega⟩
 have h1:1<=(k:Int):=h1
 have h8:(k:Int)<=8:=h8
 have hd:d.length=32:=hd
 show rdR ((k:Int)).toNat sq _=_
 rw [Int.toNat_natCast]
 have hk:k=1\/k=2\/k=3\/k=4\/k=5\/k=6\/k=7\/k=8:=by omega
 rcases hk with rfl | rfl | rfl | rfl | rfl | rfl | rfl | rfl
 ·have hp:32<=(d ++ dat).length:=by rw [List.length_append]; omega
  show rdR 1 sq (d ++ dat)=some ⟨1,sq,d,[],dat,0,0⟩
  unfold rdR
  rw [if_neg (by omega),if_neg (by omega),if_pos (.inl rfl),if_pos hp,List.take_left' hd,List.drop_left' hd]; rfl
 ·have hp:32<=(d ++ dat).length:=by rw [List.length_append]; omega
  show rdR 2 sq (d ++ dat)=some ⟨2,sq,d,[],dat,0,0⟩
  unfold rdR
  rw [if_neg (by omega),if_neg (by omega),if_pos (.inr rfl),if_pos hp,List.take_left' hd,List.drop_left' hd]; rfl
 ·have ht:=(rg_nm hr (.inl rfl)).2.2
  have ht:nm.length<=32:=by simpa [ByteArray.size] using ht
  show rdR 3 sq ((UInt8.ofNat nm.length :: nm) ++ d)=some ⟨3,sq,d,nm,[],0,0⟩
  have hlen:((UInt8.ofNat nm.length :: nm) ++ d).length=1+nm.length+32:=by simp [hd]; omega
  have e0:(((UInt8.ofNat nm.length :: nm) ++ d)[0]'(by omega)).toNat=nm.length:=by
   show (UInt8.ofNat nm.length).toNat=_
   exact u8n' (by omega)
  unfold rdR
  rw [if_pos (.inl rfl),txP_b0 (by omega),e0,if_pos (by omega)]
  show (if (3:Nat)=4 then _ else if (((UInt8.ofNat nm.length :: nm) ++ d).drop (((1+nm.length:Nat):Int)).toNat).length=32 then _ else _)=_
  rw [if_neg (by omega),Int.toNat_natCast,List.drop_left' (by simp; omega),if_pos hd]
  congr 2
  show ((UInt8.ofNat nm.length :: (nm ++ d)).drop 1).take nm.length=nm
  rw [List.drop_succ_cons,List.drop_zero,List.take_left' rfl]
 ·have ht:=(rg_nm hr (.inr rfl)).2.2
  have ht:nm.length<=32:=by simpa [ByteArray.size] using ht
  show rdR 4 sq ((UInt8.ofNat nm.length :: nm) ++ [])=some ⟨4,sq,z32,nm,[],0,0⟩
  have hlen:((UInt8.ofNat nm.length :: nm) ++ []).length=1+nm.length:=by simp; omega
  have e0:(((UInt8.ofNat nm.length :: nm) ++ [])[0]'(by omega)).toNat=nm.length:=by
   show (UInt8.ofNat nm.length).toNat=_
   exact u8n' (by omega)
  unfold rdR
  rw [if_pos (.inr rfl),txP_b0 (by omega),e0,if_pos (by omega)]
  show (if (4:Nat)=4 then (if (((UInt8.ofNat nm.length :: nm) ++ []).drop (((1+nm.length:Nat):Int)).toNat).length=0 then _ else _) else _)=_
  rw [if_pos rfl,Int.toNat_natCast,List.drop_left' (by simp; omega),if_pos (show ([]:List UInt8).length=0 from rfl)]
  congr 2
  show ((UInt8.ofNat nm.length :: (nm ++ [])).drop 1).take nm.length=nm
  rw [List.drop_succ_cons,List.drop_zero,List.take_left' rfl]
 ·show rdR 5 sq d=some ⟨5,sq,d,[],[],0,0⟩
  unfold rdR
  rw [if_neg (by omega),if_pos rfl,if_pos hd]
 ·obtain ⟨n1,n2,z1,z2⟩:=rg_nz hr (.inl rfl)
  have n1:0<=n:=n1
  have n2:n<=4294967295:=n2
  have z1:0<=z:=z1
  have z2:z<=4294967295:=z2
  show rdR 6 sq (leB n.toNat 4 ++ leB z.toNat 4)=some ⟨6,sq,z32,[],[],n,z⟩
  unfold rdR
  rw [if_neg (by omega),if_neg (by omega),if_neg (by omega),if_neg (by omega),if_pos (by rw [List.length_append,leB_len,leB_len]),List.take_left' (leB_len _ _),List.drop_left' (leB_len _ _),leT_leB,leT_leB,Nat.mod_eq_of_lt (by omega),Nat.mod_eq_of_lt (by omega)]
  rw [show ((n.toNat:Nat):Int)=n by omega,show ((z.toNat:Nat):Int)=z by omega]; rfl
 ·obtain ⟨n1,n2⟩:=rg_n hr rfl
  have n1:1<=n:=n1
  have n2:n<=99999999:=n2
  have hs8:stil.length=8:=rfl
  show rdR 7 sq (stil ++ leB n.toNat 8)=some ⟨7,sq,z32,[],[],n,0⟩
  unfold rdR
  rw [if_neg (by omega),if_neg (by omega),if_neg (by omega),if_pos rfl,if_pos ⟨by rw [List.length_append,leB_len]; rfl,List.take_left' hs8⟩,List.drop_left' hs8,leT_leB,Nat.mod_eq_of_lt (by omega)]
  unfold nuR
  rw [if_pos (by omega),show ((n.toNat:Nat):Int)=n by omega]
 ·obtain ⟨n1,n2,z1,z2⟩:=rg_nz hr (.inr rfl)
  have n1:0<=n:=n1
  have n2:n<=4294967295:=n2
  have z1:0<=z:=z1
  have z2:z<=4294967295:=z2
  show rdR 8 sq (leB n.toNat 4 ++ leB z.toNat 4)=some ⟨8,sq,z32,[],[],n,z⟩
  unfold rdR
  rw [if_neg (by omega),if_neg (by omega),if_neg (by omega),if_neg (by omega),if_pos (by rw [List.length_append,leB_len,leB_len]),List.take_left' (leB_len _ _),List.drop_left' (leB_len _ _),leT_leB,leT_leB,Nat.mod_eq_of_lt (by omega),Nat.mod_eq_of_lt (by omega)]
  rw [show ((n.toNat:Nat):Int)=n by omega,show ((z.toNat:Nat):Int)=z by omega]; rfl
theorem rg_bare {x:Rc} (hr:rgR x=0):rgR (bareR x)=0:=by
 obtain ⟨h1,h8⟩:=rg_k hr
 obtain ⟨k,sq,d,nm,dat,n,z⟩:=x
 have h1:1<=k:=h1
 have h8:k<=8:=h8
 have hd:=@rg_dat _ hr
 have hn:=@rg_nm _ hr
 have hz:=@rg_nz _ hr
 have hm:=@rg_n _ hr
 dsimp only at hd hn hz hm
 unfold rgR bareR
 dsimp only
 rw [if_neg (by omega),if_neg,if_neg,if_neg,if_neg]
 ·rintro ⟨q,w⟩
  have:=hm q
  rw [if_pos (by omega)] at w; omega
 ·rintro ⟨q,w⟩
  have:=hz q
  rw [if_pos (by omega),if_pos q] at w; omega
 ·rintro ⟨q,w⟩
  rw [if_pos q] at w
  exact w (hn q)
 ·rintro ⟨q,w⟩
  rw [if_pos q] at w
  have:=hd (by omega)
  omega
theorem recP_mkW {x:Rc} (h:RcG x) (rest:List UInt8):recP (mkW x ++ rest) 0=(bareR x,((mkW x).length:Int),0):=by
 have hr:=h.rg
 have hk:=rg_k hr
 have hf:=frP_mk (k:=x.k.toNat) (sq:=x.sq) (d:=daW x) (rest:=rest) ⟨by omega,by omega⟩ h.sq (da_len h.d hr)
 unfold recP
 rw [show mkW x=mkF x.k.toNat x.sq (daW x) from rfl,hf]
 dsimp only
 rw [if_neg (by simp),rdR_daW h.d hr]
 show (if rgR (bareR x) ≠ 0 then _ else _)=_
 rw [if_neg (fun q=>q (rg_bare hr)),mkF_len]
end Go.Proofs.YtkfanhdicnjdlaaGreatDoor
namespace Go.Proofs.YtkfanhdicnjdlaaGreatDoor
open Go.GV Go.RowKit
theorem ofd_calls (A:Option Addr) (n c:Nat) (l:List UInt8) (w:World) (h:Sl w 1 A n (l.map bv)) (hK:KAt w) (hlen:l.length<=70368744177664) :
  Calls Tryz.prog 24 #[.slice A n c] w fun e w'=>e=.returned (ofL ((shaP l).map bv))/\Fr (fun _=>False) w w':=by
 refine (F24.of A n c w (Q:=fun v w'=>v=ofL ((shaP l).map bv)/\Fr (fun _=>False) w w') ?_).mono (fun e w' ⟨v,he,hv,h⟩=>⟨by rw [he,hv],h⟩)
 have hZd:Z24.length=32:=by decide +kernel
 refine rec_new (fun b1 w1 f1 hb1 r1=>?_)
 refine (sum_calls A n c l w1 (f1.sl h (fun _ _ _ h=>h)) (hK.fr f1 (fun h=>h)) hlen).mono ?_
 rintro e w4 ⟨rfl,f4⟩
 have hl:((shaP l).map bv).length=32:=by rw [List.length_map,shaP_len]
 have s1:=f1.size
 refine ⟨_,rfl,gd_mk (by rw [hl]; rfl) ((r1.fr f4 (fun h=>h)).st_mk (o:=0) (by rw [hl,hZd]; omega) (bvs_one _) (fun r f=>?_))⟩
 rw [splice_whole (by rw [hl,hZd])] at r
 exact ⟨_,hl,r.cells (o:=0) (fun q v hq=>by simpa using hq),rfl,(f1.trans1 f4).trans f (fun _ _ h=>h) (fun k hk h=>by omega)⟩
end Go.Proofs.YtkfanhdicnjdlaaGreatDoor
namespace Go.Proofs.YtkfanhdicnjdlaaGreatDoor
open Go.GV Go.RowKit Go.Lib
def hoR (x:Rc):Bool:=if x.k=1\/x.k=2 then shaP x.dat == x.d else true
def saR (x:Rc) (y:Wo):Wo:={ wdR x y.s y.o y.q with sq:=y.sq }
theorem saR_len {x:Rc} (h:x.d.length=32) (y:Wo):(saR x y).d.length=32:=wdR_len h _ _ _
def rcb (b:Bs) (y:Wo):Rc×Int :=
 if (recP b 0).2.2 ≠ 0\/(recP b 0).2.1 ≠ (b.length:Int)\/eqVL (woC (saR (recP b 0).1 y)) (woC y)=false\/hoR (recP b 0).1=false then (rc0,19)
 else ((recP b 0).1,0)
def recR (L:Lg) (y:Wo):Rc×Int :=
 if (rdL L y.s y.o y.q).2=11 then (rc0,11)
 else if (rdL L y.s y.o y.q).2 ≠ 0 then (rc0,19)
 else rcb (rdL L y.s y.o y.q).1 y
theorem recP_dat (b:List UInt8) (at_:Int):(recP b at_).1.dat.length<=b.length:=by
 have hf:=frP_dlen b at_
 unfold recP
 split
 ·exact Nat.zero_le _
 ·split
  ·exact Nat.zero_le _
  ·rename_i x h
   split
   ·exact Nat.zero_le _
   ·have:x.dat.length<=(frP b at_).d.length:=by
     unfold rdR at h
     split at h
     ·split at h
      ·cases h
      ·split at h
       ·split at h
        ·cases h; exact Nat.zero_le _
        ·cases h
       ·split at h
        ·cases h; exact Nat.zero_le _
        ·cases h
     ·split at h
      ·split at h
       ·cases h; exact Nat.zero_le _
       ·cases h
      ·split at h
       ·split at h
        ·cases h; show ((frP b at_).d.drop 32).length<=_; rw [List.length_drop]; omega
        ·cases h
       ·split at h
        ·split at h
         ·cases h; exact Nat.zero_le _
         ·cases h
        ·split at h
         ·cases h; exact Nat.zero_le _
         ·cases h
    show x.dat.length<=_
    omega
theorem holds_calls (x:Rc) (A:Option Addr) (n c:Nat) (w:World) (hd:x.d.length=32) (hD:Sl w 1 A n (x.dat.map bv)) (hn:x.dat.length<=70368744177664) (hK:KAt w) :
  Calls Tryz.prog 12 #[ofL (rcC x A n c)] w fun e w'=>e=.returned (.bool (hoR x))/\Fr (fun _=>False) w w':=by
 refine (F12.of _ w (Q:=fun v w'=>v=.bool (hoR x)/\Fr (fun _=>False) w w') ?_).mono (fun e w' ⟨v,he,hv,h⟩=>⟨by rw [he,hv],h⟩)
 refine rec_new (fun b1 w2 f2 hb1 r1=>?_)
 have fd:Fr (fun _=>False) w w2.drew:=f2.trans1 (Fr.drew _ _)
 have rd:RecAt w2.drew b1 34 (rcC x A n c):=r1
 have ld:=rd.lt
 have sum:x.k=1\/x.k=2->Calls Tryz.prog 24 #[.slice A n c] w2.drew fun e10 w9=>∃ a11:List Value,e10=.returned (ofL a11)/\kp w2.drew b1 (0+2) 32 w9 (eqAB 32 a11 (x.d.map bv) fun t12=>Value.bool t12=.bool (hoR x)/\Fr (fun _=>False) w w9):=fun hk=>by
  refine (ofd_calls A n c x.dat w2.drew (fd.sl hD (fun _ _ _ h=>h)) (hK.fr fd (fun h=>h)) hn).mono ?_
  rintro e w9 ⟨rfl,f9⟩
  refine ⟨_,rfl,kp_mk f9 ld (fun h=>h) ⟨shaP x.dat,x.d,shaP_len _,hd,rfl,rfl,?_,fd.trans1 f9⟩⟩
  unfold hoR
  rw [if_pos hk]
 refine ⟨x.k,rd.cell (o:=0) rfl,vIf_mk (fun g=>⟨x.k,rd.cell (o:=0) rfl,vIf_mk (fun g2=>?_) (fun g2=>?_)⟩) (fun g=>?_)⟩
 ·have g:¬ x.k=1:=by simpa using g
  have g2:¬ x.k=2:=by simpa using g2
  refine ⟨?_,fd⟩
  unfold hoR
  rw [if_neg (by omega)]
 ·have g2:x.k=2:=by simpa using g2
  exact ⟨A,n,c,rd.cell (o:=0+35) (rcC_end hd A n c 1),_,by rw [List.length_map,hd],rd.cells (o:=0+2) (fun j v hj=>by rw [Nat.zero_add]; exact rcC_d hd A n c j v hj),sum (.inr g2)⟩
 ·have g:x.k=1:=by simpa using g
  exact ⟨A,n,c,rd.cell (o:=0+35) (rcC_end hd A n c 1),_,by rw [List.length_map,hd],rd.cells (o:=0+2) (fun j v hj=>by rw [Nat.zero_add]; exact rcC_d hd A n c j v hj),sum (.inl g)⟩
theorem woC_sts (x:Wo) (q:Nat):splice (woC x) 1 [.int .u64 (q:Nat)]=woC { x with sq:=q }:=rfl
theorem says_calls (b23 b1:Nat) (x:Rc) (A:Option Addr) (n c:Nat) (y:Wo) (w:World) (r23:RecAt w b23 34 (rcC x A n c)) (r1:RecAt w b1 28 (woC y)) (hd:x.d.length=32) (hy:y.d.length=32) (hn:n=x.dat.length) :
  Calls Tryz.prog 10 #[.pointer (some ⟨b23,0,none⟩),.pointer (some ⟨b1,0,none⟩)] w fun e w'=>e=.returned (.bool (eqVL (woC (saR x y)) (woC y)))/\Fr (fun _=>False) w w':=by
 refine (F10.of (b23,0) (b1,0) w (Q:=fun v w'=>v=.bool (eqVL (woC (saR x y)) (woC y))/\Fr (fun _=>False) w w') ?_).mono (fun e w' ⟨v,he,hv,h⟩=>⟨by rw [he,hv],h⟩)
 have hs:=saR_len hd y
 refine ⟨_,rcC_len hd A n c,rec_all r23,[.int .i64 y.s,.int .i64 y.o,.int .i64 y.q],rfl,r1.cells (o:=0+36) (fun j v hj=>?_),(word39_calls x A n c y.s y.o y.q w hd hn).mono ?_⟩
 ·rw [Nat.zero_add,show 36+j=34+(2+j) by omega,woC_end hy (2+j)]
  match j,hj with
  | 0,hj=>exact hj
  | 1,hj=>exact hj
  | 2,hj=>exact hj
  | j+3,hj=>cases hj
 rintro e w3 ⟨rfl,f3⟩
 have hw:=wdR_len hd y.s y.o y.q
 refine ⟨_,rfl,var_new (sz:=39) rfl (woC_len hw) (woC_one _) (fun b6 w8 f8 hb6 r6=>?_)⟩
 have f38:=f3.trans1 f8
 have r1':=r1.fr f38 (fun h=>h)
 have l1:=r1.lt
 have s3:=f3.size
 refine ⟨_,r1'.cell (o:=0+1) rfl,r6.st_mk (o:=0+1) (by rw [woC_len hw]; show 0+1+1<=39; omega) (fun v hv=>by simp at hv; subst hv; rfl) (fun r f=>?_)⟩
 rw [woC_sts] at r
 refine ⟨_,woC_len hs,rec_all (e:=28) r,_,woC_len hy,rec_all (r1'.fr f (fun h=>by omega)),wo_fit hs rfl,wo_fit hy rfl,rfl,f38.trans f (fun _ _ h=>h) (fun k hk h=>by omega)⟩
set_option maxHeartbeats 1000000 in
theorem record_calls (P:Nat->Prop) (W:World) (lb db r:Nat) (L:Lg) (N:Nat) (y:Wo) (w:World) (h:LgAt P w lb db r L) (hE:Env P W w) (hG:DkG L.d N) (hN:N<=349524) (hn:(byW L.rs).length<=1099511627776) (hb:(rdL L y.s y.o y.q).1.length<=1099511627776) (hy:y.d.length=32) (hK:KAt w) :
  Calls Tryz.prog 4 #[.pointer (some ⟨lb,0,none⟩),ofL (woC y)] w fun e w'=>Fr (fun _=>False) w w'/\∃ A n c,e=.returned (.tuple #[ofL (rcC (recR L y).1 A n c),.int .i64 (recR L y).2])/\Sl w' 1 A n ((recR L y).1.dat.map bv)/\n<=c:=by
 refine (F4.of (some ⟨lb,0,none⟩) _ w (Q:=fun v w'=>Fr (fun _=>False) w w'/\∃ A n c,v=.tuple #[ofL (rcC (recR L y).1 A n c),.int .i64 (recR L y).2]/\Sl w' 1 A n ((recR L y).1.dat.map bv)/\n<=c) ?_).mono (fun e w' ⟨v,he,hf,A,n,c,hv,h⟩=>⟨hf,A,n,c,by rw [he,hv],h⟩)
 refine rec_new (fun b1 w2 f2 hb1 r1=>rec_new (fun b3 w4 f4 hb3 r3=>vIf_f rfl ?_))
 have f24:=f2.trans1 f4
 have r14:=r1.fr f4 (fun h=>h)
 have s2:=f2.size
 have hb3w:w.heap.size<=b3:=by omega
 have err:∀ (k:Int) (u:World),recR L y=(rc0,k)->Fr (fun _=>False) w u->RecAt u b3 34 Z34 ->
   gd ((rcC rc0 none 0 0).length == 38) (st u b3 0 (rcC rc0 none 0 0) fun w1=>ldA 38 w1 b3 0 fun a=>Fr (fun _=>False) w w1/\∃ A n c,Value.tuple #[ofL a,.int .i64 k]=.tuple #[ofL (rcC (recR L y).1 A n c),.int .i64 (recR L y).2]/\Sl w1 1 A n ((recR L y).1.dat.map bv)/\n<=c):=by
  intro k u hk fu q1
  rw [hk]
  exact ansN_mk (N:=38) (K:=fun a w1=>Fr (fun _=>False) w w1/\∃ A n c,Value.tuple #[ofL a,.int .i64 k]=.tuple #[ofL (rcC rc0 A n c),.int .i64 k]/\Sl w1 1 A n (rc0.dat.map bv)/\n<=c) q1 rfl (rcC_len rc0_len _ _ _) (rcC_one _ _ _ _) (fun w' g=>⟨fr_var fu hb3w g,none,0,0,rfl,Sl.nil _ _ _,Nat.le_refl _⟩)
 refine ⟨[.int .i64 y.s,.int .i64 y.o,.int .i64 y.q],rfl,r14.cells (o:=0+36) (fun j v hj=>?_),(lread_calls P W lb db r L N y.s y.o y.q w4 (LgAt.fr0 h f24) (hE.up f24) hG hN hn).mono ?_⟩
 ·rw [Nat.zero_add,show 36+j=34+(2+j) by omega,woC_end hy (2+j)]
  match j,hj with
  | 0,hj=>exact hj
  | 1,hj=>exact hj
  | 2,hj=>exact hj
  | j+3,hj=>cases hj
 rintro e w8 ⟨f8,B,k,rfl,hB,hk⟩
 have f08:=f24.trans1 f8
 have r38:=r3.fr f8 (fun h=>h)
 have r18:=r14.fr f8 (fun h=>h)
 have eR:recR L y=if (rdL L y.s y.o y.q).2=11 then (rc0,11) else if (rdL L y.s y.o y.q).2 ≠ 0 then (rc0,19) else rcb (rdL L y.s y.o y.q).1 y:=rfl
 generalize rdL L y.s y.o y.q=R at hB hk hb eR ⊢
 refine ⟨B,_,k,_,rfl,vIf_mk (fun g=>?_) (fun g=>vIf_mk (fun g1=>?_) (fun g1=>?_))⟩
 ·have g:R.2=11:=by simpa using g
  rw [if_pos g] at eR
  rw [g]
  exact err 11 w8 eR f08 r38
 ·have g:¬ R.2=11:=by simpa using g
  have g1:R.2 ≠ 0:=by simpa using g1
  rw [if_neg g,if_pos g1] at eR
  exact err 19 w8 eR f08 r38
 have g:¬ R.2=11:=by simpa using g
 have g1:¬ R.2 ≠ 0:=by simpa using g1
 rw [if_neg g,if_neg g1] at eR
 refine (parseE_calls B R.1.length k R.1 0 w8 hB hk hb).mono ?_
 rintro e w18 ⟨_,rfl,f18,A,n,c,rfl,hA,hc,hAn⟩
 have hd:=recP_len R.1 0
 have hdat:=recP_dat R.1 0
 have hnl:=sl_len hA
 have er2:rcb R.1 y=if (recP R.1 0).2.2 ≠ 0\/(recP R.1 0).2.1 ≠ (R.1.length:Int)\/eqVL (woC (saR (recP R.1 0).1 y)) (woC y)=false\/hoR (recP R.1 0).1=false then (rc0,19) else ((recP R.1 0).1,0):=rfl
 rw [er2] at eR
 clear er2
 generalize recP R.1 0=p at hA hd hdat hnl eR ⊢
 refine ⟨_,_,_,rfl,var_new (sz:=38) rfl (rcC_len hd A n c) (rcC_one _ _ _ _) (fun b23 w25 f25 hb23 r23=>?_)⟩
 have f825:=f18.trans1 f25
 have f025:=f08.trans1 f825
 have r325:=r38.fr f825 (fun h=>h)
 have r125:=r18.fr f825 (fun h=>h)
 have bad:∀ u:World,((p.2.2 ≠ 0\/p.2.1 ≠ (R.1.length:Int)\/eqVL (woC (saR p.1 y)) (woC y)=false\/hoR p.1=false))->Fr (fun _=>False) w25 u->jnC (F4.k11 (fun v w'=>Fr (fun _=>False) w w'/\∃ A n c,v=.tuple #[ofL (rcC (recR L y).1 A n c),.int .i64 (recR L y).2]/\Sl w' 1 A n ((recR L y).1.dat.map bv)/\n<=c)) ((b3,0),(b23,0),true,()) u:=fun u hbad fu=>by
  rw [if_pos hbad] at eR
  exact jnC_mk (fun _=>vIf_t rfl (err 19 u eR (f025.trans1 fu) (r325.fr fu (fun h=>h))))
 refine vIf_mk (fun g2=>bad _ (.inl (by simpa using g2)) (Fr.refl _ _)) (fun g2=>vIf_mk (fun g3=>bad _ (.inr (.inl (by simpa using g3))) (Fr.refl _ _)) (fun g3=>?_))
 have g2:¬ p.2.2 ≠ 0:=by simpa using g2
 have g3:¬ p.2.1 ≠ (R.1.length:Int):=by simpa using g3
 refine (says_calls b23 b1 p.1 A n c y w25 r23 r125 hd hy hnl.symm).mono ?_
 rintro e w31 ⟨rfl,f31⟩
 refine ⟨_,rfl,vIf_mk (fun g4=>bad _ (.inr (.inr (.inl (by simpa using g4)))) f31) (fun g4=>?_)⟩
 have g4:¬ eqVL (woC (saR p.1 y)) (woC y)=false:=by simpa using g4
 have f031:=f025.trans1 f31
 have r231:=r23.fr f31 (fun h=>h)
 refine ⟨_,rcC_len hd A n c,rec_all r231,(holds_calls p.1 A n c w31 hd ((f25.trans1 f31).sl hA (fun _ _ _ h=>h)) (by omega) (hK.fr f031 (fun h=>h))).mono ?_⟩
 rintro e w35 ⟨rfl,f35⟩
 refine ⟨_,rfl,?_⟩
 by_cases g5:hoR p.1=false
 ·have:=bad w35 (.inr (.inr (.inr g5))) (f31.trans1 f35)
  rw [show (true:Bool)=!(hoR p.1) by rw [g5]; rfl] at this
  exact this
 have g6:hoR p.1=true:=by simpa using g5
 rw [if_neg (fun q=>q.elim g2 (fun q=>q.elim g3 (fun q=>q.elim g4 g5)))] at eR
 rw [g6]
 have r235:=r231.fr f35 (fun h=>h)
 have f035:=f031.trans1 f35
 have r335:=(r325.fr f31 (fun h=>h)).fr f35 (fun h=>h)
 rw [eR]
 refine jnC_mk (fun _=>vIf_f rfl (jnC_mk (fun _=>⟨_,rcC_len hd A n c,rec_all r235,?_⟩)))
 have hA35:=((f25.trans1 f31).trans1 f35).sl hA (fun _ _ _ h=>h)
 refine ansN_mk (N:=38) (K:=fun a w1=>Fr (fun _=>False) w w1/\∃ A n c,Value.tuple #[ofL a,.int .i64 0]=.tuple #[ofL (rcC p.1 A n c),.int .i64 0]/\Sl w1 1 A n (p.1.dat.map bv)/\n<=c) r335 rfl (rcC_len hd _ _ _) (rcC_one _ _ _ _) (fun w' g=>⟨fr_var f035 hb3w g,A,n,c,rfl,g.sl hA35 (fun h0 k hk q=>?_),hc⟩)
 have:=hAn k hk
 have:=r38.lt
 omega
def datR (L:Lg) (y:Wo):Bs×Int:=if ¬ (y.k=1\/y.k=2) then ([],6) else ((recR L y).1.dat,(recR L y).2)
def enC (d:List UInt8) (k z s o q:Int) (tl:List Value):List Value:=d.map bv ++ ([.int .i64 k,.int .i64 z,.int .i64 s,.int .i64 o,.int .i64 q] ++ tl)
theorem enC_get {d:List UInt8} (h:d.length=32) (k z s o q:Int) (tl:List Value) (j:Nat):(enC d k z s o q tl)[32+j]?=([.int .i64 k,.int .i64 z,.int .i64 s,.int .i64 o,.int .i64 q] ++ tl:List Value)[j]?:=by
 unfold enC
 rw [List.getElem?_append_right (by simp [h])]
 congr 1
 simp [h]
set_option maxHeartbeats 1000000 in
theorem data_calls (P:Nat->Prop) (W:World) (lb db r:Nat) (L:Lg) (N:Nat) (d:List UInt8) (k z s o q:Int) (tl:List Value) (w:World) (h:LgAt P w lb db r L) (hE:Env P W w) (hG:DkG L.d N) (hN:N<=349524) (hn:(byW L.rs).length<=1099511627776) (hb:(rdL L s o q).1.length<=1099511627776) (hd:d.length=32) (hK:KAt w) :
  Calls Tryz.prog 5 #[.pointer (some ⟨lb,0,none⟩),ofL (enC d k z s o q tl)] w fun e w'=>Fr (fun _=>False) w w'/\∃ A n c,e=.returned (.tuple #[.slice A n c,.int .i64 (datR L ⟨k,0,d,[],z,s,o,q⟩).2])/\Sl w' 1 A n ((datR L ⟨k,0,d,[],z,s,o,q⟩).1.map bv)/\n<=c:=by
 refine (F5.of (some ⟨lb,0,none⟩) _ w (Q:=fun v w'=>Fr (fun _=>False) w w'/\∃ A n c,v=.tuple #[.slice A n c,.int .i64 (datR L ⟨k,0,d,[],z,s,o,q⟩).2]/\Sl w' 1 A n ((datR L ⟨k,0,d,[],z,s,o,q⟩).1.map bv)/\n<=c) ?_).mono (fun e w' ⟨v,he,hf,A,n,c,hv,h⟩=>⟨hf,A,n,c,by rw [he,hv],h⟩)
 refine rec_new (fun b1 w2 f2 hb1 r1=>vIf_f rfl ?_)
 have g:=enC_get hd k z s o q tl
 have go:k=1\/k=2->jnC (F5.k5 (fun v w'=>Fr (fun _=>False) w w'/\∃ A n c,v=.tuple #[.slice A n c,.int .i64 (datR L ⟨k,0,d,[],z,s,o,q⟩).2]/\Sl w' 1 A n ((datR L ⟨k,0,d,[],z,s,o,q⟩).1.map bv)/\n<=c)) (some ⟨lb,0,none⟩,(b1,0),()) w2:=fun hk=>by
  have e:datR L ⟨k,0,d,[],z,s,o,q⟩=((recR L ⟨k,0,d,[],z,s,o,q⟩).1.dat,(recR L ⟨k,0,d,[],z,s,o,q⟩).2):=if_neg (fun q=>q hk)
  rw [e]
  refine jnC_mk (fun _=>⟨k,r1.cell (o:=0+32) (g 0),d.map bv,by rw [List.length_map,hd],r1.cells (o:=0) (fun j v hj=>by rw [Nat.zero_add]; unfold enC; rw [List.getElem?_append_left (List.getElem?_eq_some_iff.1 hj).1]; exact hj),z,r1.cell (o:=0+33) (g 1),[.int .i64 s,.int .i64 o,.int .i64 q],rfl,r1.cells (o:=0+34) (fun j v hj=>?_),gd_mk (by rw [List.length_map,hd]; rfl) (gd_mk rfl ?_)⟩)
  ·rw [Nat.zero_add,show 34+j=32+(2+j) by omega,g (2+j)]
   match j,hj with
   | 0,hj=>exact hj
   | 1,hj=>exact hj
   | 2,hj=>exact hj
   | j+3,hj=>cases hj
  refine (record_calls P W lb db r L N ⟨k,0,d,[],z,s,o,q⟩ w2 (LgAt.fr0 h f2) (hE.up f2) hG hN hn hb hd (hK.fr f2 (fun h=>h))).mono ?_
  rintro e w9 ⟨f9,A,n,c,rfl,hA,hc⟩
  have hx:(recR L ⟨k,0,d,[],z,s,o,q⟩).1.d.length=32:=by
   unfold recR
   split
   ·exact z32_len
   ·split
    ·exact z32_len
    ·unfold rcb
     split
     ·exact z32_len
     ·exact recP_len _ _
  generalize recR L ⟨k,0,d,[],z,s,o,q⟩=p at hA hx ⊢
  refine ⟨_,_,rfl,var_new (sz:=38) rfl (rcC_len hx A n c) (rcC_one _ _ _ _) (fun b13 w15 f15 hb13 r13=>⟨A,n,c,r13.cell (o:=0+35) (rcC_end hx A n c 1),(f2.trans1 f9).trans1 f15,A,n,c,rfl,f15.sl hA (fun _ _ _ h=>h),hc⟩)⟩
 refine ⟨k,r1.cell (o:=0+32) (g 0),vIf_mk (fun g1=>⟨k,r1.cell (o:=0+32) (g 0),vIf_mk (fun g2=>?_) (fun g2=>go (.inr (by simpa using g2)))⟩) (fun g1=>go (.inl (by simpa using g1)))⟩
 have g1:¬ k=1:=by simpa using g1
 have g2:¬ k=2:=by simpa using g2
 have e:datR L ⟨k,0,d,[],z,s,o,q⟩=([],6):=if_pos (fun q=>q.elim g1 g2)
 rw [e]
 exact ⟨f2,none,0,0,rfl,Sl.nil _ _ _,Nat.le_refl _⟩
def smR (x y:Rc):Bool:=(x.k == y.k) && ((x.sq == y.sq) && ((x.d == y.d) && ((x.nm == y.nm) && ((x.dat == y.dat) && ((x.n == y.n) && (x.z == y.z))))))
theorem smR_iff {x y:Rc}:smR x y=true ↔ x=y:=by
 constructor
 ·intro h
  unfold smR at h
  simp only [Bool.and_eq_true,beq_iff_eq] at h
  obtain ⟨h1,h2,h3,h4,h5,h6,h7⟩:=h
  obtain ⟨a,b,c,d,e,f,g⟩:=x
  obtain ⟨a',b',c',d',e',f',g'⟩:=y
  dsimp only at h1 h2 h3 h4 h5 h6 h7
  subst h1; subst h2; subst h3; subst h4; subst h5; subst h6; subst h7
  rfl
 ·rintro rfl
  unfold smR
  simp
theorem rsame_calls (x:Rc) (A:Option Addr) (n c:Nat) (y:Rc) (B:Option Addr) (m k:Nat) (w:World) (hx:x.d.length=32) (hy:y.d.length=32) (hA:Sl w 1 A n (x.dat.map bv)) (hB:Sl w 1 B m (y.dat.map bv)) (hn:n < 4611686018427387904) :
  Calls Tryz.prog 6 #[ofL (rcC x A n c),ofL (rcC y B m k)] w fun e w'=>e=.returned (.bool (smR x y))/\Fr (fun _=>False) w w':=by
 refine (F6.of _ _ w (Q:=fun v w'=>v=.bool (smR x y)/\Fr (fun _=>False) w w') ?_).mono (fun e w' ⟨v,he,hv,h⟩=>⟨by rw [he,hv],h⟩)
 refine rec_new (fun b1 w2 f2 hb1 r1=>rec_new (fun b3 w4 f4 hb3 r3=>?_))
 have f24:=f2.trans1 f4
 have r14:=r1.fr f4 (fun h=>h)
 have ex:=rcC_end hx A n c
 have ey:=rcC_end hy B m k
 have no:∀ u:World,smR x y=false->Fr (fun _=>False) w u->Value.bool false=.bool (smR x y)/\Fr (fun _=>False) w u:=fun u h hu=>by rw [h]; exact ⟨rfl,hu⟩
 refine ⟨x.k,r14.cell (o:=0) rfl,y.k,r3.cell (o:=0) rfl,vIf_mk (fun g1=>?_) (fun g1=>no _ (by unfold smR; rw [g1]; rfl) f24)⟩
 refine ⟨x.sq,r14.cell (o:=0+1) rfl,y.sq,r3.cell (o:=0+1) rfl,vIf_mk (fun g2=>?_) (fun g2=>no _ (by
  have g2:(x.sq == y.sq)=false:=by
   rw [beq_eq_false_iff_ne] at g2 ⊢
   exact fun h=>g2 (by rw [h])
  unfold smR; rw [g1,g2]; rfl) f24)⟩
 have g2:(x.sq == y.sq)=true:=by
  rw [beq_iff_eq] at g2 ⊢
  omega
 refine ⟨x.d.map bv,by rw [List.length_map,hx],r14.cells (o:=0+2) (fun j v hj=>by rw [Nat.zero_add]; exact rcC_d hx A n c j v hj),y.d.map bv,by rw [List.length_map,hy],r3.cells (o:=0+2) (fun j v hj=>by rw [Nat.zero_add]; exact rcC_d hy B m k j v hj),x.d,y.d,hx,hy,rfl,rfl,vIf_mk (fun g3=>?_) (fun g3=>no _ (by unfold smR; rw [g1,g2,g3]; rfl) f24)⟩
 have tl:∀ l:List UInt8,(⟨l.toArray⟩:ByteArray).toList=l:=fun l=>by simp [ByteArray.toList_eq]
 refine ⟨_,r14.cell (o:=0+34) (ex 0),_,r3.cell (o:=0+34) (ey 0),vIf_mk (fun g4=>?_) (fun g4=>no _ (by rw [tl,tl] at g4; unfold smR; rw [g1,g2,g3,g4]; rfl) f24)⟩
 rw [tl,tl] at g4
 refine ⟨A,n,c,r14.cell (o:=0+35) (ex 1),B,m,k,r3.cell (o:=0+35) (ey 1),(same_calls A n c x.dat B m k y.dat w4 (f24.sl hA (fun _ _ _ h=>h)) (f24.sl hB (fun _ _ _ h=>h)) hn).mono ?_⟩
 rintro e w20 ⟨rfl,f20⟩
 have f:=f24.trans1 f20
 have q1:=r14.fr f20 (fun h=>h)
 have q3:=r3.fr f20 (fun h=>h)
 refine ⟨_,rfl,vIf_mk (fun g5=>?_) (fun g5=>no _ (by unfold smR; rw [g1,g2,g3,g4,g5]; rfl) f)⟩
 refine ⟨x.n,q1.cell (o:=0+36) (ex 2),y.n,q3.cell (o:=0+36) (ey 2),vIf_mk (fun g6=>?_) (fun g6=>no _ (by unfold smR; rw [g1,g2,g3,g4,g5,g6]; rfl) f)⟩
 refine ⟨x.z,q1.cell (o:=0+37) (ex 3),y.z,q3.cell (o:=0+37) (ey 3),?_,f⟩
 unfold smR
 rw [g1,g2,g3,g4,g5,g6]; rfl
end Go.Proofs.YtkfanhdicnjdlaaGreatDoor
namespace Go.Proofs.YtkfanhdicnjdlaaGreatDoor
open Go.GV Go.RowKit
theorem rt_calls (a:UInt32) (n:Nat) (h0:0 < n) (hn:n < 32) (w:World):Calls Tryz.prog 54 #[.int .u32 a.toNat,.int .u64 n] w fun e w'=>e=.returned (.int .u32 (rotr a (UInt32.ofNat n)).toNat)/\w'=w:=by
 refine (F54.of a.toNat n w (Q:=fun v w'=>v=.int .u32 (rotr a (UInt32.ofNat n)).toNat/\w'=w) ?_).mono (fun e w' ⟨v,he,hv,h⟩=>⟨by rw [he,hv],h⟩)
 have e3:IntKind.wrap .u64 (32 - (n:Int))=((32 - n:Nat):Int):=by rw [IntKind.wrap_u64]; omega
 unfold F54.vc
 rw [e3]
 refine gd_mk (decide_eq_true (Int.natCast_nonneg _)) (gd_mk (decide_eq_true (Int.natCast_nonneg _)) ⟨?_,rfl⟩)
 rw [Int.toNat_natCast,Int.toNat_natCast,Nat.min_eq_left (by omega),Nat.min_eq_left (by omega),w_shl a _ (by omega),w_shr a _ hn,w_or]
 have e4:UInt32.ofNat (32 - n)=32 - UInt32.ofNat n:=by
  apply UInt32.toNat_inj.1
  rw [UInt32.toNat_sub]
  simp; omega
 rw [e4]; rfl
theorem rec_sl {w:World} {b:Nat} {t:TypeId} {x:Value} (r:RecAt w b t ([x] ++ [])):Sl w 1 (some ⟨b,0,none⟩) 1 [x]:=⟨rfl,fun _=>⟨b,0,rfl,r.cells (o:=0) (fun j v hj=>by rw [Nat.zero_add]; exact hj)⟩⟩
theorem message_calls (A:Option Addr) (n c:Nat) (l:List UInt8) (w:World) (h:Sl w 1 A n (l.map bv)) (hlen:l.length<=70368744177664) :
  Calls Tryz.prog 53 #[.slice A n c] w fun e w'=>Fr (fun _=>False) w w'/\∃ A' c',e=.returned (.slice A' (l ++ padP l.length).length c')/\Row w' w.heap.size 5 1 A' (l ++ padP l.length).length c' ((l ++ padP l.length).map bv):=by
 refine (F53.of A n c w (Q:=fun v w'=>Fr (fun _=>False) w w'/\∃ A' c',v=.slice A' (l ++ padP l.length).length c'/\Row w' w.heap.size 5 1 A' (l ++ padP l.length).length c' ((l ++ padP l.length).map bv)) ?_).mono (fun e w' ⟨v,he,hf,A',c',hv,h⟩=>⟨hf,A',c',by rw [he,hv],h⟩)
 have hl:l.length=n:=by simpa using h.1
 refine app_row2 (Row.nil w w.heap.size 5 1) h.src (bvs_one _) rfl (by omega) (by omega) (Nat.le_refl _) (fun A1 c1 w1 hr1 f1 _=>?_)
 have f1:Fr (fun _=>False) w w1:=f1.mono (fun k _ hk=>by simp [blkOf] at hk)
 refine rec_new (fun b5 w6 f6 hb5 r5=>?_)
 have f06:=f1.trans1 f6
 have s6:=f06.size
 rw [List.nil_append,Nat.zero_add] at hr1
 rw [Nat.zero_add]
 refine app_row (us:=[bv 128]) (m:=1) (f6.row hr1 (fun _ _ h=>h)) (rec_sl r5).src (bvs_one [128]) rfl (by omega) (by omega) s6 (fun A7 c9 w10 hr7 f7=>?_)
 have f07:Fr (fun _=>False) w w10:=f06.trans f7 (fun _ _ h=>h) (fun q hq h=>by have:=(hr1.blt h).1; omega)
 refine jnC_mk (loop_rule (fun s u=>Fr (fun _=>False) w u/\∃ (k:Nat) (A3:Option Addr) (c3:Nat),k<=(119 - l.length % 64) % 64/\s=((A,n,c),(A3,n+1+k,c3),())/\Row u w.heap.size 5 1 A3 (n+1+k) c3 ((l ++ [128] ++ List.replicate k 0).map bv))
  (fun s _=>n+1+(119 - l.length % 64) % 64 - s.2.1.2.1) ?_ _ _ ⟨f07,0,A7,c9,Nat.zero_le _,rfl,by simpa using hr7⟩)
 rintro s u C ⟨hf,k,A3,c3,hk,rfl,hr3⟩ hC _
 have hmod:Int.tmod ((n+1+k:Nat):Int) 64=(((n+1+k) % 64:Nat):Int):=tmod_nat _ 64
 have hus:=hf.size
 refine vIf_mk (fun hne=>?_) (fun heq=>?_)
 ·have hne2:(n+1+k) % 64 ≠ 56:=by
   have:(Int.tmod ((n+1+k:Nat):Int) 64 != 56)=true:=hne
   rw [hmod] at this
   simp at this
   omega
  refine rec_new (fun b11 w12 f12 hb11 r11=>?_)
  have s12:=f12.size
  dsimp only
  refine app_row (us:=[bv 0]) (m:=1) (f12.row hr3 (fun _ _ h=>h)) (rec_sl r11).src (bvs_one [0]) rfl (by omega) (by omega) (by omega) (fun A4 c4 u2 hr4 f4=>jnC_mk (hC _ _ ⟨?_,k+1,A4,c4,by omega,rfl,?_⟩ ?_))
  ·exact (hf.trans1 f12).trans f4 (fun _ _ h=>h) (fun q hq h=>by have:=(hr3.blt h).1; omega)
  ·have e:(l ++ [128] ++ List.replicate (k+1) (0:UInt8)).map bv=(l ++ [128] ++ List.replicate k 0).map bv ++ [bv 0]:=by
    rw [List.replicate_succ',<- List.append_assoc,List.map_append]; rfl
   rw [e]; exact hr4
  ·show n+1+_ - (n+1+k+1) < n+1+_ - (n+1+k); omega
 ·have heq2:(n+1+k) % 64=56:=by
   have:(Int.tmod ((n+1+k:Nat):Int) 64 != 56)=false:=heq
   rw [hmod] at this
   simp at this
   omega
  have hkZ:k=(119 - l.length % 64) % 64:=by omega
  clear hC
  have e8:IntKind.wrap .u64 (IntKind.wrap .u64 ((n:Nat):Int) * 8)=((8 * l.length:Nat):Int):=by
   rw [IntKind.wrap_u64,IntKind.wrap_u64]; omega
  refine jnC_mk ?_
  dsimp only
  rw [e8]
  refine loop_rule (fun s u=>Fr (fun _=>False) w u/\∃ (j:Nat) (A4:Option Addr) (c4:Nat),j<=8/\s=((A4,n+1+k+j,c4),((8 * l.length:Nat):Int),(7 - j:Int),())/\Row u w.heap.size 5 1 A4 (n+1+k+j) c4 ((l ++ [128] ++ List.replicate k 0 ++ (be64 (8 * l.length)).take j).map bv))
   (fun s _=>(s.2.2.1+1).toNat) ?_ _ _ ⟨hf,0,A3,c3,by omega,rfl,by simpa using hr3⟩
  clear hf hr3 hus
  rintro s u C ⟨hf,j,A4,c4,hj,rfl,hr4⟩ hC _
  have hus:=hf.size
  refine vIf_mk (fun hge=>?_) (fun hlt=>?_)
  ·have hge2:(7 - j:Int) >= 0:=of_decide_eq_true hge
   have ej:IntKind.wrap .u64 (IntKind.wrap .i64 (8 * (7 - j:Int)))=((56 - 8 * j:Nat):Int):=by
    rw [i64_id (by omega) (by omega),IntKind.wrap_u64]; omega
   dsimp only
   rw [ej]
   refine gd_mk (decide_eq_true (Int.natCast_nonneg _)) ?_
   have eb:IntKind.wrap .u8 (Int.fdiv ((8 * l.length:Nat):Int) (2 ^ min (((56 - 8 * j:Nat):Int)).toNat 64))=((UInt8.ofNat (8 * l.length / 2 ^ (56 - 8 * j))).toNat:Int):=by
    rw [Int.toNat_natCast,Nat.min_eq_left (by omega)]
    have e2:(2:Int) ^ (56 - 8 * j)=((2 ^ (56 - 8 * j):Nat):Int):=by simp
    rw [e2,Int.fdiv_eq_ediv_of_nonneg _ (Int.natCast_nonneg _),<- u8_of]; rfl
   rw [eb]
   refine rec_new (fun b11 w12 f12 hb11 r11=>?_)
   have s12:=f12.size
   refine app_row (us:=[bv (UInt8.ofNat (8 * l.length / 2 ^ (56 - 8 * j)))]) (m:=1) (f12.row hr4 (fun _ _ h=>h)) (rec_sl r11).src (bvs_one [_]) rfl (by omega) (by omega) (by omega) (fun A5 c5 u2 hr5 f5=>jnC_mk (hC _ _ ⟨?_,j+1,A5,c5,by omega,?_,?_⟩ ?_))
   ·exact (hf.trans1 f12).trans f5 (fun _ _ h=>h) (fun q hq h=>by have:=(hr4.blt h).1; omega)
   ·rw [i64_id (by omega) (by omega),show (7 - j:Int) - 1=(7 - ((j+1:Nat):Int)) by omega]; rfl
   ·rw [List.take_add_one,be64_get _ _ (by omega),Option.toList_some,<- List.append_assoc,List.map_append (l₂:=[_])]
    exact hr5
   ·show (IntKind.wrap .i64 ((7 - j:Int) - 1)+1).toNat < ((7 - j:Int)+1).toNat
    rw [i64_id (by omega) (by omega)]; omega
  ·have hlt2:¬ (7 - j:Int) >= 0:=of_decide_eq_false hlt
   have hj8:j=8:=by omega
   subst hj8
   have e:l ++ padP l.length=l ++ [128] ++ List.replicate k 0 ++ (be64 (8 * l.length)).take 8:=by
    rw [List.take_of_length_le (by simp [be64]),padP,hkZ]; simp only [List.append_assoc]
   have en:n+1+k+8=(l ++ padP l.length).length:=by rw [List.length_append,padP_len,hl]; omega
   rw [en,<- e] at hr4
   refine ⟨hf,A4,c4,?_,hr4⟩
   show Value.slice A4 (n+1+k+8) c4=_
   rw [en]
theorem be_sum (a b c d:UInt8):IntKind.wrap .u32 (IntKind.wrap .u32 (IntKind.wrap .u32 (IntKind.wrap .u32 (IntKind.wrap .u32 (a.toNat:Int) * 16777216)+IntKind.wrap .u32 (IntKind.wrap .u32 (b.toNat:Int) * 65536))+IntKind.wrap .u32 (IntKind.wrap .u32 (c.toNat:Int) * 256))+IntKind.wrap .u32 (d.toNat:Int))=((a.toUInt32 <<< 24 ||| b.toUInt32 <<< 16 ||| c.toUInt32 <<< 8 ||| d.toUInt32).toNat:Int):=by
 have ha:=a.toNat_lt
 have hb:=b.toNat_lt
 have hc:=c.toNat_lt
 have hd:=d.toNat_lt
 have hn:(a.toUInt32 <<< 24 ||| b.toUInt32 <<< 16 ||| c.toUInt32 <<< 8 ||| d.toUInt32).toNat=a.toNat * 16777216+b.toNat * 65536+c.toNat * 256+d.toNat:=by
  have s1:(a.toUInt32 <<< 24).toNat=a.toNat <<< 24:=by rw [UInt32.toNat_shiftLeft,UInt8.toNat_toUInt32,show (24:UInt32).toNat % 32=24 from rfl,Nat.mod_eq_of_lt (by rw [Nat.shiftLeft_eq]; omega)]
  have s2:(b.toUInt32 <<< 16).toNat=b.toNat <<< 16:=by rw [UInt32.toNat_shiftLeft,UInt8.toNat_toUInt32,show (16:UInt32).toNat % 32=16 from rfl,Nat.mod_eq_of_lt (by rw [Nat.shiftLeft_eq]; omega)]
  have s3:(c.toUInt32 <<< 8).toNat=c.toNat <<< 8:=by rw [UInt32.toNat_shiftLeft,UInt8.toNat_toUInt32,show (8:UInt32).toNat % 32=8 from rfl,Nat.mod_eq_of_lt (by rw [Nat.shiftLeft_eq]; omega)]
  rw [UInt32.toNat_or,UInt32.toNat_or,UInt32.toNat_or,s1,s2,s3,UInt8.toNat_toUInt32]
  rw [<- Nat.shiftLeft_add_eq_or_of_lt (i:=24) (b:=b.toNat <<< 16) (by rw [Nat.shiftLeft_eq]; omega)]
  rw [show a.toNat <<< 24+b.toNat <<< 16=(a.toNat * 256+b.toNat) <<< 16 by simp only [Nat.shiftLeft_eq]; omega]
  rw [<- Nat.shiftLeft_add_eq_or_of_lt (i:=16) (b:=c.toNat <<< 8) (by rw [Nat.shiftLeft_eq]; omega)]
  rw [show (a.toNat * 256+b.toNat) <<< 16+c.toNat <<< 8=((a.toNat * 256+b.toNat) * 256+c.toNat) <<< 8 by simp only [Nat.shiftLeft_eq]; omega]
  rw [<- Nat.shiftLeft_add_eq_or_of_lt (i:=8) (b:=d.toNat) (by omega)]
  rw [Nat.shiftLeft_eq]; omega
 rw [hn]
 simp only [IntKind.wrap_u32]
 omega
theorem blk_get (M:List UInt8) (j i:Nat) (h:i < 64):((M.drop (64 * j)).take 64).getD i 0=M.getD (64 * j+i) 0:=by
 simp [List.getD_eq_getElem?_getD,List.getElem?_take,h]
theorem wnext_sum (a b c d:UInt32):d+c+b+a=a+b+c+d:=by
 rw [UInt32.add_comm (d+c+b) a,UInt32.add_comm (d+c) b,UInt32.add_comm d c,<- UInt32.add_assoc,<- UInt32.add_assoc]
abbrev S3:=Option Addr×Nat×Nat
theorem r04_w1 {Q:Value->World->Prop} {C3:(S3×S3×(Nat×Nat)×S3×Int×Unit)->World->Prop} (x1 x2:S3) (x6:Nat×Nat) (A7:Option Addr) (n7 c7:Nat) (j:Nat) (M:List UInt8) (w:World) (hm:Sl w 1 A7 n7 (M.map bv)) (hj:64 * j+64<=M.length) (hM:M.length<=140737488355328)
  (hK:∀ A c w',Fr (fun _=>False) w w'->Row w' w.heap.size 115 1 A 16 c ((sched ((M.drop (64 * j)).take 64) 16).map wv)->F33.l12 Q C3 (x1,x2,x6,(A7,n7,c7),((64 * j:Nat):Int),(A,16,c),(16:Int),()) w') :
  F33.l7 Q C3 (x1,x2,x6,(A7,n7,c7),((64 * j:Nat):Int),(none,0,0),(0:Int),()) w:=by
 have hn7:M.length=n7:=by simpa using hm.1
 obtain ⟨g,o,rfl,_⟩:=hm.2 (by omega)
 have hg:=hm.blt (by omega) (by omega) (b:=g) rfl
 refine loop_rule (fun s u=>Fr (fun _=>False) w u/\∃ (t:Nat) (A:Option Addr) (c:Nat),t<=16/\s=(x1,x2,x6,(some ⟨g,o,none⟩,n7,c7),((64 * j:Nat):Int),(A,t,c),(t:Int),())/\Row u w.heap.size 115 1 A t c ((sched ((M.drop (64 * j)).take 64) t).map wv))
  (fun s _=>(16 - s.2.2.2.2.2.2.1).toNat) ?_ _ _ ⟨Fr.refl _ _,0,none,0,by omega,rfl,Row.nil _ _ _ _⟩
 rintro s u C ⟨hf,t,A,c,ht,rfl,hr⟩ hC _
 refine vIf_mk (fun hlt=>?_) (fun hge=>?_)
 ·have hlt2:(t:Int) < 16:=of_decide_eq_true hlt
  obtain ⟨g',o',hA,hc⟩:=(hf.sl hm (fun _ _ _ h=>h)).2 (by omega)
  injection hA with hA
  injection hA with hA1 hA2
  subst hA1; subst hA2
  have e4:IntKind.wrap .i64 (((64 * j:Nat):Int)+IntKind.wrap .i64 (4 * (t:Int)))=((64 * j+4 * t:Nat):Int):=by rw [i64_id (n:=4 * (t:Int)) (by omega) (by omega),i64_id (by omega) (by omega)]; omega
  have e5:IntKind.wrap .i64 (((64 * j+4 * t:Nat):Int)+1)=((64 * j+4 * t+1:Nat):Int):=by rw [i64_id (by omega) (by omega)]; omega
  have e6:IntKind.wrap .i64 (((64 * j+4 * t:Nat):Int)+2)=((64 * j+4 * t+2:Nat):Int):=by rw [i64_id (by omega) (by omega)]; omega
  have e7:IntKind.wrap .i64 (((64 * j+4 * t:Nat):Int)+3)=((64 * j+4 * t+3:Nat):Int):=by rw [i64_id (by omega) (by omega)]; omega
  dsimp only
  rw [e4,e5,e6,e7]
  simp only [Int.toNat_natCast,Nat.mul_one]
  have cell:∀ i,i < 4->cellAt u.drew g (o+(64 * j+4 * t+i))=some (.int .u8 (((M.drop (64 * j)).take 64).getD (4 * t+i) 0).toNat):=fun i hi=>by
   rw [blk_get M j _ (by omega),<- Nat.add_assoc (64 * j)]
   exact hc (64 * j+4 * t+i) (bv (M.getD (64 * j+4 * t+i) 0)) (by
    rw [List.getElem?_map,List.getElem?_eq_getElem (by omega),List.getD_eq_getElem?_getD,List.getElem?_eq_getElem (by omega)]; rfl)
  have c0:=cell 0 (by omega)
  rw [Nat.add_zero] at c0
  refine dr_mk (gd_mk (decide_eq_true (by omega)) (gd_mk (decide_eq_true (by omega)) ⟨_,c0,dr_mk (gd_mk (decide_eq_true (by omega)) (gd_mk (decide_eq_true (by omega)) ⟨_,cell 1 (by omega),dr_mk (gd_mk (decide_eq_true (by omega)) (gd_mk (decide_eq_true (by omega)) ⟨_,cell 2 (by omega),dr_mk (gd_mk (decide_eq_true (by omega)) (gd_mk (decide_eq_true (by omega)) ⟨_,cell 3 (by omega),?_⟩))⟩))⟩))⟩))
  dsimp only
  rw [be_sum]
  refine rec_new (fun b20 w21 f21 hb20 r20=>?_)
  have f021:=(hf.trans1 (Fr.drew _ u)).trans1 f21
  have s21:=f021.size
  refine app_row (us:=[wv (wAt ((M.drop (64 * j)).take 64) t)]) (m:=1) ((Fr.drew _ u |>.trans1 f21).row hr (fun _ _ h=>h)) (rec_sl r20).src (wv_one [_]) rfl (by omega) (by omega) s21 (fun A4 c4 u2 hr4 f4=>jnC_mk (hC _ _ ⟨?_,t+1,A4,c4,by omega,?_,?_⟩ ?_))
  ·exact f021.trans f4 (fun _ _ h=>h) (fun q hq h=>by have:=(hr.blt h).1; omega)
  ·rw [i64_id (by omega) (by omega)]; rfl
  ·have e:(sched ((M.drop (64 * j)).take 64) (t+1)).map wv=(sched ((M.drop (64 * j)).take 64) t).map wv ++ [wv (wAt ((M.drop (64 * j)).take 64) t)]:=by
    show (sched ((M.drop (64 * j)).take 64) t ++ [if t < 16 then wAt ((M.drop (64 * j)).take 64) t else wNext (sched ((M.drop (64 * j)).take 64) t) t]).map wv=_
    rw [if_pos (by omega),List.map_append]; rfl
   rw [e]; exact hr4
  ·show (16 - IntKind.wrap .i64 ((t:Int)+1)).toNat < (16 - (t:Int)).toNat
   rw [i64_id (by omega) (by omega)]; omega
 ·have hge2:¬ (t:Int) < 16:=of_decide_eq_false hge
  have h16:t=16:=by omega
  subst h16
  exact jnC_mk (hK A c u hf hr)
set_option maxHeartbeats 1000000 in
theorem r04_w2 {Q:Value->World->Prop} {C3:(S3×S3×(Nat×Nat)×S3×Int×Unit)->World->Prop} (x1 x2:S3) (x6:Nat×Nat) (x7:S3) (x8:Int) (b:List UInt8) (A0:Option Addr) (c0:Nat) (B:Nat) (w:World) (h0:Row w B 115 1 A0 16 c0 ((sched b 16).map wv)) (hB:B<=w.heap.size)
  (hK:∀ A c w',Fr (fun k=>B<=k) w w'->Row w' B 115 1 A 64 c ((sched b 64).map wv)->app w' 1 4 [Value.int .u32 0] 115 none 0 0 (Value.slice x2.1 x2.2.1 x2.2.2) fun A68 n69 c70 w71=>jnC (F33.l19 Q C3) (x1,x2,x6,x7,x8,(A,64,c),(A68,n69,c70),(0:Int),()) w71) :
  F33.l12 Q C3 (x1,x2,x6,x7,x8,(A0,16,c0),(16:Int),()) w:=by
 refine loop_rule (fun s u=>Fr (fun k=>B<=k) w u/\∃ (t:Nat) (A:Option Addr) (c:Nat),16<=t/\t<=64/\s=(x1,x2,x6,x7,x8,(A,t,c),(t:Int),())/\Row u B 115 1 A t c ((sched b t).map wv))
  (fun s _=>(64 - s.2.2.2.2.2.2.1).toNat) ?_ _ _ ⟨Fr.refl _ _,16,A0,c0,by omega,by omega,rfl,h0⟩
 rintro s u C ⟨hf,t,A,c,h16,ht,rfl,hr⟩ hC _
 refine vIf_mk (fun hlt=>?_) (fun hge=>?_)
 ·have hlt2:(t:Int) < 64:=of_decide_eq_true hlt
  have hlen:=sched_len b t
  obtain ⟨g,o,rfl,hc⟩:=hr.sl.2 (by omega)
  have hg:=(hr.blt (b:=g) rfl).2
  have ed:∀ k:Nat,k<=16->0 < k->IntKind.wrap .i64 ((t:Int) - k)=((t - k:Nat):Int):=fun k hk h0=>by rw [i64_id (by omega) (by omega)]; omega
  have ed15:=ed 15 (by omega) (by omega)
  have ed2:=ed 2 (by omega) (by omega)
  have ed7:=ed 7 (by omega) (by omega)
  have ed16:=ed 16 (by omega) (by omega)
  simp only [Int.cast_ofNat_Int] at ed15 ed2 ed7 ed16
  dsimp only
  rw [ed15,ed2,ed7,ed16]
  simp only [Int.toNat_natCast,Nat.mul_one]
  have cell:∀ (u2:World),cellsAt u2 g o ((sched b t).map wv)->∀ k,0 < k->k<=16->cellAt u2 g (o+(t - k))=some (.int .u32 ((sched b t).getD (t - k) 0).toNat):=fun u2 hu k h0 hk=>hu (t - k) (.int .u32 ((sched b t).getD (t - k) 0).toNat) (wget (by omega))
  have g15:decide (((t - 15:Nat):Int) < (t:Int))=true:=decide_eq_true (by omega)
  have g2:decide (((t - 2:Nat):Int) < (t:Int))=true:=decide_eq_true (by omega)
  have g16:decide (((t - 16:Nat):Int) < (t:Int))=true:=decide_eq_true (by omega)
  have g7:decide (((t - 7:Nat):Int) < (t:Int))=true:=decide_eq_true (by omega)
  have nn:∀ k:Nat,decide (0<=((k:Nat):Int))=true:=fun k=>decide_eq_true (Int.natCast_nonneg k)
  have rf:∀ v:World,Fr (fun _=>False) v v:=fun v=>Fr.refl _ v
  refine dr_mk (gd_mk (nn _) (gd_mk g15 ⟨_,cell _ hc 15 (by omega) (by omega),dr_mk (gd_mk (nn _) (gd_mk g15 ⟨_,cell _ hc 15 (by omega) (by omega),dr_mk (gd_mk (nn _) (gd_mk g15 ⟨_,cell _ hc 15 (by omega) (by omega),?_⟩))⟩))⟩))
  refine (rt_calls _ 7 (by omega) (by omega) _).mono ?_
  rintro e w3 ⟨rfl,rfl⟩
  refine ⟨_,rfl,kp_mk (rf _) hg (fun h=>h) (kp_mk (rf _) hg (fun h=>h) ((rt_calls _ 18 (by omega) (by omega) _).mono ?_))⟩
  rintro e w3 ⟨rfl,rfl⟩
  refine ⟨_,rfl,kp_mk (rf _) hg (fun h=>h) ?_⟩
  refine dr_mk (gd_mk (nn _) (gd_mk g2 ⟨_,cell _ hc 2 (by omega) (by omega),dr_mk (gd_mk (nn _) (gd_mk g2 ⟨_,cell _ hc 2 (by omega) (by omega),dr_mk (gd_mk (nn _) (gd_mk g2 ⟨_,cell _ hc 2 (by omega) (by omega),?_⟩))⟩))⟩))
  refine (rt_calls _ 17 (by omega) (by omega) _).mono ?_
  rintro e w3 ⟨rfl,rfl⟩
  refine ⟨_,rfl,kp_mk (rf _) hg (fun h=>h) (kp_mk (rf _) hg (fun h=>h) ((rt_calls _ 19 (by omega) (by omega) _).mono ?_))⟩
  rintro e w3 ⟨rfl,rfl⟩
  refine ⟨_,rfl,kp_mk (rf _) hg (fun h=>h) ?_⟩
  refine dr_mk (gd_mk (nn _) (gd_mk g16 ⟨_,cell _ hc 16 (by omega) (by omega),dr_mk (gd_mk (nn _) (gd_mk g7 ⟨_,cell _ hc 7 (by omega) (by omega),?_⟩))⟩))
  dsimp only
  rw [w_xor,w_shr _ 10 (by omega),w_xor,w_xor,w_shr _ 3 (by omega),w_xor,w_add,w_add,w_add]
  have fdd:Fr (fun _=>False) u u.drew.drew.drew:=((Fr.drew _ u).trans1 (Fr.drew _ _)).trans1 (Fr.drew _ _)
  refine rec_new (fun b20 w21 f21 hb20 r20=>?_)
  have f1:=fdd.trans1 f21
  have f021:Fr (fun k=>B<=k) w w21:=hf.trans1 (f1.mono (fun _ _ h=>h.elim))
  have s21:=f021.size
  refine app_row (us:=[wv (wNext (sched b t) t)]) (m:=1) (f1.row hr (fun _ _ h=>h)) (by rw [wNext,<- wnext_sum]; exact (rec_sl r20).src) (wv_one [_]) rfl (by omega) (by omega) (by omega) (fun A4 c4 u2 hr4 f4=>jnC_mk (hC _ _ ⟨?_,t+1,A4,c4,by omega,by omega,?_,?_⟩ ?_))
  ·exact f021.trans1 (f4.mono (fun k _ hk=>(hr.blt hk).1))
  ·rw [i64_id (by omega) (by omega)]; rfl
  ·have e:(sched b (t+1)).map wv=(sched b t).map wv ++ [wv (wNext (sched b t) t)]:=by
    show (sched b t ++ [if t < 16 then wAt b t else wNext (sched b t) t]).map wv=_
    rw [if_neg (by omega),List.map_append]; rfl
   rw [e]; exact hr4
  ·show (64 - IntKind.wrap .i64 ((t:Int)+1)).toNat < (64 - (t:Int)).toNat
   rw [i64_id (by omega) (by omega)]; omega
 ·have hge2:¬ (t:Int) < 64:=of_decide_eq_false hge
  have h64:t=64:=by omega
  subst h64
  exact hK A c u hf hr
theorem row_st1 {w:World} {B:Nat} {e:TypeId} {b n c:Nat} {vs:List Value} (hr:Row w B e 1 (some ⟨b,0,none⟩) n c vs) {i:Nat} {x:Value} (hi:i < n) (h1:x.oneCell'=true) {K:World->Prop}
  (hK:∀ u,Row u B e 1 (some ⟨b,0,none⟩) n c (splice vs i [x])->Fr (fun k=>k=b) w u->K u):st w b i [x] K:=by
 have hlen:=hr.len
 have hle:=hr.le
 rcases hr.at_ with ⟨hA,_⟩ | ⟨b',cs,hA,hB,hh,hs,ht⟩
 ·cases hA
 injection hA with hA
 injection hA with hA _
 subst hA
 have hrec:RecAt w b e cs.toList:=by unfold RecAt; simpa using hh
 have hcl:cs.toList.length=c:=by simpa using hs
 refine hrec.st_mk (by simp only [List.length_cons,List.length_nil]; omega) (fun v hv=>by simp at hv; subst hv; exact h1) (fun r f=>hK _ ⟨?_,hle,.inr ⟨b,_,rfl,hB,r,?_,?_⟩⟩ f)
 ·rw [splice_length (by simp only [List.length_cons,List.length_nil]; omega)]; exact hlen
 ·rw [List.size_toArray,splice_length (by simp only [List.length_cons,List.length_nil]; omega),hcl,Nat.mul_one]
 ·apply List.ext_getElem?
  intro j
  rw [List.getElem?_take,splice_get (by simp only [List.length_cons,List.length_nil]; omega),splice_get (by simp only [List.length_cons,List.length_nil]; omega)]
  subst ht
  rw [List.getElem?_take]
  by_cases hj:j < n * 1
  ·rw [if_pos hj,if_pos hj]
  ·rw [if_neg hj,if_neg hj,if_neg (by omega),if_neg (by simp only [List.length_cons,List.length_nil]; omega)]
theorem rec_row {w:World} {b B:Nat} {t:TypeId} {x:Value} (r:RecAt w b t ([x] ++ [])) (hB:B<=b):Row w B t 1 (some ⟨b,0,none⟩) 1 1 [x]:=⟨rfl,Nat.le_refl _,.inr ⟨b,_,rfl,hB,r,rfl,rfl⟩⟩
theorem rnd_at (a0 a1 a2 a3 a4 a5 a6 a7 k w:UInt32):rnd [a0,a1,a2,a3,a4,a5,a6,a7] k w=[a7+(rotr a4 6 ^^^ rotr a4 11 ^^^ rotr a4 25)+(a4 &&& a5 ^^^ ~~~a4 &&& a6)+k+w+(rotr a0 2 ^^^ rotr a0 13 ^^^ rotr a0 22)+(a0 &&& a1 ^^^ a0 &&& a2 ^^^ a1 &&& a2),a0,a1,a2,a3+(a7+(rotr a4 6 ^^^ rotr a4 11 ^^^ rotr a4 25)+(a4 &&& a5 ^^^ ~~~a4 &&& a6)+k+w),a4,a5,a6]:=by
 have e:∀ t s m:UInt32,t+(s+m)=t+s+m:=fun t s m=>(UInt32.add_assoc t s m).symm
 show [_+(_+_),_,_,_,_,_,_,_]=_
 rw [e]; rfl
set_option maxHeartbeats 2000000 in
theorem r04_rd {Q:Value->World->Prop} {C3:(S3×S3×(Nat×Nat)×S3×Int×Unit)->World->Prop} (A1:Option Addr) (c1:Nat) (x2:S3) (x6:Nat×Nat) (x7:S3) (x8:Int) (A9:Option Addr) (c9:Nat) (A0:Option Addr) (c0:Nat) (W S:List UInt32) (w:World) (h1:Sl w 1 A1 64 (KC.map wv)) (h9:Sl w 1 A9 64 (W.map wv)) (h0:Sl w 1 A0 8 (S.map wv)) (hc0:8<=c0) (B:Nat) (hB:B<=w.heap.size) (hB0:∀ k,blkOf A0=some k->B<=k)
  (hK:∀ A c w',Fr (fun _=>False) w w'->Sl w' 1 A 8 ((rnds W S 64).map wv)->(∀ k,blkOf A=some k->B<=k)->F33.l31 Q C3 ((A1,64,c1),x2,x6,x7,x8,(A,8,c),(0:Int),()) w') :
  F33.l19 Q C3 ((A1,64,c1),x2,x6,x7,x8,(A9,64,c9),(A0,8,c0),(0:Int),()) w:=by
 have hW:W.length=64:=by simpa using h9.1
 have hS:S.length=8:=by simpa using h0.1
 obtain ⟨g1,o1,rfl,_⟩:=h1.2 (by omega)
 obtain ⟨g9,o9,rfl,_⟩:=h9.2 (by omega)
 refine loop_rule (fun s u=>Fr (fun _=>False) w u/\∃ (t:Nat) (A:Option Addr) (c:Nat),t<=64/\s=((some ⟨g1,o1,none⟩,64,c1),x2,x6,x7,x8,(some ⟨g9,o9,none⟩,64,c9),(A,8,c),(t:Int),())/\Sl u 1 A 8 ((rnds W S t).map wv)/\8<=c/\∀ k,blkOf A=some k->B<=k)
  (fun s _=>(64 - s.2.2.2.2.2.2.2.1).toNat) ?_ _ _ ⟨Fr.refl _ _,0,A0,c0,by omega,rfl,h0,hc0,hB0⟩
 rintro s u C ⟨hf,t,A,c,ht,rfl,hr,hc8,hAB⟩ hC _
 have hlen:=rnds_len (ws:=W) hS t
 refine vIf_mk (fun hlt=>?_) (fun hge=>?_)
 ·have hlt2:(t:Int) < 64:=of_decide_eq_true hlt
  obtain ⟨g1',o1',hA1,hc1⟩:=(hf.sl h1 (fun _ _ _ h=>h)).2 (by omega)
  injection hA1 with hA1
  injection hA1 with q1 q2
  subst q1; subst q2
  obtain ⟨g9',o9',hA9,hc9⟩:=(hf.sl h9 (fun _ _ _ h=>h)).2 (by omega)
  injection hA9 with hA9
  injection hA9 with q1 q2
  subst q1; subst q2
  have hr0:=hr
  obtain ⟨g,o,rfl,hc⟩:=hr.2 (by omega)
  have hg:=hr.blt (by omega) (by omega) (b:=g) rfl
  obtain ⟨v0,v1,v2,v3,v4,v5,v6,v7,hv⟩:=eight hlen
  rw [hv] at hc hr0
  have rf:∀ v:World,Fr (fun _=>False) v v:=fun v=>Fr.refl _ v
  have nn:∀ k:Nat,decide (0<=((k:Nat):Int))=true:=fun k=>decide_eq_true (Int.natCast_nonneg k)
  have gt:decide ((t:Int) < ((64:Nat):Int))=true:=decide_eq_true hlt2
  have kc:cellAt u g1 (o1+(t:Int).toNat * 1)=some (.int .u32 (KC.getD t 0).toNat):=by
   rw [Int.toNat_natCast,Nat.mul_one]
   exact hc1 t _ (wget (show t < KC.length by show t < 64; omega))
  have wc:cellAt u g9 (o9+(t:Int).toNat * 1)=some (.int .u32 (W.getD t 0).toNat):=by
   rw [Int.toNat_natCast,Nat.mul_one]
   exact hc9 t _ (wget (by omega))
  have cl:∀ (u2:World) (i:Nat) (x:UInt32),cellsAt u2 g o ([v0,v1,v2,v3,v4,v5,v6,v7].map wv)->[v0,v1,v2,v3,v4,v5,v6,v7][i]?=some x->cellAt u2 g (o+i)=some (.int .u32 (x.toNat:Nat)):=fun u2 i x hu hi=>hu i _ (by rw [List.getElem?_map,hi]; rfl)
  refine dr_mk (gd_mk rfl ⟨_,cl _ 4 _ hc rfl,dr_mk (gd_mk rfl ⟨_,cl _ 4 _ hc rfl,dr_mk (gd_mk rfl ⟨_,cl _ 4 _ hc rfl,?_⟩)⟩)⟩)
  refine (rt_calls _ 6 (by omega) (by omega) _).mono ?_
  rintro e w3 ⟨rfl,rfl⟩
  refine ⟨_,rfl,kp_mk (rf _) hg (fun h=>h) (kp_mk (rf _) hg (fun h=>h) ((rt_calls _ 11 (by omega) (by omega) _).mono ?_))⟩
  rintro e w3 ⟨rfl,rfl⟩
  refine ⟨_,rfl,kp_mk (rf _) hg (fun h=>h) ((rt_calls _ 25 (by omega) (by omega) _).mono ?_)⟩
  rintro e w3 ⟨rfl,rfl⟩
  refine ⟨_,rfl,dr_mk (gd_mk rfl ⟨_,cl _ 4 _ hc rfl,dr_mk (gd_mk rfl ⟨_,cl _ 5 _ hc rfl,dr_mk (gd_mk rfl ⟨_,cl _ 4 _ hc rfl,dr_mk (gd_mk rfl ⟨_,cl _ 6 _ hc rfl,dr_mk (gd_mk rfl ⟨_,cl _ 7 _ hc rfl,dr_mk (gd_mk (nn _) (gd_mk gt ⟨_,kc,dr_mk (gd_mk (nn _) (gd_mk gt ⟨_,wc,dr_mk (gd_mk rfl ⟨_,cl _ 0 _ hc rfl,dr_mk (gd_mk rfl ⟨_,cl _ 0 _ hc rfl,dr_mk (gd_mk rfl ⟨_,cl _ 0 _ hc rfl,?_⟩)⟩)⟩)⟩))⟩))⟩)⟩)⟩)⟩)⟩)⟩
  refine (rt_calls _ 2 (by omega) (by omega) _).mono ?_
  rintro e w3 ⟨rfl,rfl⟩
  refine ⟨_,rfl,kp_mk (rf _) hg (fun h=>h) (kp_mk (rf _) hg (fun h=>h) ((rt_calls _ 13 (by omega) (by omega) _).mono ?_))⟩
  rintro e w3 ⟨rfl,rfl⟩
  refine ⟨_,rfl,kp_mk (rf _) hg (fun h=>h) ((rt_calls _ 22 (by omega) (by omega) _).mono ?_)⟩
  rintro e w3 ⟨rfl,rfl⟩
  refine ⟨_,rfl,dr_mk (gd_mk rfl ⟨_,cl _ 0 _ hc rfl,dr_mk (gd_mk rfl ⟨_,cl _ 1 _ hc rfl,dr_mk (gd_mk rfl ⟨_,cl _ 0 _ hc rfl,dr_mk (gd_mk rfl ⟨_,cl _ 2 _ hc rfl,dr_mk (gd_mk rfl ⟨_,cl _ 1 _ hc rfl,dr_mk (gd_mk rfl ⟨_,cl _ 2 _ hc rfl,?_⟩)⟩)⟩)⟩)⟩)⟩)⟩
  simp only [w_xor,w_not,w_and,w_add]
  have fd:Fr (fun _=>False) u u.drew.drew.drew.drew.drew:=((((Fr.drew _ u).trans1 (Fr.drew _ _)).trans1 (Fr.drew _ _)).trans1 (Fr.drew _ _)).trans1 (Fr.drew _ _)
  generalize u.drew.drew.drew.drew.drew=u4 at fd ⊢
  have us:=hf.size
  have us4:=fd.size
  refine rec_new (fun b147 w148 f148 hb r147=>gd_mk (decide_eq_true (by show (7:Int)<=(c:Int); omega)) ?_)
  have s148:=f148.size
  have f2:=fd.trans1 f148
  have h7:Sl w148 1 (slA (some ⟨g,o,none⟩) c 0 1) 7 ([v0,v1,v2,v3,v4,v5,v6].map wv):=Sl.take (f2.sl hr0 (fun _ _ _ h=>h)) (by omega)
  refine app_row2 (B:=w.heap.size) (us:=[v0,v1,v2,v3,v4,v5,v6].map wv) (m:=7) (rec_row r147 (by omega)) h7.src (wv_one _) rfl (by omega) (by omega) (by omega) (fun A2 c2 u2 hr2 fu2 hb2=>?_)
  have hr2':=hr2
  obtain ⟨g2,o2,rfl,hc2⟩:=hr2.sl.2 (by omega)
  have ho2:o2=0:=by
   rcases hr2.at_ with ⟨q,_⟩ | ⟨b',_,q,_⟩
   ·cases q
   ·injection q with q; injection q with _ q
  subst ho2
  have hb2':=(hr2.blt (b:=g2) rfl)
  refine dr_mk (gd_mk rfl ⟨_,hc2 4 (.int .u32 (v3.toNat:Nat)) rfl,dr_mk (gd_mk rfl (row_st1 hr2 (i:=0+4) (by omega) rfl (fun u3 hr3 fu3=>jnC_mk (hC _ _ ⟨?_,t+1,_,c2,by omega,?_,?_,hr2.le,fun k hk=>by have:=(hr2.blt hk).1; omega⟩ ?_))))⟩)
  ·have fa:Fr (fun _=>False) w w148:=hf.trans1 f2
   have fb:Fr (fun _=>False) w u2:=fa.trans fu2 (fun _ _ h=>h) (fun q hq h=>by simp [blkOf] at h; omega)
   exact fb.trans fu3 (fun _ _ h=>h) (fun q hq h=>by omega)
  ·rw [i64_id (by omega) (by omega)]; rfl
  ·show Sl u3 1 _ 8 ((rnd (rnds W S t) (KC.getD t 0) (W.getD t 0)).map wv)
   rw [hv,rnd_at]
   have:=hr3.sl
   rw [w_add] at this
   exact this
  ·show (64 - IntKind.wrap .i64 ((t:Int)+1)).toNat < (64 - (t:Int)).toNat
   rw [i64_id (by omega) (by omega)]; omega
 ·have hge2:¬ (t:Int) < 64:=of_decide_eq_false hge
  have h64:t=64:=by omega
  subst h64
  exact jnC_mk (hK A c u hf hr hAB)
theorem r04_up {Q:Value->World->Prop} {C3:(S3×S3×(Nat×Nat)×S3×Int×Unit)->World->Prop} (x1:S3) (bh:Nat) (x6:Nat×Nat) (x7:S3) (x8:Int) (Av:Option Addr) (cv:Nat) (S V:List UInt32) (w:World) (h:RecAt w bh 115 (S.map wv)) (hS:S.length=8) (hv:Sl w 1 Av 8 (V.map wv)) (hb:blkOf Av ≠ some bh)
  (hK:∀ w',Fr (fun k=>k=bh) w w'->RecAt w' bh 115 ((List.zipWith (·+·) S V).map wv)->C3 (x1,(some ⟨bh,0,none⟩,8,8),x6,x7,IntKind.wrap .i64 (x8+64),()) w') :
  F33.l31 Q C3 (x1,(some ⟨bh,0,none⟩,8,8),x6,x7,x8,(Av,8,cv),(0:Int),()) w:=by
 have hV:V.length=8:=by simpa using hv.1
 obtain ⟨g,o,rfl,_⟩:=hv.2 (by omega)
 have hgb:g ≠ bh:=fun e=>hb (by rw [e]; rfl)
 refine loop_rule (fun s u=>Fr (fun k=>k=bh) w u/\∃ (i:Nat) (L:List UInt32),i<=8/\s=(x1,(some ⟨bh,0,none⟩,8,8),x6,x7,x8,(some ⟨g,o,none⟩,8,cv),(i:Int),())/\RecAt u bh 115 (L.map wv)/\L.length=8/\∀ j,j < 8->L.getD j 0=if j < i then S.getD j 0+V.getD j 0 else S.getD j 0)
  (fun s _=>(8 - s.2.2.2.2.2.2.1).toNat) ?_ _ _ ⟨Fr.refl _ _,0,S,by omega,rfl,h,hS,fun j _=>rfl⟩
 rintro s u C ⟨hf,i,L,hi,rfl,hr,hL,hLj⟩ hC _
 obtain ⟨g',o',hA,hc⟩:=(hf.sl hv (fun _ k hk q=>hgb (by injection hk with hk; exact hk.trans q))).2 (by omega)
 injection hA with hA
 injection hA with q1 q2
 subst q1; subst q2
 refine vIf_mk (fun hlt=>?_) (fun hge=>?_)
 ·have hlt2:(i:Int) < 8:=of_decide_eq_true hlt
  have rd:RecAt u.drew bh 115 (L.map wv):=hr
  dsimp only
  simp only [Int.toNat_natCast,Nat.zero_add,Nat.mul_one]
  have nn:decide (0<=((i:Nat):Int))=true:=decide_eq_true (Int.natCast_nonneg i)
  have g8:decide ((i:Int) < ((8:Nat):Int))=true:=decide_eq_true hlt2
  refine dr_mk (gd_mk nn (gd_mk g8 ⟨_,by rw [Nat.zero_add]; exact rd.cell (wget (by omega)),dr_mk (gd_mk nn (gd_mk g8 ⟨_,hc i _ (wget (by omega)),dr_mk (gd_mk nn (gd_mk g8 ?_))⟩))⟩))
  rw [w_add,Nat.zero_add]
  refine rd.st_mk (by simp; omega) (wv_one [_]) (fun r f=>jnC_mk (hC _ _ ⟨?_,i+1,L.set i (L.getD i 0+V.getD i 0),by omega,?_,?_,by simpa using hL,fun j hj=>?_⟩ ?_))
  ·exact (hf.trans1 (Fr.drew _ _)).trans1 f
  ·rw [i64_id (by omega) (by omega)]; rfl
  ·rw [<- set_map (by omega)]; exact r
  ·rw [List.getD_eq_getElem?_getD,List.getElem?_set]
   by_cases hij:i=j
   ·subst hij
    rw [if_pos rfl,if_pos (by omega),if_pos (by omega),Option.getD_some,hLj i hj,if_neg (by omega)]
   ·rw [if_neg hij,<- List.getD_eq_getElem?_getD,hLj j hj]
    by_cases hji:j < i
    ·rw [if_pos hji,if_pos (by omega)]
    ·rw [if_neg hji,if_neg (by omega)]
  ·show (8 - IntKind.wrap .i64 ((i:Int)+1)).toNat < (8 - (i:Int)).toNat
   rw [i64_id (by omega) (by omega)]; omega
 ·have hge2:¬ (i:Int) < 8:=of_decide_eq_false hge
  have hi8:i=8:=by omega
  subst hi8
  have hfin:L=List.zipWith (·+·) S V:=by
   obtain ⟨l0,l1,l2,l3,l4,l5,l6,l7,rfl⟩:=eight hL
   obtain ⟨s0,s1,s2,s3,s4,s5,s6,s7,rfl⟩:=eight hS
   obtain ⟨v0,v1,v2,v3,v4,v5,v6,v7,rfl⟩:=eight hV
   have e0:=hLj 0 (by omega); have e1:=hLj 1 (by omega); have e2:=hLj 2 (by omega); have e3:=hLj 3 (by omega)
   have e4:=hLj 4 (by omega); have e5:=hLj 5 (by omega); have e6:=hLj 6 (by omega); have e7:=hLj 7 (by omega)
   simp at e0 e1 e2 e3 e4 e5 e6 e7
   simp [e0,e1,e2,e3,e4,e5,e6,e7]
  rw [hfin] at hr
  exact jnC_mk (hK u hf hr)
theorem outP_get:∀ (S:List UInt32) (i:Nat),i < 4 * S.length->(outP S)[i]?=some (UInt8.ofNat ((S.getD (i / 4) 0).toNat / 2 ^ (24 - 8 * (i % 4))))
 | [],i,h=>by simp at h
 | x :: S,i,h=>by
  have e:outP (x :: S)=[UInt8.ofNat (x.toNat / 2 ^ 24),UInt8.ofNat (x.toNat / 2 ^ 16),UInt8.ofNat (x.toNat / 2 ^ 8),UInt8.ofNat x.toNat] ++ outP S:=rfl
  rw [e]
  match i,h with
  | 0,_=>rfl
  | 1,_=>rfl
  | 2,_=>rfl
  | 3,_=>simp
  | i+4,h =>
   have:=outP_get S i (by simp at h; omega)
   rw [List.getElem?_append_right (by simp)]
   simp only [List.length_cons,List.length_nil,Nat.zero_add,Nat.reduceAdd,Nat.add_sub_cancel]
   rw [this,Nat.add_mod_right,show (i+4) / 4=i / 4+1 by omega]
   rfl
set_option maxHeartbeats 1000000 in
theorem r04_out {Q:Value->World->Prop} (bh b1 b8:Nat) (S:List UInt32) (w:World) (h:RecAt w bh 115 (S.map wv)) (hS:S.length=8) (h1:RecAt w b1 24 Z24) (h8:RecAt w b8 24 Z24) (n1:b8 ≠ bh) (n2:b8 ≠ b1)
  (hK:∀ w',Fr (fun k=>k=b1\/k=b8) w w'->Q (ofL ((outP S).map bv)) w') :
  F33.l36 Q ((some ⟨bh,0,none⟩,8,8),(b1,0),(b8,0),(0:Int),()) w:=by
 have hol:=outP_len S
 rw [hS] at hol
 have hZ:Z24=List.replicate 32 (.int .u8 0):=by rfl
 refine loop_rule (fun s u=>Fr (fun k=>k=b1\/k=b8) w u/\∃ i:Nat,i<=32/\s=((some ⟨bh,0,none⟩,8,8),(b1,0),(b8,0),(i:Int),())/\RecAt u bh 115 (S.map wv)/\RecAt u b1 24 Z24/\RecAt u b8 24 (((outP S).take i).map bv ++ List.replicate (32 - i) (.int .u8 0)))
  (fun s _=>(32 - s.2.2.2.1).toNat) ?_ _ _ ⟨Fr.refl _ _,0,by omega,rfl,h,h1,by rw [hZ] at h8; exact h8⟩
 rintro s u C ⟨hf,i,hi,rfl,hr,hr1,hr8⟩ hC _
 have hti:((outP S).take i).length=i:=by rw [List.length_take]; omega
 refine vIf_mk (fun hlt=>?_) (fun hge=>?_)
 ·have hlt2:(i:Int) < 32:=of_decide_eq_true hlt
  have e1:IntKind.wrap .i64 (Int.tdiv (i:Int) 4)=((i / 4:Nat):Int):=by
   have:Int.tdiv (i:Int) 4=((i / 4:Nat):Int):=rfl
   rw [this,i64_id (by omega) (by omega)]
  have e2:IntKind.wrap .u64 (IntKind.wrap .i64 (24 - IntKind.wrap .i64 (8 * Int.tmod (i:Int) 4)))=((24 - 8 * (i % 4):Nat):Int):=by
   have:Int.tmod (i:Int) 4=((i % 4:Nat):Int):=rfl
   rw [this,i64_id (n:=8 * ((i % 4:Nat):Int)) (by omega) (by omega),i64_id (by omega) (by omega),IntKind.wrap_u64]; omega
  dsimp only
  rw [e1,e2]
  simp only [Int.toNat_natCast,Nat.zero_add,Nat.mul_one]
  have hb:=outP_get S i (by omega)
  refine dr_mk (gd_mk (decide_eq_true (Int.natCast_nonneg _)) (gd_mk (decide_eq_true (by omega)) ⟨_,by rw [Nat.zero_add]; exact hr.cell (wget (by omega)),gd_mk (decide_eq_true (Int.natCast_nonneg _)) (gd_mk (decide_eq_true (Int.natCast_nonneg i)) (gd_mk (decide_eq_true hlt2) ?_))⟩))
  rw [Nat.min_eq_left (by omega),w_byte _ _ (by omega)]
  generalize UInt8.ofNat ((S.getD (i / 4) 0).toNat / 2 ^ (24 - 8 * (i % 4)))=x at hb ⊢
  refine hr8.st_mk (by simp [hti]; omega) (bvs_one [x]) (fun r f=>jnC_mk (hC _ _ ⟨?_,i+1,by omega,?_,?_,?_,?_⟩ ?_))
  ·exact hf.trans1 (f.mono (fun _ _ h=>.inr h))
  ·rw [i64_id (by omega) (by omega)]; rfl
  ·exact hr.fr f (fun q=>n1 q.symm)
  ·exact hr1.fr f (fun q=>n2 q.symm)
  ·rw [List.take_add_one,hb,Option.toList_some,<- bset_next hti (by omega)]; exact r
  ·show (32 - IntKind.wrap .i64 ((i:Int)+1)).toNat < (32 - (i:Int)).toNat
   rw [i64_id (by omega) (by omega)]; omega
 ·have hge2:¬ (i:Int) < 32:=of_decide_eq_false hge
  have hi32:i=32:=by omega
  subst hi32
  rw [List.take_of_length_le (by omega),Nat.sub_self,List.replicate_zero,List.append_nil] at hr8
  have hl:((outP S).map bv).length=32:=by simpa using hol
  have hZl:Z24.length=32:=by decide +kernel
  refine ⟨_,hl,hr8.cells (o:=0) (fun q v hq=>by simpa using hq),gd_mk (by simpa using hl) (hr1.st_mk (o:=0) (by rw [hl,hZl]; omega) (bvs_one _) (fun r f=>?_))⟩
  rw [splice_whole (by rw [hl,hZl])] at r
  exact ⟨_,hl,r.cells (o:=0) (fun q v hq=>by simpa using hq),hK _ (hf.trans1 (f.mono (fun _ _ h=>.inl h)))⟩
set_option maxHeartbeats 1000000 in
theorem sumR_calls (A:Option Addr) (n c:Nat) (l:List UInt8) (w:World) (h:Sl w 1 A n (l.map bv)) (hlen:l.length<=70368744177664) :
  Calls Tryz.prog 17 #[.slice A n c] w fun e w'=>e=.returned (ofL ((shaP l).map bv))/\Fr (fun _=>False) w w':=by
 refine (F17.of A n c w (Q:=fun v w'=>v=ofL ((shaP l).map bv)/\Fr (fun _=>False) w w') ?_).mono (fun e w' ⟨v,he,hv,h⟩=>⟨by rw [he,hv],h⟩)
 have hZd:Z24.length=32:=by decide +kernel
 have hl:((shaP l).map bv).length=32:=by rw [List.length_map,shaP_len]
 refine rec_new (fun b1 w2 f2 hb1 r1=>?_)
 refine (F32.of w2 (Q:=fun v w'=>Fr (fun _=>False) w2 w'/\∃ bk bh,v=.tuple #[.slice (some ⟨bk,0,none⟩) 64 64,.slice (some ⟨bh,0,none⟩) 8 8]/\RecAt w' bk 115 (KC.map wv)/\RecAt w' bh 115 (firstP.map wv)/\w2.heap.size<=bk/\bk < bh) ?_).mono ?_
 ·refine rec_new (fun bk w3 f3 hbk rk=>rec_new (fun bh w4 f4 hbh rh=>⟨f3.trans1 f4,bk,bh,rfl,rk.fr f4 (fun h=>h),rh,hbk,?_⟩))
  have:=rk.lt
  omega
 rintro e w3 ⟨v,rfl,f3,bk,bh,rfl,rk,rh,hbk,hkh⟩
 refine ⟨_,_,_,_,_,_,rfl,?_⟩
 have l3:=rh.lt
 have l1:=r1.lt
 have h3:=(f2.trans1 f3).sl h (fun _ _ _ h=>h)
 refine (F33.of A n c (some ⟨bk,0,none⟩) 64 64 (some ⟨bh,0,none⟩) 8 8 w3 (Q:=fun v w'=>v=ofL ((shaP l).map bv)/\Fr (fun k=>k=bh) w3 w') ?_).mono ?_
 ·refine rec_new (fun c1 w5 f5 hc1 rc1=>(message_calls A n c l w5 (f5.sl h3 (fun _ _ _ h=>h)) hlen).mono ?_)
  rintro e w6 ⟨f6,A5,c7,rfl,hm⟩
  refine ⟨_,_,_,rfl,jnC_mk ?_⟩
  have f36:=f5.trans1 f6
  have s5:=f5.size
  have s6:=f6.size
  have lc:=rc1.lt
  have hM64:(l ++ padP l.length).length % 64=0:=by rw [List.length_append,padP_len]; omega
  have hML:(l ++ padP l.length).length<=140737488355328:=by rw [List.length_append,padP_len]; omega
  have hfin:shaP l=outP (blocksN firstP (l ++ padP l.length) ((l ++ padP l.length).length / 64)):=rfl
  rw [hfin]
  clear hfin
  have key:∀ M:List UInt8,M.length % 64=0->M.length<=140737488355328->Row w6 w5.heap.size 5 1 A5 M.length c7 (M.map bv)->F33.l3 (fun v w'=>v=ofL ((outP (blocksN firstP M (M.length / 64))).map bv)/\Fr (fun k=>k=bh) w3 w') ((some ⟨bk,0,none⟩,64,64),(some ⟨bh,0,none⟩,8,8),(c1,0),(A5,M.length,c7),(0:Int),()) w6:=?_
  ·exact key _ hM64 hML hm
  intro M hM64 hML hm
  refine loop_rule (fun s u=>Fr (fun k=>k=bh) w3 u/\Fr (fun k=>k=bh) w6 u/\∃ j:Nat,64 * j<=M.length/\s=((some ⟨bk,0,none⟩,64,64),(some ⟨bh,0,none⟩,8,8),(c1,0),(A5,M.length,c7),((64 * j:Nat):Int),())/\RecAt u bh 115 ((blocksN firstP M j).map wv))
   (fun s _=>(M.length - s.2.2.2.2.1).toNat) ?_ _ _ ⟨f36.mono (fun _ _ h=>h.elim),Fr.refl _ _,0,by omega,rfl,rh.fr f36 (fun h=>h)⟩
  rintro s u C ⟨hf,hf6,j,hj,rfl,hr⟩ hC _
  have hSj:=blocksN_len j (s:=firstP) (l:=M) rfl
  have us:=hf6.size
  refine vIf_mk (fun hlt=>?_) (fun hge=>?_)
  ·have hlt2:((64 * j:Nat):Int) < (M.length:Int):=of_decide_eq_true hlt
   have hj1:64 * j+64<=M.length:=by omega
   have hmu:Sl u 1 A5 M.length (M.map bv):=hf6.sl hm.sl (fun _ k hk q=>by have:=(hm.blt hk).1; omega)
   refine jnC_mk (r04_w1 (some ⟨bk,0,none⟩,64,64) (some ⟨bh,0,none⟩,8,8) (c1,0) A5 M.length c7 j M u hmu hj1 hML (fun A9 c9 u1 g1 hw1=>?_))
   refine r04_w2 (some ⟨bk,0,none⟩,64,64) (some ⟨bh,0,none⟩,8,8) (c1,0) (A5,M.length,c7) _ _ A9 c9 u.heap.size u1 hw1 g1.size (fun A9' c9' u2 g2 hw2=>?_)
   have g12:Fr (fun _=>False) u u2:=g1.trans g2 (fun _ _ h=>h) (fun k hk q=>by omega)
   have hr2:=hr.fr g12 (fun h=>h)
   have hsl:Sl u2 1 (some ⟨bh,0,none⟩) 8 ((blocksN firstP M j).map wv):=⟨by simp [hSj],fun _=>⟨bh,0,rfl,hr2.cells (fun j v hj=>by rw [Nat.zero_add]; exact hj)⟩⟩
   refine app_row2 (Row.nil u2 u2.heap.size 115 1) hsl.src (wv_one _) rfl (by omega) (by omega) (Nat.le_refl _) (fun Av cv u3 hrv g3 hbv=>?_)
   have g3:Fr (fun _=>False) u2 u3:=g3.mono (fun k _ hk=>by simp [blkOf] at hk)
   rw [List.nil_append,Nat.zero_add] at hrv
   rw [Nat.zero_add]
   have g13:=g12.trans1 g3
   have hk3:Sl u3 1 (some ⟨bk,0,none⟩) 64 (KC.map wv):=by
    have q:=((rk.fr hf (fun q=>by omega)).fr g13 (fun h=>h))
    exact ⟨rfl,fun _=>⟨bk,0,rfl,q.cells (fun j v hj=>by rw [Nat.zero_add]; exact hj)⟩⟩
   have hw3:=g3.row hw2 (fun _ _ h=>h)
   refine jnC_mk (r04_rd (some ⟨bk,0,none⟩) 64 (some ⟨bh,0,none⟩,8,8) (c1,0) (A5,M.length,c7) _ A9' c9' Av cv _ (blocksN firstP M j) u3 hk3 hw3.sl hrv.sl hrv.le u2.heap.size g3.size (fun k hk=>(hrv.blt hk).1) (fun A c' u4 g4 hv4 hb4=>?_))
   have hu3:=g13.size
   have g14:=g13.trans1 g4
   have s12:=g12.size
   have hbb:blkOf A ≠ some bh:=fun q=>by have:=hb4 _ q; omega
   refine r04_up (some ⟨bk,0,none⟩,64,64) bh (c1,0) (A5,M.length,c7) _ A c' (blocksN firstP M j) _ u4 (hr.fr g14 (fun h=>h)) hSj hv4 hbb (fun u5 g5 hr5=>?_)
   have g15:Fr (fun k=>k=bh) u u5:=(g14.mono (fun _ _ h=>h.elim)).trans1 g5
   refine hC _ _ ⟨hf.trans1 g15,hf6.trans1 g15,j+1,by omega,?_,?_⟩ ?_
   ·rw [i64_id (by omega) (by omega),show ((64 * j:Nat):Int)+64=((64 * (j+1):Nat):Int) by omega]
   ·have:blocksN firstP M (j+1)=blockP (blocksN firstP M j) ((M.drop (64 * j)).take 64):=by
     have:=blocksN_append j firstP M [] 1 hj
     rw [List.append_nil,List.append_nil] at this
     exact this
    rw [this]
    exact hr5
   ·show ((M.length:Int) - IntKind.wrap .i64 (((64 * j:Nat):Int)+64)).toNat < ((M.length:Int) - ((64 * j:Nat):Int)).toNat
    rw [i64_id (by omega) (by omega)]; omega
  ·have hge2:¬ ((64 * j:Nat):Int) < (M.length:Int):=of_decide_eq_false hge
   have hjM:j=M.length / 64:=by omega
   subst hjM
   refine rec_new (fun b8 u8 f8 hb8 r8=>jnC_mk ?_)
   have rc6:=((rc1.fr f6 (fun h=>h)).fr hf6 (fun q=>by omega)).fr f8 (fun h=>h)
   refine r04_out bh c1 b8 _ u8 (hr.fr f8 (fun h=>h)) hSj rc6 r8 (by omega) (by omega) (fun w' g=>⟨rfl,?_⟩)
   have g8:Fr (fun k=>k=bh) w3 u8:=hf.trans1 (f8.mono (fun _ _ h=>h.elim))
   exact g8.trans g (fun k hk q=>by rcases q with q | q <;> omega) (fun k hk q=>by rcases q with q | q <;> omega)
 rintro e w4 ⟨v,rfl,rfl,f4⟩
 have r4:=(r1.fr f3 (fun h=>h)).fr f4 (fun q=>by omega)
 refine ⟨_,rfl,gd_mk (by rw [hl]; rfl) (r4.st_mk (o:=0) (by rw [hl,hZd]; omega) (bvs_one _) (fun r f=>?_))⟩
 rw [splice_whole (by rw [hl,hZd])] at r
 have s2:=f2.size
 have f24:Fr (fun _=>False) w w4:=(f2.trans1 f3).trans f4 (fun _ _ h=>h) (fun k hk h=>by omega)
 exact ⟨_,hl,r.cells (o:=0) (fun q v hq=>by simpa using hq),rfl,f24.trans f (fun _ _ h=>h) (fun k hk h=>by omega)⟩
end Go.Proofs.YtkfanhdicnjdlaaGreatDoor
namespace Go.Proofs.YtkfanhdicnjdlaaGreatDoor
open Go.GV Go.ChangeShapes Go.WideShapes Go.ChangeAt Go.RowKit
theorem own:ownKnob Tryz.prog.godebug=none:=by kernel_rfl
theorem laid:laidOutB Tryz.prog=true:=by kernel_rfl
end Go.Proofs.YtkfanhdicnjdlaaGreatDoor
namespace Go.Proofs.YtkfanhdicnjdlaaGreatDoor
open Go.GV Go.RowKit Go.Lib
theorem LgAt.go {P P' S:Nat->Prop} {w w':World} {lb db r:Nat} {L:Lg} (h:LgAt P w lb db r L) (f:Fr S w w') (hS:∀ k,S k->¬ P k) (h1:∀ k,k < w.heap.size->P k->P' k) (h2:∀ k,w'.heap.size<=k->P' k):LgAt P' w' lb db r L:=by
 obtain ⟨A,n,c,A2,n2,c2,vs,h⟩:=h
 exact ⟨A,n,c,A2,n2,c2,vs,(h.q.go f hS h1 h2).p rfl⟩
def x9 (D:List UInt8):Rc:=⟨1,0,D,[],[120,121],0,0⟩
theorem x9_rg (D:List UInt8):rgR (x9 D)=0:=by
 unfold rgR x9
 dsimp only
 rw [if_neg (by omega),if_neg (by rintro ⟨_,h⟩; simp at h),if_neg (by rintro ⟨h,_⟩; omega),if_neg (by rintro ⟨h,_⟩; omega),if_neg (by rintro ⟨h,_⟩; omega)]
theorem x9_len (D:List UInt8) (h:D.length=32) (q:Nat):(mkW { x9 D with sq:=q }).length=55:=by
 have e:daW { x9 D with sq:=q }=D ++ [120,121]:=by
  unfold daW
  rw [if_neg (by show ¬ ((1:Int)=3\/(1:Int)=4); omega),if_neg (by show ¬ (1:Int)=5; omega),if_pos (.inl rfl)]; rfl
 rw [mkW_len,e,List.length_append,h]; rfl
theorem lv30 (D:List UInt8) (hD:D.length=32):∃ M,(∀ m,rmL L7 (([x9 D]:List Rc).length:Nat) (szs [x9 D]:Nat)=(M,0)/\adL L7 [x9 D] m=(aoL M [x9 D] m,opW [x9 D] M,0))/\LgB (aoL M [x9 D] 1)/\(aoL M [x9 D] 1).ts=1/\(aoL M [x9 D] 1).tz=37/\(aoL M [x9 D] 1).rs=[{ x9 D with sq:=1 }]/\opW [x9 D] M=[wdR { x9 D with sq:=1 } 1 37 55]:=by
 have ml0:(mkW (x9 D)).length=55:=x9_len D hD 0
 obtain ⟨d1,hd,h1,h2,h3⟩:=ad_first (L:=L7) (x:=x9 D) L7_B (new_LS 9000 9) rfl rfl rfl (by show (4:Int) > 1; omega) (by omega) (by omega) ⟨by show (1:Int)<=1; omega,by show (1:Int)<=5; omega⟩ (x9_rg D) (by rw [ml0]; show ((55:Nat):Int)<=1024 - 95; omega) rfl
 generalize hM:({ L7 with d:=d1,ts:=1,tz:=37,tr:=0,sl:=false,tq:=1 }:Lg)=M at h2 h3
 have ml:=x9_len D hD 1
 have ers:(aoL M [x9 D] 1).rs=[{ x9 D with sq:=1 }]:=by subst hM; rfl
 have etq:(aoL M [x9 D] 1).tq=1:=by subst hM; rfl
 have ets:(aoL M [x9 D] 1).ts=1:=by subst hM; rfl
 have etz:(aoL M [x9 D] 1).tz=37:=by subst hM; rfl
 have etr:(aoL M [x9 D] 1).tr=0:=by subst hM; rfl
 have esg:(aoL M [x9 D] 1).sg=1024:=by subst hM; rfl
 have eby:(byW [{ x9 D with sq:=1 }]).length=55:=by
  have:byW [{ x9 D with sq:=1 }]=mkW { x9 D with sq:=1 }:=by unfold byW; simp
  rw [this,ml]
 have hB:LgB (aoL M [x9 D] 1):=by
  refine ⟨by rw [ets]; omega,⟨by rw [etz]; omega,by rw [etz,ers,eby]; omega⟩,by rw [etr,etz]; omega,by rw [etq,ers]; show 1+1<=_; omega,fun i x hi=>?_,by rw [esg]; omega⟩
  rw [ers] at hi
  rw [etq]
  match i,hi with
  | 0,hi=>cases hi; exact ⟨rfl,⟨hD,x9_rg D,by show 1 < _; omega⟩,by show (1:Int)<=1; omega,by show (1:Int)<=5; omega⟩
  | i+1,hi=>cases hi
 refine ⟨M,fun m=>⟨Prod.ext h2 h1,h3 m⟩,hB,ets,etz,ers,?_⟩
 subst hM
 show [wdR { x9 D with sq:=1 } 1 (37+((0:Nat):Int)) ((mkW { x9 D with sq:=1 }).length:Int)]=_
 rw [ml]; rfl
theorem x9_wd (D:List UInt8):wdR { x9 D with sq:=1 } 1 37 55=⟨1,1,D,[],2,1,37,55⟩:=by
 unfold wdR
 rw [if_pos (.inl rfl)]; rfl
theorem x9_dat (D:List UInt8) (hD:D.length=32) (hs:shaP [120,121]=D) (L:Lg) (h1:L.ts=1) (h2:L.tz=37) (h3:L.rs=[{ x9 D with sq:=1 }]):rdL L 1 37 55=(mkW { x9 D with sq:=1 },0)/\datR L ⟨1,0,D,[],2,1,37,55⟩=([120,121],0):=by
 have ml:=x9_len D hD 1
 have eb:byW L.rs=mkW { x9 D with sq:=1 }:=by rw [h3]; unfold byW; simp
 have er:rdL L 1 37 55=(mkW { x9 D with sq:=1 },0):=by
  unfold rdL
  rw [if_neg (by rw [h1,h2]; omega),h2,eb,ml,show IntKind.wrap .i64 (37 - 37)=0 from rfl,if_neg (by omega)]
  show ((mkW { x9 D with sq:=1 }).drop 0 |>.take 55,(0:Int))=_
  rw [List.drop_zero,List.take_of_length_le (by omega)]
 refine ⟨er,?_⟩
 have ep:=recP_mkW (x:={ x9 D with sq:=1 }) ⟨hD,x9_rg D,by show 1 < _; omega⟩ []
 rw [List.append_nil] at ep
 have ebr:bareR { x9 D with sq:=1 }={ x9 D with sq:=1 }:=by unfold bareR x9; simp
 rw [ebr] at ep
 have ec:rcb (mkW { x9 D with sq:=1 }) ⟨1,0,D,[],2,1,37,55⟩=({ x9 D with sq:=1 },0):=by
  unfold rcb
  rw [ep]
  dsimp only
  have es:saR { x9 D with sq:=1 } ⟨1,0,D,[],2,1,37,55⟩=⟨1,0,D,[],2,1,37,55⟩:=by
   unfold saR
   dsimp only
   rw [x9_wd]
  have eh:hoR { x9 D with sq:=1 }=true:=by
   unfold hoR
   rw [if_pos (.inl rfl)]
   show (shaP [120,121] == D)=true
   rw [hs]; simp
  rw [es,eh,wo_eqv,if_neg (by simp)]
 have eR:recR L ⟨1,0,D,[],2,1,37,55⟩=({ x9 D with sq:=1 },0):=by
  unfold recR
  dsimp only
  rw [er]
  dsimp only
  rw [if_neg (by omega),if_neg (by simp),ec]
 unfold datR
 rw [if_neg (fun q=>q (.inl rfl)),eR]; rfl
theorem str_slice2 {w:World} {l:List UInt8} {K:Nat->World->Prop} (hK:∀ b w',Fr (fun _=>False) w w'->w.heap.size<=b->b < w'.heap.size->Sl w' 1 (some ⟨b,0,none⟩) l.length (bys l)->K b w'):nw w (bys l) 5 fun b w1=>mkS w1 b fun w2=>K b w2:=by
 refine rec_new (fun b w1 f1 hb r1=>mkS_mk r1 (fun w2 f2 hc=>hK b w2 (f1.trans f2 (fun _ _ h=>h) (fun k hk h=>by omega)) hb (by have:=r1.lt; have:=f2.size; omega) ⟨by simp [bys],fun h0=>⟨b,0,rfl,fun j v hj=>?_⟩⟩))
 rw [hc]
 exact r1.cell (by rw [Nat.zero_add]; exact hj)
theorem x9_rs {O:Nat->Prop} {w:World} {b b13:Nat} {D:List UInt8} (hD:D.length=32) (h:RecAt w b 34 (rcC (x9 D) (some ⟨b13,0,none⟩) 2 2)) (hs:Sl w 1 (some ⟨b13,0,none⟩) 2 (([120,121]:List UInt8).map bv)) (h1:O b) (h2:O b13):RSl O w (some ⟨b,0,none⟩) 1 [x9 D]:=by
 have hl:=rcC_len (x:=x9 D) hD (some ⟨b13,0,none⟩) 2 2
 refine ⟨⟨rcC (x9 D) (some ⟨b13,0,none⟩) 2 2,⟨by rw [hl],fun _=>⟨b,0,rfl,h.cells (fun j v hj=>by rw [Nat.zero_add]; exact hj)⟩⟩,fun i y hi=>?_⟩,rfl,fun _ k hk=>by cases hk; exact h1⟩
 match i,hi with
 | 0,hi =>
  cases hi
  rw [chk_one hl]
  exact ⟨some ⟨b13,0,none⟩,2,2,rfl,hs,Nat.le_refl _,fun _ k hk=>by cases hk; exact h2,hD,by show 0<=_; omega,by show 2<=_; omega⟩
 | i+1,hi=>cases hi
set_option maxHeartbeats 4000000 in
theorem lives_calls (w:World) (hv:Nm8.VK w) (hK:KAt w):Calls Tryz.prog 7 #[] w fun e w'=>e=.returned (.bool true)/\Fr (fun _=>False) w w':=by
 refine (F7.of w (Q:=fun v w'=>v=.bool true/\Fr (fun _=>False) w w') ?_).mono (fun e w' ⟨v,he,hv,h⟩=>⟨by rw [he,hv],h⟩)
 refine (@NewO_calls ⟨fun k=>w.heap.size<=k⟩ 9000 9 w (fun k hk=>hk)).mono ?_
 rintro e w1 ⟨f1,db,r,rfl,hd,hdb,hrb⟩
 refine ⟨_,rfl,(lnew_calls (fun k=>w.heap.size<=k) db r (newD 9000 9) 1024 4 0 0 0 (.float .f64 0) 0 0 0 false 0 w1 hd (fun k hk=>Nat.le_trans f1.size hk) ⟨hdb,hrb⟩ rfl).mono ?_⟩
 rintro e w4 ⟨f4,lb,rfl,hlb,hL⟩
 have hL:LgAt (fun k=>w.heap.size<=k) w4 lb db r L7:=hL
 have f14:=f1.trans1 f4
 refine ⟨_,rfl,str_slice2 (l:=[120,121]) (fun b7 w9 f9 hb7 hl7 hs7=>?_)⟩
 refine (sumR_calls (some ⟨b7,0,none⟩) 2 2 [120,121] w9 hs7 (by show 2<=_; omega)).mono ?_
 rintro e w10 ⟨rfl,f10⟩
 have hDl:=shaP_len [120,121]
 have hDs:shaP [120,121]=shaP [120,121]:=rfl
 generalize hD:shaP [120,121]=D at hDl hDs ⊢
 clear hDs
 have hml:(D.map bv).length=32:=by rw [List.length_map,hDl]
 refine ⟨_,rfl,str_slice2 (l:=[120,121]) (fun b13 w15 f15 hb13 hl13 hs13=>gd_mk (by rw [hml]; rfl) (gd_mk (by
  simp only [List.length_append,hml]; rfl) (rec_new (fun b16 w17 f17 hb16 r16=>?_))))⟩
 have r16:RecAt w17 b16 34 (rcC (x9 D) (some ⟨b13,0,none⟩) 2 2):=by
  have e:(([Value.int .i64 1] ++ ([Value.int .u64 0] ++ (D.map bv ++ ([Value.string (⟨#[]⟩:ByteArray)] ++ ([Value.slice (some ⟨b13,0,none⟩) 2 2] ++ ([Value.int .i64 0] ++ ([Value.int .i64 0] ++ []))))))) ++ [])=rcC (x9 D) (some ⟨b13,0,none⟩) 2 2:=by
   unfold rcC x9
   simp
  rw [<- e]
  exact r16
 have f49:Fr (fun _=>False) w4 w17:=((f9.trans1 f10).trans1 f15).trans1 f17
 have s1:=f1.size
 have s4:=f4.size
 have s9:=f9.size
 have s10:=f10.size
 have s15:=f15.size
 have s17:=f17.size
 have l16:=r16.lt
 have h17:LgAt (fun k=>w.heap.size<=k/\k ≠ b13/\k ≠ b16) w17 lb db r L7:=hL.go f49 (fun _ h=>h.elim) (fun k hk q=>⟨q,by omega,by omega⟩) (fun k hk=>⟨by omega,by omega,by omega⟩)
 have f017:=f14.trans1 f49
 have hE:Env (fun k=>w.heap.size<=k/\k ≠ b13/\k ≠ b16) w w17:=⟨hv,f017,fun k hk=>hk.1⟩
 have hs17:=f17.sl hs13 (fun _ _ _ h=>h)
 obtain ⟨M,hM,hB,e1,e2,e3,e4⟩:=lv30 D hDl
 have hG:DkG L7.d 0:=⟨(new_LS 9000 9).i,new_B 9000 9 (by omega) (by omega)⟩
 refine (add_calls (fun k=>w.heap.size<=k/\k ≠ b13/\k ≠ b16) (fun k=>k=b13\/k=b16) w lb db r L7 0 _ 1 1 [x9 D] 1 w17 h17 hE L7_B hG (by omega) (x9_rs hDl r16 hs17 (.inr rfl) (.inl rfl)) (fun k hk q=>hk.elim q.2.1 q.2.2) (by omega) (by show (-1099511627776:Int)<=1024; omega) (fun _ _ _ _=>by rw [(hM 1).1]; exact hB)).mono ?_
 rintro e w18 ⟨f18,h18,A,c,rfl,hW⟩
 have hG18:=ad_G (l:=[x9 D]) (deeds:=1) hG
 rw [(hM 1).2] at h18 hW hG18 ⊢
 have hE18:=hE.step f18
 have h18:LgAt (fun k=>w.heap.size<=k/\k ≠ b13/\k ≠ b16) w18 lb db r (aoL M [x9 D] 1):=h18
 have hW:Wr2 w18 w17.heap.size A (opW [x9 D] M).length c (opW [x9 D] M):=hW
 have hG18:DkG (aoL M [x9 D] 1).d (0+10):=hG18
 rw [e4,x9_wd] at hW
 refine ⟨A,(opW [x9 D] M).length,c,0,rfl,vIf_f rfl ?_⟩
 rw [e4]
 refine vIf_f rfl (jnC_mk (fun _=>?_))
 obtain ⟨b,o,rfl,hc⟩:=hW.row.sl.2 (by show 1 ≠ 0; omega)
 have hc:cellsAt w18.drew b o (woC ⟨1,1,D,[],2,1,37,55⟩ ++ []):=hc
 rw [List.append_nil] at hc
 have we:=woC_end (x:=⟨1,1,D,[],2,1,37,55⟩) hDl
 refine dr_mk (gd_mk rfl ⟨D.map bv,hml,fun j v hj=>?_,dr_mk (gd_mk rfl ⟨[.int .i64 1,.int .i64 37,.int .i64 55],rfl,fun j v hj=>?_,gd_mk (by rw [hml]; rfl) (gd_mk rfl ?_)⟩)⟩)
 ·rw [Nat.add_assoc]
  refine hc (2+j) v ?_
  show ([Value.int .i64 1,.int .u64 ((1:Nat):Int)] ++ (D.map bv ++ _))[2+j]?=some v
  rw [List.getElem?_append_right (by simp),List.getElem?_append_left (by have:=(List.getElem?_eq_some_iff.1 hj).1; simpa using this)]
  simpa using hj
 ·match j,hj with
  | 0,hj=>cases hj; exact hc 36 (.int .i64 1) (we 2)
  | 1,hj=>cases hj; exact hc 37 (.int .i64 37) (we 3)
  | 2,hj=>cases hj; exact hc 38 (.int .i64 55) (we 4)
  | j+3,hj=>cases hj
 have hx:=x9_dat D hDl hD (aoL M [x9 D] 1) e1 e2 e3
 have fd:Fr (fun _=>False) w18 w18.drew:=Fr.drew _ _
 have hbl:(byW (aoL M [x9 D] 1).rs).length<=1099511627776:=by have:=hB.tz; omega
 refine (data_calls (fun k=>w.heap.size<=k/\k ≠ b13/\k ≠ b16) w lb db r (aoL M [x9 D] 1) (0+10) D 1 2 1 37 55 [.slice none 0 0] w18.drew (LgAt.fr0 h18 fd) (hE18.up fd) hG18 (by omega) hbl (by rw [hx.1,x9_len D hDl 1]; omega) hDl (hK.fr (hE18.up fd).fr (fun h=>h))).mono ?_
 rintro e w30 ⟨f30,A',n',c',rfl,hA,_⟩
 rw [hx.2] at hA ⊢
 refine ⟨A',n',c',0,rfl,vIf_t rfl (b2s_sl hA ⟨?_,?_⟩)⟩
 ·show Value.bool ((⟨#[120,121]⟩:ByteArray).toList == (⟨#[120,121]⟩:ByteArray).toList)=_
  rw [beq_self_eq_true]
 exact ((hE18.up fd).up f30).fr
theorem record_nil (y:Wo) (w:World):Calls Tryz.prog 4 #[.pointer none,ofL (woC y)] w fun e w'=>e=.returned (.tuple #[ofL (rcC rc0 none 0 0),.int .i64 1])/\Fr (fun _=>False) w w':=by
 refine (F4.of none _ w (Q:=fun v w'=>v=.tuple #[ofL (rcC rc0 none 0 0),.int .i64 1]/\Fr (fun _=>False) w w') ?_).mono (fun e w' ⟨v,he,hv,h⟩=>⟨by rw [he,hv],h⟩)
 refine rec_new (fun b1 w2 f2 hb1 r1=>rec_new (fun b3 w4 f4 hb3 r3=>vIf_t rfl ?_))
 have s2:=f2.size
 exact ansN_mk (N:=38) (cs:=rcC rc0 none 0 0) (K:=fun a w1=>Value.tuple #[ofL a,.int .i64 1]=.tuple #[ofL (rcC rc0 none 0 0),.int .i64 1]/\Fr (fun _=>False) w w1) r3 rfl rfl (rcC_one _ _ _ _) (fun w' g=>⟨rfl,fr_var (f2.trans1 f4) (by omega) g⟩)
theorem data_nil (cs:List Value) (w:World):Calls Tryz.prog 5 #[.pointer none,ofL cs] w fun e w'=>e=.returned (.tuple #[.slice none 0 0,.int .i64 1])/\Fr (fun _=>False) w w' :=
 (F5.of none cs w (Q:=fun v w'=>v=.tuple #[.slice none 0 0,.int .i64 1]/\Fr (fun _=>False) w w') (rec_new (fun b1 w2 f2 hb1 r1=>vIf_t rfl ⟨rfl,f2⟩))).mono (fun e w' ⟨v,he,hv,h⟩=>⟨by rw [he,hv],h⟩)
set_option maxHeartbeats 1000000 in
theorem none_law (y:Wo) (es:List Value) (w:World) (hy:y.d.length=32) (he:es.length=38) (hv:Nm8.VK w) (hK:KAt w) :
  Calls Tryz.prog 3 #[ofL (woC y),ofL es] w fun e w'=>e=.returned (.bool true)/\Fr (fun _=>False) w w':=by
 refine (F3.of _ _ w (Q:=fun v w'=>v=.bool true/\Fr (fun _=>False) w w') ?_).mono (fun e w' ⟨v,he,hv,h⟩=>⟨by rw [he,hv],h⟩)
 refine rec_new (fun b1 w2 f2 hb1 r1=>rec_new (fun b3 w4 f4 hb3 r3=>?_))
 have f04:=f2.trans1 f4
 refine ⟨_,woC_len hy,rec_all (r1.fr f4 (fun h=>h)),(record_nil y w4).mono ?_⟩
 rintro e w6 ⟨rfl,f6⟩
 refine ⟨_,_,rfl,var_new (sz:=38) rfl rfl (rcC_one _ _ _ _) (fun b10 w12 f12 hb10 r10=>?_)⟩
 have f612:=f6.trans1 f12
 have f012:=f04.trans1 f612
 refine ⟨es,he,rec_all (r3.fr f612 (fun h=>h)),(data_nil es w12).mono ?_⟩
 rintro e w14 ⟨rfl,f14⟩
 have f014:=f012.trans1 f14
 refine ⟨_,_,_,_,rfl,_,rfl,rec_all (r10.fr f14 (fun h=>h)),(rsame_calls rc0 none 0 0 rc0 none 0 0 w14 z32_len z32_len (Sl.nil _ _ _) (Sl.nil _ _ _) (by omega)).mono ?_⟩
 rintro e w21 ⟨rfl,f21⟩
 have f021:=f014.trans1 f21
 refine ⟨_,rfl,vIf_t (smR_iff.2 rfl) (vIf_t rfl (vIf_t rfl (vIf_t rfl ((lives_calls w21 (hv.fr f021) (hK.fr f021 (fun h=>h))).mono ?_))))⟩
 rintro e w24 ⟨rfl,f24⟩
 exact ⟨_,rfl,rfl,f021.trans1 f24⟩
end Go.Proofs.YtkfanhdicnjdlaaGreatDoor
namespace Go.Proofs.YtkfanhdicnjdlaaGreatDoor
open Go.GV Go.ChangeShapes Go.WideShapes Go.ChangeAt Go.RowKit
def laidL:List (String×DataW Unit):=Rows.recallNoneRow.laid
theorem laidL_eq : laidL = [("math/bits.deBruijn32tab", Rows.laid_math_bits_deBruijn32tab), ("math/bits.deBruijn64tab", Rows.laid_math_bits_deBruijn64tab), ("internal/strconv.uint64pow10", Rows.laid_internal_strconv_uint64pow10), ("stillage/sha.constants", Rows.laid_stillage_sha_constants)] := rfl
theorem gTab : Tryz.prog.globalNamed "internal/strconv.uint64pow10" = some 1 := by kernel_rfl
theorem gTabType:(Tryz.prog.globals[1]?).map (·.type)=some 221:=by kernel_rfl
theorem cellsT:Tryz.prog.cellsOf 221=20:=by kernel_rfl
theorem cellsE:Tryz.prog.cellsOf 22=1:=by kernel_rfl
theorem vK {W:World} (h:laidMet Tryz.prog laidL W):Nm8.VK W:=by
 rw [laidL_eq] at h
 exact ⟨Lib.tabIs_of_head (rest:=_) gTab gTabType Tryz.underlying221 Tryz.underlying22 cellsE cellsT h.tail.tail⟩
theorem gTabS : Tryz.prog.globalNamed "stillage/sha.constants" = some 0 := by kernel_rfl
theorem gTabSType:(Tryz.prog.globals[0]?).map (·.type)=some 209:=by kernel_rfl
theorem cellsTS:Tryz.prog.cellsOf 209=64:=by kernel_rfl
theorem cellsES:Tryz.prog.cellsOf 115=1:=by kernel_rfl
def KI:List Int:=KC.map fun a=>(a.toNat:Int)
theorem tableS {W : World} (h : laidMet Tryz.prog laidL W) : Lib.TabIs Tryz.prog W "stillage/sha.constants" .u32 KI := by
 rw [laidL_eq] at h
 exact Lib.tabIs_of_head (rest:=[]) gTabS gTabSType Tryz.underlying209 Tryz.underlying115 cellsES cellsTS h.tail.tail.tail
theorem kAt {W:World} (h:laidMet Tryz.prog laidL W):KAt W:=by
 intro j v hj
 have hjl:=(List.getElem?_eq_some_iff.1 hj).1
 have hl:KI.length=KC.length:=List.length_map _
 rw [List.length_map] at hjl
 have hc:=(tableS h).cell gTabS j (by omega)
 rw [Nat.zero_add]
 show W.cell? _=_
 rw [hc]
 rw [List.getElem?_map,List.getElem?_eq_getElem hjl] at hj
 injection hj with hj
 rw [<- hj]
 unfold KI wv
 rw [List.getD_eq_getElem?_getD,List.getElem?_map,List.getElem?_eq_getElem hjl]
 rfl
noncomputable def laidWorld (os:Os):World :=
 let w0:=World.holding Tryz.prog os ⟨#[],#[],[]⟩
 { w0 with heap:=(((w0.heap.modify 1 fun
   | .cells _ t frozen=>.cells #[.int .u64 1,.int .u64 10,.int .u64 100,.int .u64 1000,.int .u64 10000,.int .u64 100000,.int .u64 1000000,.int .u64 10000000,.int .u64 100000000,.int .u64 1000000000,.int .u64 10000000000,.int .u64 100000000000,.int .u64 1000000000000,.int .u64 10000000000000,.int .u64 100000000000000,.int .u64 1000000000000000,.int .u64 10000000000000000,.int .u64 100000000000000000,.int .u64 1000000000000000000,.int .u64 10000000000000000000] t frozen
   | o=>o).modify 3 fun
   | .cells _ t frozen=>.cells #[.int .u8 0,.int .u8 1,.int .u8 28,.int .u8 2,.int .u8 29,.int .u8 14,.int .u8 24,.int .u8 3,.int .u8 30,.int .u8 22,.int .u8 20,.int .u8 15,.int .u8 25,.int .u8 17,.int .u8 4,.int .u8 8,.int .u8 31,.int .u8 27,.int .u8 13,.int .u8 23,.int .u8 21,.int .u8 19,.int .u8 16,.int .u8 7,.int .u8 26,.int .u8 12,.int .u8 18,.int .u8 6,.int .u8 11,.int .u8 5,.int .u8 10,.int .u8 9] t frozen
   | o=>o).modify 4 fun
   | .cells _ t frozen=>.cells #[.int .u8 0,.int .u8 1,.int .u8 56,.int .u8 2,.int .u8 57,.int .u8 49,.int .u8 28,.int .u8 3,.int .u8 61,.int .u8 58,.int .u8 42,.int .u8 50,.int .u8 38,.int .u8 29,.int .u8 17,.int .u8 4,.int .u8 62,.int .u8 47,.int .u8 59,.int .u8 36,.int .u8 45,.int .u8 43,.int .u8 51,.int .u8 22,.int .u8 53,.int .u8 39,.int .u8 33,.int .u8 30,.int .u8 24,.int .u8 18,.int .u8 12,.int .u8 5,.int .u8 63,.int .u8 55,.int .u8 48,.int .u8 27,.int .u8 60,.int .u8 41,.int .u8 37,.int .u8 16,.int .u8 46,.int .u8 35,.int .u8 44,.int .u8 21,.int .u8 52,.int .u8 32,.int .u8 23,.int .u8 11,.int .u8 54,.int .u8 26,.int .u8 40,.int .u8 15,.int .u8 34,.int .u8 20,.int .u8 31,.int .u8 10,.int .u8 25,.int .u8 14,.int .u8 19,.int .u8 9,.int .u8 13,.int .u8 8,.int .u8 7,.int .u8 6] t frozen
   | o=>o).modify 0 fun
   | .cells _ t frozen=>.cells (KC.map wv).toArray t frozen
   | o=>o }
end Go.Proofs.YtkfanhdicnjdlaaGreatDoor
