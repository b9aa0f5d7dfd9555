import Derived.Shelf.Lays
import Derived.Test.YtadbakmblklncaaGreatDoorProg
import Derived.Shelf.Sort.Plain
import Derived.Shelf.Slices.In.SortNone
import Derived.Test.YtadbakmblklncaaGreatDoorP2
set_option linter.unusedVariables false
set_option linter.unusedSimpArgs false
namespace Go.Proofs.YtadbakmblklncaaGreatDoor
open Go.GV Go.RowKit Go.Lib Go.Stb
theorem fr_own {S:Nat->Prop} {w u v:World} {A:Option Addr} {b:Nat} (f:Fr (fun _=>False) w u) (hb:∀ k,blkOf A=some k->b<=k) (hw:w.heap.size<=b) (g:Fr (fun k=>blkOf A=some k) u v):Fr S w v :=
 f.trans g (fun _ _ h=>h.elim) (fun k hk h=>by have:=hb k h; omega)
theorem lasts_calls (A:Option Addr) (n c:Nat) (L:List Nm) (p:Value) (w:World) (h:NSl w A n L) (hn:n<=1073741824) :
  Calls Tryz.prog 85 #[ofL [.slice A n c,p]] w fun e w'=>Fr (fun _=>False) w w'/\∃ A' c',e=.returned (.slice A' (lastN L).length c')/\NRow w' w.heap.size A' (lastN L).length c' (lastN L):=by
 refine (F85.of _ w (Q:=fun v w'=>Fr (fun _=>False) w w'/\∃ A' c',v=.slice A' (lastN L).length c'/\NRow w' w.heap.size A' (lastN L).length c' (lastN L)) ?_).mono (fun e w' ⟨v,he,hf,A',c',hv,h⟩=>⟨hf,A',c',by rw [he,hv],h⟩)
 refine nw_mk ?_
 have f1:Fr (fun _=>False) w (w.alloc (.cells [Value.slice A n c,p].toArray 50)):=Fr.alloc _ _ _
 have r1:=RecAt.new w [Value.slice A n c,p] 50
 generalize w.alloc (.cells [Value.slice A n c,p].toArray 50)=w1 at f1 r1 ⊢
 have hsz:=f1.size
 refine ⟨A,n,c,r1.cell rfl,(ClnNm.clone_calls A n c _ w1 (h.fr0 f1).1 (encN_o.fo L) hn).mono ?_⟩
 rintro r w2 ⟨f2,A2,c2,rfl,h2⟩
 refine ⟨_,_,_,rfl,(StbNm.sortStable_calls lsrt w1.heap.size A2 n c2 L w2 h2 h.2 (by omega)).mono ?_⟩
 rintro r w3 ⟨rfl,f3,h3⟩
 refine ⟨rfl,(compactN_calls w1.heap.size A2 c2 (stab cmpM L) n w3 ⟨h3,by rw [stab_len]; exact h.2⟩ (by omega)).mono ?_⟩
 have hc:cptN (stab cmpM L) n=lastN L:=by rw [<- h.2]; exact last_eq L
 rw [hc]
 rintro r w4 ⟨rfl,f4,h4⟩
 have hA2:∀ k,blkOf A2=some k->w1.heap.size<=k:=fun k hk=>(h2.blt hk).1
 refine ⟨_,_,_,rfl,fr_own (f1.trans1 f2) hA2 (by omega) (f3.trans1 f4),A2,c2,rfl,⟨?_,h4.2⟩⟩
 exact row_low hsz h4.1
theorem set_calls (B:Nat) (A:Option Addr) (n c:Nat) (l:List Nm) (s:ByteArray) (v:Int) (w:World) (h:NRow w B A n c l) (ha:AscN l) (hB:B<=w.heap.size) (hn:n<=1073741824) :
  Calls Tryz.prog 116 #[.slice A n c,.string s,.int .i64 v] w fun e w'=>Fr (fun k=>blkOf A=some k) w w'/\∃ A' c',e=.returned (.slice A' (putN (s,v) l).length c')/\NRow w' B A' (putN (s,v) l).length c' (putN (s,v) l):=by
 refine (F116.of A n c s v w (Q:=fun v' w'=>Fr (fun k=>blkOf A=some k) w w'/\∃ A' c',v'=.slice A' (putN (s,v) l).length c'/\NRow w' B A' (putN (s,v) l).length c' (putN (s,v) l)) ?_).mono (fun e w' ⟨v,he,hf,A',c',hv,h⟩=>⟨hf,A',c',by rw [he,hv],h⟩)
 refine (bsN_calls A n c l s w h.sl ha (by omega)).mono ?_
 rintro r w2 ⟨f2,i,rfl,hp⟩
 have h2:=h.fr0 f2
 have hin:=hp.1
 have hl:=h.2
 refine ⟨_,_,rfl,vIf_mk (fun hi=>?_) (fun hi=>?_)⟩
 ·obtain ⟨x,hx,hs⟩:=isN_at hi
  have hil:=(List.getElem?_eq_some_iff.1 hx).1
  have hpt:=row_putG (o':=i * 2+1) (us:=[Value.int .i64 v]) (K:=fun w'=>Fr (fun k=>blkOf A=some k) w w'/\∃ A' c',Value.slice A n c=.slice A' (putN (s,v) l).length c'/\NRow w' B A' (putN (s,v) l).length c' (putN (s,v) l)) h2.1 (by omega) (by simp; omega) (by simp; rfl) (fun w6 hr6 f6=>?_)
  ·rw [dr_iff] at hpt
   obtain ⟨b,o,hA,hpt⟩:=hpt
   rw [hA]
   refine dr_mk (gd_mk (decide_eq_true (by omega)) (gd_mk (decide_eq_true (by omega)) ?_))
   rw [Int.toNat_natCast,<- hA]
   exact hpt
  ·rw [put_in hp hx hs,List.length_set,hl]
   refine ⟨(f2.mono (fun _ _ h=>h.elim)).trans1 f6,A,c,rfl,?_,by rw [List.length_set,hl]⟩
   have e:splice (flt encN l) (i * 2+1) [Value.int .i64 v]=flt encN (l.set i (s,v)):=by
    rw [<- flt_set (enc:=encN) (sz:=2) (fun _ _=>rfl) (by omega) rfl]
    apply List.ext_getElem?
    intro j
    have hfl:=encN_o.fl l
    rw [splice_get (by simp; omega),splice_get (by show i * 2+2<=_; omega)]
    have g0:(flt encN l)[i * 2]?=some (.string s):=by
     have:=flt_get (enc:=encN) (sz:=2) (fun _ _=>rfl) hx 0 (by omega)
     rw [Nat.add_zero] at this
     rw [this,<- hs]; rfl
    by_cases h1:j < i * 2
    ·rw [if_pos (by omega),if_pos h1]
    ·by_cases h2:j=i * 2
     ·subst h2
      rw [if_pos (by omega),if_neg (by omega),if_pos (by show i * 2 < i * 2+2; omega),g0,Nat.sub_self]; rfl
     ·rw [if_neg (by omega),if_neg h1]
      by_cases h3:j=i * 2+1
      ·subst h3
       rw [if_pos (by simp),if_pos (by show i * 2+1 < i * 2+2; omega),Nat.sub_self,show i * 2+1 - i * 2=1 by omega]; rfl
      ·rw [if_neg (by simp; omega),if_neg (by show ¬ j < i * 2+2; omega)]
   rw [<- e]
   exact hr6
 ·refine gd_mk rfl (nw_mk ?_)
  have f3:Fr (fun _=>False) w2 (w2.alloc (.cells (encN (s,v)).toArray 110)):=Fr.alloc _ _ _
  have r3:=RecAt.new w2 (encN (s,v)) 110
  show Calls _ _ _ (w2.alloc (.cells (encN (s,v)).toArray 110)) _
  have hA2:blkOf A ≠ some w2.heap.size:=fun e=>by have:=(h2.1.blt e).2; omega
  generalize hb3:w2.heap.size=b3 at r3 hA2 ⊢
  generalize w2.alloc (.cells (encN (s,v)).toArray 110)=w3 at f3 r3 ⊢
  have h3:=h2.fr0 f3
  refine (InsNm.insert_calls encN_o B A n c i l (s,v) b3 w3 h3.1 hl (by omega) r3 hA2 (by have:=f2.size; have:=f3.size; omega) hn).mono ?_
  rintro r w4 ⟨A4,c4,rfl,f4,h4,_⟩
  have hi:isN s i l=false:=hi
  rw [<- put_out hp ha hi] at h4
  have hlen:(putN (s,v) l).length=n+1:=by rw [put_out hp ha hi]; simp; omega
  rw [hlen]
  exact ⟨_,_,_,rfl,((f2.trans1 f3).mono (fun _ _ h=>h.elim)).trans1 f4,A4,c4,rfl,h4,hlen⟩
theorem cut_calls (B:Nat) (A:Option Addr) (n c:Nat) (l:List Nm) (s:ByteArray) (w:World) (h:NRow w B A n c l) (ha:AscN l) (hn:n<=1073741824) :
  Calls Tryz.prog 117 #[.slice A n c,.string s] w fun e w'=>Fr (fun k=>blkOf A=some k) w w'/\e=.returned (.tuple #[.slice A (woN s l).length c,.int .i64 ((findN s l).getD 0),.bool (findN s l).isSome])/\NRow w' B A (woN s l).length c (woN s l)/\(findN s l=none->Fr (fun _=>False) w w'):=by
 refine (F117.of A n c s w (Q:=fun v' w'=>Fr (fun k=>blkOf A=some k) w w'/\v'=.tuple #[.slice A (woN s l).length c,.int .i64 ((findN s l).getD 0),.bool (findN s l).isSome]/\NRow w' B A (woN s l).length c (woN s l)/\(findN s l=none->Fr (fun _=>False) w w')) ?_).mono (fun e w' ⟨v,he,hf,hv,h⟩=>⟨hf,by rw [he,hv],h⟩)
 refine (bsN_calls A n c l s w h.sl ha (by omega)).mono ?_
 rintro r w2 ⟨f2,i,rfl,hp⟩
 have h2:=h.fr0 f2
 have hin:=hp.1
 have hl:=h.2
 refine ⟨_,_,rfl,vIf_mk (fun hi=>?_) (fun hi=>?_)⟩
 ·have hi:isN s i l=false:=by simpa using hi
  obtain ⟨e1,e2⟩:=wo_out hp ha hi
  rw [e1,e2,hl]
  exact ⟨f2.mono (fun _ _ h=>h.elim),rfl,h2,fun _=>f2⟩
 ·have hi:isN s i l=true:=by simpa using hi
  obtain ⟨x,hx,hs⟩:=isN_at hi
  have hil:=(List.getElem?_eq_some_iff.1 hx).1
  refine n_rdI h2.sl hx rfl ((DelNm.delete_calls encN_o B A n c i l w2 h2.1 hl (by omega) hn (ei i (by omega))).mono ?_)
  rintro r w3 ⟨rfl,f3,h3⟩
  have e1:=wo_in hp ha hx hs
  have e2:=find_in hp hx hs
  rw [<- e1] at h3
  have hlen:(woN s l).length=n - 1:=by rw [e1]; simp; omega
  rw [hlen,e2]
  exact ⟨_,_,_,rfl,(f2.mono (fun _ _ h=>h.elim)).trans1 f3,rfl,⟨h3,hlen⟩,fun h=>by cases h⟩
theorem step_calls (B:Nat) (A:Option Addr) (n c:Nat) (l:List Nm) (x:Ch) (w:World) (h:NRow w B A n c l) (ha:AscN l) (hB:B<=w.heap.size) (hn:n<=1073741823) :
  Calls Tryz.prog 86 #[.slice A n c,ofL (encC x)] w fun e w'=>Fr (fun k=>blkOf A=some k) w w'/\∃ A' c',e=.returned (.slice A' (stepN l x).length c')/\NRow w' B A' (stepN l x).length c' (stepN l x):=by
 refine (F86.of A n c _ w (Q:=fun v' w'=>Fr (fun k=>blkOf A=some k) w w'/\∃ A' c',v'=.slice A' (stepN l x).length c'/\NRow w' B A' (stepN l x).length c' (stepN l x)) ?_).mono (fun e w' ⟨v,he,hf,A',c',hv,h⟩=>⟨hf,A',c',by rw [he,hv],h⟩)
 refine nw_mk ?_
 have f1:Fr (fun _=>False) w (w.alloc (.cells (encC x).toArray 147)):=Fr.alloc _ _ _
 have r1:=RecAt.new w (encC x) 147
 have hb1:∀ k,blkOf A=some k->k ≠ w.heap.size:=fun k hk e=>by have:=(h.1.blt hk).2; omega
 generalize w.heap.size=b1 at r1 hb1 ⊢
 generalize w.alloc (.cells (encC x).toArray 147)=w1 at f1 r1 ⊢
 have f1':Fr (fun k=>blkOf A=some k) w w1:=f1.mono (fun _ _ h=>h.elim)
 have h1:=h.fr0 f1
 have hB1:B<=w1.heap.size:=by have:=f1.size; omega
 have hl:=h.2
 refine ⟨x.k,r1.cell rfl,vIf_mk (fun hk=>?_) (fun hk=>vIf_mk (fun hk3=>?_) (fun hk3=>vIf_mk (fun hk2=>?_) (fun hk2=>?_)))⟩
 ·have hk:x.k=1:=by simpa using hk
  have e:stepN l x=putN (x.nm,x.id) l:=if_pos hk
  rw [e]
  refine ⟨x.nm,r1.cell rfl,x.id,r1.cell rfl,(set_calls B A n c l x.nm x.id w1 h1 ha hB1 (by omega)).mono ?_⟩
  rintro r w2 ⟨f2,A2,c2,rfl,h2⟩
  exact ⟨_,_,_,rfl,f1'.trans1 f2,A2,c2,rfl,h2⟩
 ·have hk:¬ x.k=1:=by simpa using hk
  have hk3:x.k=3:=by simpa using hk3
  have e:stepN l x=woN x.nm l:=by unfold stepN; rw [if_neg hk,if_neg (by omega),if_pos hk3]
  rw [e]
  refine ⟨x.nm,r1.cell rfl,(cut_calls B A n c l x.nm w1 h1 ha (by omega)).mono ?_⟩
  rintro r w2 ⟨f2,rfl,h2,_⟩
  exact ⟨_,_,_,_,_,rfl,f1'.trans1 f2,A,c,rfl,h2⟩
 ·have hk:¬ x.k=1:=by simpa using hk
  have hk2:x.k=2:=by simpa using hk2
  refine ⟨x.nm,r1.cell rfl,(cut_calls B A n c l x.nm w1 h1 ha (by omega)).mono ?_⟩
  rintro r w2 ⟨f2,rfl,h2,hno⟩
  refine ⟨_,_,_,_,_,rfl,vIf_mk (fun hi=>?_) (fun hi=>?_)⟩
  ·cases hf:findN x.nm l with
   | none=>rw [hf] at hi; cases hi
   | some id =>
    have e:stepN l x=putN (x.to,id) (woN x.nm l):=by unfold stepN; rw [if_neg hk,if_pos hk2,hf]
    rw [e]
    have hwl:=woN_len x.nm l
    refine ⟨x.to,(r1.fr f2 (fun e=>hb1 _ e rfl)).cell rfl,(set_calls B A _ c _ x.to id w2 h2 (woN_asc _ ha) (by have:=f2.size; omega) (by omega)).mono ?_⟩
    rintro r w3 ⟨f3,A3,c3,rfl,h3⟩
    exact ⟨_,_,_,rfl,(f1'.trans1 f2).trans1 f3,A3,c3,rfl,h3⟩
  ·cases hf:findN x.nm l with
   | some id=>rw [hf] at hi; cases hi
   | none =>
    have e:stepN l x=l:=by unfold stepN; rw [if_neg hk,if_pos hk2,hf]
    rw [e,hl]
    exact ⟨f1'.trans1 f2,A,c,rfl,h1.fr0 (hno hf)⟩
 ·have hk:¬ x.k=1:=by simpa using hk
  have hk3:¬ x.k=3:=by simpa using hk3
  have hk2:¬ x.k=2:=by simpa using hk2
  have e:stepN l x=l:=by unfold stepN; rw [if_neg hk,if_neg hk2,if_neg hk3]
  rw [e,hl]
  exact ⟨f1',A,c,rfl,h1⟩
structure Fo where
 L:List Nm
 P:List Ch
def CSl (w:World) (A:Option Addr) (n:Nat) (l:List Ch):Prop:=Sl w 4 A n (flt encC l)/\l.length=n
theorem CSl.fr0 {w w':World} {A:Option Addr} {n:Nat} {l:List Ch} (h:CSl w A n l) (f:Fr (fun _=>False) w w'):CSl w' A n l:=⟨f.sl h.1 (fun _ _ _ h=>h),h.2⟩
theorem c_rd {w:World} {A:Option Addr} {n:Nat} {l:List Ch} (h:CSl w A n l) {i:Nat} {x:Ch} (hi:l[i]?=some x) {ii:Int} (hii:ii=(i:Int)) {K:List Value->Prop} (hK:K (encC x)) :
  dr A fun b o=>gd (decide (0<=ii)) (gd (decide (ii < ((n:Nat):Int))) (ldA 4 w b (o+ii.toNat * 4) K)) :=
 el_rd h.1 (fun x _=>rfl) hi hii h.2 (fun b o hA hc=>⟨encC x,rfl,hc,hK⟩)
class Ow where
 O:Nat->Prop
instance (priority:=low) owT:Ow:=⟨fun _=>True⟩
def OkA [Ow] (w:World) (A:Option Addr) (n:Nat):Prop:=(∀ k,w.heap.size<=k->Ow.O k)/\(n ≠ 0->∀ k,blkOf A=some k->Ow.O k)
theorem OkA.up [Ow] {w w':World} {A:Option Addr} {n:Nat} (h:OkA w A n) (hs:w.heap.size<=w'.heap.size):OkA w' A n:=⟨fun k hk=>h.1 k (Nat.le_trans hs hk),h.2⟩
theorem OkA.fr [Ow] {S:Nat->Prop} {w w':World} {A:Option Addr} {n:Nat} (h:OkA w A n) (f:Fr S w w'):OkA w' A n:=h.up f.size
theorem OkA.nil [Ow] {w:World} {A:Option Addr} {n:Nat} (h:OkA w A n) (B:Option Addr):OkA w B 0:=⟨h.1,fun h0=>absurd rfl h0⟩
theorem OkA.own [Ow] {w w':World} {A B:Option Addr} {n m:Nat} (h:OkA w A n) (hs:w.heap.size<=w'.heap.size) (hB:∀ k,blkOf B=some k->w.heap.size<=k):OkA w' B m:=⟨(h.up hs).1,fun _ k hk=>h.1 k (hB k hk)⟩
def FoAt [Ow] (w:World) (cs:List Value) (F:Fo):Prop:=∃ A n c A' n' c',cs=[.slice A n c,.slice A' n' c']/\NSl w A n F.L/\CSl w A' n' F.P/\n'<=c'/\OkA w A n/\OkA w A' n'
theorem FoAt.fr0 [Ow] {w w':World} {cs:List Value} {F:Fo} (h:FoAt w cs F) (f:Fr (fun _=>False) w w'):FoAt w' cs F:=by
 obtain ⟨A,n,c,A',n',c',e,h1,h2,h3⟩:=h
 exact ⟨A,n,c,A',n',c',e,h1.fr0 f,h2.fr0 f,h3.1,h3.2.1.fr f,h3.2.2.fr f⟩
theorem FoAt.len [Ow] {w:World} {cs:List Value} {F:Fo} (h:FoAt w cs F):cs.length=2:=by
 obtain ⟨A,n,c,A',n',c',e,h1,h2,h3⟩:=h
 rw [e]; rfl
theorem FoAt.one [Ow] {w:World} {cs:List Value} {F:Fo} (h:FoAt w cs F):∀ v ∈ cs,v.oneCell'=true:=by
 obtain ⟨A,n,c,A',n',c',e,h1,h2,h3⟩:=h
 subst e
 intro v hv
 simp at hv
 rcases hv with rfl | rfl <;> rfl
theorem ch_var {w:World} {x:Ch} {K:Nat->World->Prop} (hK:∀ b w',Fr (fun _=>False) w w'->RecAt w' b 147 (encC x)->K b w') :
  nw w Z147 147 fun b w1=>gd ((encC x).length == 4) (st w1 b 0 (encC x) fun w2=>K b w2):=by
 refine nw_mk (gd_mk rfl ?_)
 have f1:Fr (fun _=>False) w (w.alloc (.cells Z147.toArray 147)):=Fr.alloc _ _ _
 have r1:=RecAt.new w Z147 147
 generalize hb:w.heap.size=b at r1 ⊢
 generalize w.alloc (.cells Z147.toArray 147)=w1 at f1 r1 ⊢
 refine r1.st_mk (o:=0) (by show 0+4<=4; omega) (encC_o.one x) (fun r2 f2=>hK _ _ (f1.trans f2 (fun _ _ h=>h) (fun k hk h=>by omega)) ?_)
 have e:splice Z147 0 (encC x)=encC x:=splice_full rfl
 rw [e] at r2
 exact r2
def cnt (n:Int) (P:List Ch):Nat:=if n < 0 then 0 else min n.toNat P.length
theorem cnt_le (n:Int) (P:List Ch):cnt n P<=P.length:=by unfold cnt; split <;> omega
theorem cnt_eq (n:Int) (P:List Ch) (m:Nat) (hm:P.length=m):(if 0 < (if ((m:Nat):Int) < n then ((m:Nat):Int) else n) then (if ((m:Nat):Int) < n then ((m:Nat):Int) else n) else 0)=((cnt n P:Nat):Int):=by
 subst hm
 unfold cnt
 (repeat' split) <;> omega
def behF (F:Fo) (n:Int):List Nm:=behN F.L (F.P.take (cnt n F.P))
theorem behF_asc (F:Fo) (n:Int):AscN (behF F n):=behN_asc _ _
theorem behF_len (F:Fo) (n:Int):(behF F n).length<=F.L.length+F.P.length:=by
 have:=behN_len F.L (F.P.take (cnt n F.P))
 have h2:(F.P.take (cnt n F.P)).length<=F.P.length:=by rw [List.length_take]; omega
 unfold behF; omega
theorem sl_cut0 {w:World} {sz:Nat} {A:Option Addr} {n k c:Nat} {vs:List Value} (h:Sl w sz A n vs) (hk:k<=n):Sl w sz (slA A c 0 sz) k (vs.take (k * sz)):=by
 have h2:=h.headS hk
 refine ⟨h2.1,fun h0=>?_⟩
 obtain ⟨b,o,hA,hc⟩:=h2.2 h0
 refine ⟨b,o,?_,hc⟩
 rw [hA]
 unfold slA
 split
 ·rfl
 ·rw [Option.map_some,add_none,Nat.zero_mul]; rfl
def FoB (F:Fo):Prop:=F.L.length+F.P.length<=349525
set_option maxHeartbeats 1000000 in
theorem beh_calls [Ow] (cs:List Value) (F:Fo) (n:Int) (w:World) (h:FoAt w cs F) (hb:FoB F) :
  Calls Tryz.prog 52 #[ofL cs,.int .i64 n] w fun e w'=>Fr (fun _=>False) w w'/\∃ A' c',e=.returned (.slice A' (behF F n).length c')/\NRow w' w.heap.size A' (behF F n).length c' (behF F n):=by
 refine (F52.of cs n w (Q:=fun v' w'=>Fr (fun _=>False) w w'/\∃ A' c',v'=.slice A' (behF F n).length c'/\NRow w' w.heap.size A' (behF F n).length c' (behF F n)) ?_).mono (fun e w' ⟨v,he,hf,A',c',hv,h⟩=>⟨hf,A',c',by rw [he,hv],h⟩)
 obtain ⟨A,m,c,A',m',c',rfl,hL,hP,hPc⟩:=h
 have hb:F.L.length+F.P.length<=349525:=hb
 have hLl:=hL.2
 have hPl:=hP.2
 refine nw_mk ?_
 have f1:Fr (fun _=>False) w (w.alloc (.cells [Value.slice A m c,.slice A' m' c'].toArray 50)):=Fr.alloc _ _ _
 have r1:=RecAt.new w [Value.slice A m c,.slice A' m' c'] 50
 generalize w.alloc (.cells [Value.slice A m c,.slice A' m' c'].toArray 50)=w1 at f1 r1 ⊢
 refine ⟨[Value.slice A m c,.slice A' m' c'],rfl,r1.cells (fun j v hj=>by simpa using hj),(lasts_calls A m c F.L _ w1 (hL.fr0 f1) (by omega)).mono ?_⟩
 rintro r w2 ⟨f2,A2,c2,rfl,h2⟩
 have r2:=r1.fr f2 (fun h=>h)
 refine ⟨_,_,_,rfl,A',m',c',r2.cell rfl,A',m',c',r2.cell rfl,?_⟩
 have hk:=cnt_le n F.P
 dsimp only
 simp only [cnt_eq n F.P m' hPl]
 generalize hkk:cnt n F.P=k at hk ⊢
 refine gd_mk (decide_eq_true (by omega)) (gd_mk (decide_eq_true (by omega)) (jnC_mk ?_))
 simp only [Int.toNat_natCast]
 have hPk:CSl w1 (slA A' c' 0 4) k (F.P.take k):=by
  have:=sl_cut0 (c:=c') (hP.fr0 f1).1 (k:=k) (by omega)
  rw [encC_o.ft F.P hk] at this
  exact ⟨this,by rw [List.length_take]; omega⟩
 refine loop_rule (fun s u=>Fr (fun _=>False) w1 u/\∃ (i:Nat) (A2:Option Addr) (c2:Nat),i<=k/\s=((A2,(behN F.L (F.P.take i)).length,c2),(slA A' c' 0 4,k,c'),(k:Int),(i:Int),())/\NRow u w1.heap.size A2 (behN F.L (F.P.take i)).length c2 (behN F.L (F.P.take i)))
  (fun s _=>(k - s.2.2.2.1).toNat) ?_ _ _ ⟨f2,0,A2,c2,by omega,rfl,h2⟩
 rintro s u C ⟨hf,i,A3,c3,hi,rfl,h3⟩ hC _
 refine vIf_mk (fun hlt=>?_) (fun hge=>?_)
 ·have hlt2:(i:Int) < (k:Int):=of_decide_eq_true hlt
  have gi:F.P[i]?=some (F.P[i]'(by omega)):=List.getElem?_eq_getElem (by omega)
  generalize F.P[i]'(by omega)=x at gi
  have hst:=behN_step (L:=F.L) gi
  have hbl:=behN_len F.L (F.P.take i)
  have htl:(F.P.take i).length<=F.P.length:=by rw [List.length_take]; omega
  refine c_rd (hPk.fr0 hf) (x:=x) (by rw [List.getElem?_take,if_pos (by omega)]; exact gi) rfl (ch_var (fun b u2 g2 r2=>⟨encC x,rfl,r2.cells (fun j v hj=>by simpa using hj),?_⟩))
  refine (step_calls w1.heap.size A3 _ c3 _ x u2 (h3.fr0 g2) (behN_asc _ _) (by have:=hf.size; have:=g2.size; omega) (by omega)).mono ?_
  rintro r u3 ⟨g3,A4,c4,rfl,h4⟩
  rw [<- hst] at h4 ⊢
  refine ⟨_,_,_,rfl,jnC_mk (hC _ _ ⟨fr_own (hf.trans1 g2) (fun q hq=>(h3.1.blt hq).1) (Nat.le_refl _) g3,i+1,A4,c4,by omega,by rw [ei i (by omega)],h4⟩ ?_)⟩
  show ((k:Int) - IntKind.wrap .i64 ((i:Int)+1)).toNat < ((k:Int) - (i:Int)).toNat
  rw [ei i (by omega)]; omega
 ·have hge2:¬ (i:Int) < (k:Int):=of_decide_eq_false hge
  have hik:i=k:=by omega
  subst hik
  have e:behF F n=behN F.L (F.P.take i):=by unfold behF; rw [hkk]
  rw [e]
  exact ⟨f1.trans1 hf,A3,c3,rfl,row_low f1.size h3.1,h3.2⟩
end Go.Proofs.YtadbakmblklncaaGreatDoor
namespace Go.Proofs.YtadbakmblklncaaGreatDoor
open Go.GV Go.RowKit Go.Lib
theorem nil_iff (s:ByteArray):(s.toList == (⟨#[]⟩:ByteArray).toList)=decide (s.size=0):=by
 rw [ByteArray.toList_eq,ByteArray.toList_eq]
 have h:s.size=s.data.toList.length:=by rw [Array.length_toList]; rfl
 rw [h]
 cases hl:s.data.toList with
 | nil=>rfl
 | cons a r=>simp
def DiskP (s:ByteArray):Prop:=(∀ i,i < s.size->33<=byteAt s i/\byteAt s i<=126/\byteAt s i ≠ 47)/\1<=s.size/\s.size<=32
theorem disk_calls (s:ByteArray) (w:World) (hs:s.size<=1099511627775) :
  Calls Tryz.prog 166 #[.string s] w fun e w'=>(∃ t,e=.returned (.bool t)/\(t=true ↔ DiskP s))/\w'=w:=by
 refine (F166.of s w (Q:=fun v w'=>(∃ t,v=.bool t/\(t=true ↔ DiskP s))/\w'=w) ?_).mono (fun e w' ⟨v,he,⟨t,hv,h⟩,h'⟩=>⟨⟨t,by rw [he,hv],h⟩,h'⟩)
 have no:∀ u:World,u=w->¬ DiskP s->(∃ t,Value.bool false=.bool t/\(t=true ↔ DiskP s))/\u=w:=fun u hu h=>⟨⟨false,rfl,⟨(fun h=>by cases h),fun h'=>absurd h' h⟩⟩,hu⟩
 refine vIf_mk (fun h0=>no w rfl ?_) (fun h0=>vIf_mk (fun h32=>no w rfl ?_) (fun h32=>jnC_mk (fun _=>jnC_mk ?_)))
 ·rw [nil_iff] at h0
  have:=of_decide_eq_true h0
  intro h
  have:=h.2.1
  omega
 ·have h32:=of_decide_eq_true h32
  intro h
  have:=h.2.2
  omega
 ·rw [nil_iff] at h0
  have h0:=of_decide_eq_false h0
  have h32:=of_decide_eq_false h32
  refine loop_rule (fun p v=>v=w/\∃ i:Nat,i<=s.size/\p=(s,(s.size:Int),(i:Int),())/\∀ j,j < i->33<=byteAt s j/\byteAt s j<=126/\byteAt s j ≠ 47) (fun p _=>(s.size - p.2.2.1).toNat) ?_ _ _ ⟨rfl,0,by omega,rfl,fun j hj=>by omega⟩
  rintro p v C ⟨rfl,i,hi,rfl,hall⟩ hC _
  refine vIf_mk (fun hlt=>?_) (fun hge=>?_)
  ·have hlt2:(i:Int) < (s.size:Int):=of_decide_eq_true hlt
   refine gd_mk (decide_eq_true (by show (0:Int)<=(i:Int); omega)) (gd_mk hlt (vIf_mk (fun h1=>no v rfl ?_) (fun h1=>vIf_mk (fun h2=>no v rfl ?_) (fun h2=>vIf_mk (fun h3=>no v rfl ?_) (fun h3=>?_)))))
   ·have h1:byteAt s i < 33:=of_decide_eq_true h1
    intro h; have:=h.1 i (by omega); omega
   ·have h2:byteAt s i > 126:=of_decide_eq_true h2
    intro h; have:=h.1 i (by omega); omega
   ·have h3:byteAt s i=47:=by simpa using h3
    intro h; have:=h.1 i (by omega); omega
   ·have h1:¬ byteAt s i < 33:=of_decide_eq_false h1
    have h2:¬ byteAt s i > 126:=of_decide_eq_false h2
    have h3:byteAt s i ≠ 47:=by simpa using h3
    refine jnC_mk (hC _ _ ⟨rfl,i+1,by omega,by rw [ei i (by omega)],fun j hj=>?_⟩ ?_)
    ·by_cases hji:j=i
     ·subst hji; exact ⟨by omega,by omega,h3⟩
     ·exact hall j (by omega)
    ·show ((s.size:Int) - IntKind.wrap .i64 ((i:Int)+1)).toNat < ((s.size:Int) - (i:Int)).toNat
     rw [ei i (by omega)]; omega
  ·have hge2:¬ (i:Int) < (s.size:Int):=of_decide_eq_false hge
   exact ⟨⟨true,rfl,⟨fun _=>⟨fun j hj=>hall j (by omega),by omega,by omega⟩,fun _=>rfl⟩⟩,rfl⟩
end Go.Proofs.YtadbakmblklncaaGreatDoor
namespace Go.Proofs.YtadbakmblklncaaGreatDoor
open Go.GV Go.RowKit Go.Lib Go.Stb
def nowF (F:Fo):List Nm:=behF F (F.P.length:Nat)
theorem nowF_asc (F:Fo):AscN (nowF F):=behF_asc _ _
theorem nowF_len (F:Fo):(nowF F).length<=F.L.length+F.P.length:=behF_len _ _
theorem fo_new {w:World} {cs:List Value} {K:Nat->World->Prop} (hK:∀ b w',Fr (fun _=>False) w w'->w.heap.size<=b->RecAt w' b 50 cs->K b w'):nw w cs 50 K :=
 nw_mk (hK _ _ (Fr.alloc _ _ _) (Nat.le_refl _) (RecAt.new w cs 50))
theorem rec_rd {w:World} {b:Nat} {e:TypeId} {cs:List Value} (h:RecAt w b e cs):cellsAt w b 0 cs:=h.cells (fun j v hj=>by simpa using hj)
theorem fo_st {w:World} {b:Nat} {e:TypeId} {cs y:List Value} (h:RecAt w b e cs) (hy:y.length=cs.length) (ho:∀ v ∈ y,v.oneCell'=true) {K:World->Prop} (hK:∀ w',Fr (fun k=>k=b) w w'->RecAt w' b e y->K w'):st w b 0 y K :=
 h.st_mk (o:=0) (by omega) ho (fun r2 f2=>hK _ f2 (by rw [splice_full hy] at r2; exact r2))
theorem now_calls [Ow] (cs:List Value) (F:Fo) (w:World) (h:FoAt w cs F) (hb:FoB F) :
  Calls Tryz.prog 99 #[ofL cs] w fun e w'=>Fr (fun _=>False) w w'/\∃ A' c',e=.returned (.slice A' (nowF F).length c')/\NRow w' w.heap.size A' (nowF F).length c' (nowF F):=by
 refine (F99.of cs w (Q:=fun v w'=>Fr (fun _=>False) w w'/\∃ A' c',v=.slice A' (nowF F).length c'/\NRow w' w.heap.size A' (nowF F).length c' (nowF F)) ?_).mono (fun e w' ⟨v,he,hf,A',c',hv,h⟩=>⟨hf,A',c',by rw [he,hv],h⟩)
 refine fo_new (fun b w1 f1 _ r1=>⟨cs,h.len,rec_rd r1,?_⟩)
 have h1:=h.fr0 f1
 obtain ⟨A,m,c,A',m',c',rfl,hL,hP,hPc⟩:=h
 refine ⟨A',m',c',r1.cell rfl,(beh_calls _ F _ w1 h1 hb).mono ?_⟩
 rintro r w2 ⟨f2,A2,c2,rfl,h2⟩
 have e:behF F ((m':Nat):Int)=nowF F:=by unfold nowF; rw [hP.2]
 rw [e] at h2 ⊢
 exact ⟨_,_,_,rfl,f1.trans1 f2,A2,c2,rfl,row_low f1.size h2.1,h2.2⟩
theorem find_calls [Ow] (cs:List Value) (F:Fo) (s:ByteArray) (w:World) (h:FoAt w cs F) (hb:FoB F) :
  Calls Tryz.prog 75 #[ofL cs,.string s] w fun e w'=>e=.returned (.tuple #[.int .i64 ((findN s (nowF F)).getD 0),.bool (findN s (nowF F)).isSome])/\Fr (fun _=>False) w w':=by
 refine (F75.of cs s w (Q:=fun v w'=>v=.tuple #[.int .i64 ((findN s (nowF F)).getD 0),.bool (findN s (nowF F)).isSome]/\Fr (fun _=>False) w w') ?_).mono (fun e w' ⟨v,he,hv,h⟩=>⟨by rw [he,hv],h⟩)
 have hnl:=nowF_len F
 have hb':F.L.length+F.P.length<=349525:=hb
 refine fo_new (fun b w1 f1 _ r1=>⟨cs,h.len,rec_rd r1,(now_calls cs F w1 (h.fr0 f1) hb).mono ?_⟩)
 rintro r w2 ⟨f2,A2,c2,rfl,h2⟩
 refine ⟨_,_,_,rfl,(bsN_calls A2 _ c2 _ s w2 h2.sl (nowF_asc F) (by omega)).mono ?_⟩
 rintro r w3 ⟨f3,i,rfl,hp⟩
 have f:=(f1.trans1 f2).trans1 f3
 refine ⟨_,_,rfl,vIf_mk (fun hi=>?_) (fun hi=>?_)⟩
 ·have hi:isN s i (nowF F)=false:=by simpa using hi
  rw [(wo_out hp (nowF_asc F) hi).2]
  exact ⟨rfl,f⟩
 ·have hi:isN s i (nowF F)=true:=by simpa using hi
  obtain ⟨x,hx,hs⟩:=isN_at hi
  refine n_rdI (h2.sl.fr0 f3) hx rfl ?_
  rw [find_in hp hx hs]
  exact ⟨rfl,f⟩
theorem oneP {A A':Option Addr} {n c n' c':Nat}:∀ v ∈ [Value.slice A n c] ++ ([Value.slice A' n' c'] ++ []),v.oneCell'=true:=by
 intro v hv
 simp at hv
 rcases hv with rfl | rfl <;> rfl
theorem FoAt.ok [Ow] {w:World} {cs:List Value} {F:Fo} (h:FoAt w cs F):OkA w none 0:=by
 obtain ⟨A,n,c,A',n',c',e,h1,h2,h3,h4,h5⟩:=h
 exact h4.nil none
theorem fo_of [Ow] {w0 w:World} {B:Nat} {A:Option Addr} {c:Nat} {l:List Nm} (ho:OkA w0 none 0) (hs:w0.heap.size<=w.heap.size) (hB:w0.heap.size<=B) (h:NRow w B A l.length c l):FoAt w [.slice A l.length c,.slice none 0 0] ⟨l,[]⟩ :=
 ⟨A,_,c,none,0,0,rfl,h.sl,⟨Sl.nil _ _ _,rfl⟩,Nat.le_refl _,ho.own hs (fun k hk=>Nat.le_trans hB (h.1.blt hk).1),(ho.up hs).nil none⟩
theorem sync_calls [Ow] (cs:List Value) (F:Fo) (w:World) (h:FoAt w cs F) (hb:FoB F) :
  Calls Tryz.prog 96 #[ofL cs] w fun e w'=>Fr (fun _=>False) w w'/\∃ cs',e=.returned (ofL cs')/\FoAt w' cs' ⟨nowF F,[]⟩:=by
 refine (F96.of cs w (Q:=fun v w'=>Fr (fun _=>False) w w'/\∃ cs',v=ofL cs'/\FoAt w' cs' ⟨nowF F,[]⟩) ?_).mono (fun e w' ⟨v,he,hf,cs',hv,h⟩=>⟨hf,cs',by rw [he,hv],h⟩)
 refine fo_new (fun b w1 f1 _ r1=>fo_new (fun b3 w2 f2 hb3 r3=>⟨cs,h.len,rec_rd (r1.fr f2 (fun h=>h)),(now_calls cs F w2 (h.fr0 (f1.trans1 f2)) hb).mono ?_⟩))
 rintro r w3 ⟨f3,A3,c3,rfl,h3⟩
 have hs1:=f1.size
 have hs2:=f2.size
 have hlt:=r3.lt
 refine ⟨_,_,_,rfl,gd_mk rfl (fo_st (r3.fr f3 (fun h=>h)) (by rfl) oneP (fun w4 f4 r4=>⟨_,rfl,rec_rd r4,?_,_,rfl,?_⟩))⟩
 ·exact ((f1.trans1 f2).trans1 f3).trans f4 (fun _ _ h=>h) (fun k hk h=>by omega)
 ·exact fo_of (B:=w2.heap.size) h.ok (by have:=f3.size; have:=f4.size; omega) (by omega) ⟨f4.row h3.1 (fun k hk h=>by have:=(h3.1.blt hk).1; omega),h3.2⟩
open Classical in
noncomputable def wrongF (F:Fo) (c:Ch):Int :=
 if c.k=1 then (if ¬ DiskP c.nm then 12 else if (findN c.nm (nowF F)).isSome=true then 7 else 0)
 else if c.k=2 then (if (findN c.nm (nowF F)).isSome=true then (if ¬ DiskP c.to then 12 else 0) else 6)
 else if c.k=3 then (if (findN c.nm (nowF F)).isSome=true then 0 else 6) else 2
noncomputable def doF (F:Fo) (c:Ch):Fo:=if wrongF F c=0 then ⟨F.L,F.P ++ [c]⟩ else F
def ChB (c:Ch):Prop:=c.nm.size<=1099511627775/\c.to.size<=1099511627775
theorem ch_new {w:World} {cs:List Value} {K:Nat->World->Prop} (hK:∀ b w',Fr (fun _=>False) w w'->w.heap.size<=b->RecAt w' b 147 cs->K b w'):nw w cs 147 K :=
 nw_mk (hK _ _ (Fr.alloc _ _ _) (Nat.le_refl _) (RecAt.new w cs 147))
theorem wrong_calls [Ow] (cs:List Value) (F:Fo) (x:Ch) (w:World) (h:FoAt w cs F) (hb:FoB F) (hx:ChB x) :
  Calls Tryz.prog 151 #[ofL cs,ofL (encC x)] w fun e w'=>e=.returned (.int .i64 (wrongF F x))/\Fr (fun _=>False) w w':=by
 refine (F151.of cs _ w (Q:=fun v w'=>v=.int .i64 (wrongF F x)/\Fr (fun _=>False) w w') ?_).mono (fun e w' ⟨v,he,hv,h⟩=>⟨by rw [he,hv],h⟩)
 refine fo_new (fun b w1 f1 _ r1=>ch_new (fun b3 w2 f2 hb3 r3=>⟨cs,h.len,rec_rd (r1.fr f2 (fun h=>h)),x.nm,r3.cell rfl,(find_calls cs F x.nm w2 (h.fr0 (f1.trans1 f2)) hb).mono ?_⟩))
 rintro r w3 ⟨rfl,f3⟩
 have f:=(f1.trans1 f2).trans1 f3
 have r3:=r3.fr f3 (fun h=>h)
 have fin:∀ (t:Bool) (w':World),Fr (fun _=>False) w w'->t=(findN x.nm (nowF F)).isSome->(wrongF F x=if t=true then 0 else 6)->jnC (F151.k13 (fun v w'=>v=.int .i64 (wrongF F x)/\Fr (fun _=>False) w w')) (t,()) w':=by
  intro t w' f' ht he
  refine jnC_mk (fun _=>vIf_mk (fun h1=>⟨?_,f'⟩) (fun h1=>⟨?_,f'⟩))
  ·have h1:t=false:=by simpa using h1
   rw [he,h1]; rfl
  ·have h1:t=true:=by simpa using h1
   rw [he,h1]; rfl
 refine ⟨_,_,rfl,x.k,r3.cell rfl,vIf_mk (fun hk=>?_) (fun hk=>vIf_mk (fun hk2=>vIf_mk (fun hin=>?_) (fun hin=>?_)) (fun hk2=>vIf_mk (fun hk3=>?_) (fun hk3=>?_)))⟩
 ·have hk:x.k=1:=by simpa using hk
  refine ⟨x.nm,r3.cell rfl,(disk_calls x.nm w3 hx.1).mono ?_⟩
  rintro r w4 ⟨⟨t,rfl,ht⟩,rfl⟩
  refine ⟨_,rfl,vIf_mk (fun h1=>⟨?_,f⟩) (fun h1=>vIf_mk (fun h2=>⟨?_,f⟩) (fun h2=>⟨?_,f⟩))⟩
  ·have h1:t=false:=by simpa using h1
   unfold wrongF
   rw [if_pos hk,if_pos (fun h=>by rw [ht.2 h] at h1; cases h1)]
  ·have h1:t=true:=by simpa using h1
   unfold wrongF
   rw [if_pos hk,if_neg (not_not_intro (ht.1 h1)),if_pos h2]
  ·have h1:t=true:=by simpa using h1
   unfold wrongF
   rw [if_pos hk,if_neg (not_not_intro (ht.1 h1)),if_neg (by rw [h2]; decide)]
 ·have hk:¬ x.k=1:=by simpa using hk
  have hk2:x.k=2:=by simpa using hk2
  refine ⟨x.to,r3.cell rfl,(disk_calls x.to w3 hx.2).mono ?_⟩
  rintro r w4 ⟨⟨t,rfl,ht⟩,rfl⟩
  refine ⟨_,rfl,vIf_mk (fun h1=>⟨?_,f⟩) (fun h1=>fin _ _ f rfl ?_)⟩
  ·have h1:t=false:=by simpa using h1
   unfold wrongF
   rw [if_neg hk,if_pos hk2,if_pos hin,if_pos (fun h=>by rw [ht.2 h] at h1; cases h1)]
  ·have h1:t=true:=by simpa using h1
   unfold wrongF
   rw [if_neg hk,if_pos hk2,if_pos hin,if_neg (not_not_intro (ht.1 h1)),if_pos hin]
 ·have hk:¬ x.k=1:=by simpa using hk
  have hk2:x.k=2:=by simpa using hk2
  refine fin _ _ f rfl ?_
  unfold wrongF
  rw [if_neg hk,if_pos hk2,if_neg (by rw [hin]; decide),if_neg (by rw [hin]; decide)]
 ·have hk:¬ x.k=1:=by simpa using hk
  have hk2:¬ x.k=2:=by simpa using hk2
  have hk3:x.k=3:=by simpa using hk3
  refine fin _ _ f rfl ?_
  unfold wrongF
  rw [if_neg hk,if_neg hk2,if_pos hk3]
 ·have hk:¬ x.k=1:=by simpa using hk
  have hk2:¬ x.k=2:=by simpa using hk2
  have hk3:¬ x.k=3:=by simpa using hk3
  refine ⟨?_,f⟩
  unfold wrongF
  rw [if_neg hk,if_neg hk2,if_neg hk3]
theorem push_c {w:World} {B:Nat} {A:Option Addr} {n c b:Nat} {P:List Ch} {x:Ch} {K:Option Addr->Nat->Nat->World->Prop} (hr:Row w B 147 4 A n c (flt encC P)) (hl:P.length=n) (rb:RecAt w b 147 (encC x)) (hB:B<=w.heap.size) (hn:n<=1073741824)
  (hK:∀ A' c' w',n+1<=c'->CSl w' A' (n+1) (P ++ [x])->Fr (fun k=>blkOf A=some k) w w'->(∀ k,blkOf A'=some k->B<=k)->K A' (n+1) c' w'):app w 4 48 Z147 147 A n c (.slice (some ⟨b,0,none⟩) 1 1) K:=by
 refine app_row (us:=encC x) (m:=1) hr ⟨rfl,rfl,fun _=>dr_mk (rec_rd rb)⟩ (encC_o.one x) rfl (by omega) (by omega) hB (fun A' c' w' hr' f'=>hK A' c' w' hr'.le ⟨?_,by rw [List.length_append,hl]; rfl⟩ f' (fun k hk=>(hr'.blt hk).1))
 rw [flt_app,flt_one]; exact hr'.sl
set_option maxHeartbeats 1000000 in
theorem do_calls [Ow] (cs:List Value) (F:Fo) (x:Ch) (w:World) (h:FoAt w cs F) (hb:FoB F) (hx:ChB x) :
  Calls Tryz.prog 130 #[ofL cs,ofL (encC x)] w fun e w'=>Fr (fun _=>False) w w'/\∃ cs',e=.returned (.tuple #[ofL cs',.int .i64 (wrongF F x)])/\FoAt w' cs' (doF F x):=by
 refine (F130.of cs _ w (Q:=fun v w'=>Fr (fun _=>False) w w'/\∃ cs',v=.tuple #[ofL cs',.int .i64 (wrongF F x)]/\FoAt w' cs' (doF F x)) ?_).mono (fun e w' ⟨v,he,hf,cs',hv,h⟩=>⟨hf,cs',by rw [he,hv],h⟩)
 have hb':F.L.length+F.P.length<=349525:=hb
 refine fo_new (fun b1 w1 f1 _ r1=>ch_new (fun b3 w2 f2 hb3 r3=>fo_new (fun b5 w3 f3 hb5 r5=>⟨cs,h.len,rec_rd ((r1.fr f2 (fun h=>h)).fr f3 (fun h=>h)),encC x,rfl,rec_rd (r3.fr f3 (fun h=>h)),?_⟩)))
 have g:=(f1.trans1 f2).trans1 f3
 have r1:=(r1.fr f2 (fun h=>h)).fr f3 (fun h=>h)
 have r3:=r3.fr f3 (fun h=>h)
 have hw5:w.heap.size<=b5:=Nat.le_trans (Nat.le_trans f1.size f2.size) hb5
 have hlt3:=(r3.lt)
 refine (wrong_calls cs F x w3 (h.fr0 g) hb hx).mono ?_
 rintro r w4 ⟨rfl,f4⟩
 have g:=g.trans1 f4
 have r1:=r1.fr f4 (fun h=>h)
 have r3:=r3.fr f4 (fun h=>h)
 have r5:=r5.fr f4 (fun h=>h)
 have hs4:=f4.size
 refine ⟨_,rfl,vIf_mk (fun h0=>?_) (fun h0=>?_)⟩
 ·have h0:¬ wrongF F x=0:=by simpa using h0
  have e:doF F x=F:=if_neg h0
  rw [e]
  refine ⟨cs,h.len,rec_rd r1,gd_mk (by rw [h.len]; rfl) (fo_st r5 h.len h.one (fun w5 f5 r5'=>⟨cs,h.len,rec_rd r5',?_,cs,rfl,?_⟩))⟩
  ·exact g.trans f5 (fun _ _ h=>h) (fun k hk h=>by omega)
  ·exact h.fr0 (g.trans f5 (fun _ _ h=>h) (fun k hk h=>by omega))
 ·have h0:wrongF F x=0:=by simpa using h0
  have e:doF F x=⟨F.L,F.P ++ [x]⟩:=if_pos h0
  rw [e,h0]
  obtain ⟨A,n,c,A',n',c',rfl,hL,hP,hPc⟩:=h
  have hPl:=hP.2
  have fd:=Fr.drew (fun _=>False) w4
  have g:=g.trans1 fd
  have r1:=r1.fr fd (fun h=>h)
  have r3:=r3.fr fd (fun h=>h)
  have r5:=r5.fr fd (fun h=>h)
  have hsd:w4.drew.heap.size=w4.heap.size:=rfl
  have b1l:=r1.lt
  have b3l:=r3.lt
  have b5l:=r5.lt
  have fin:∀ (u:World) (A2:Option Addr) (n2 c2:Nat),Fr (fun _=>False) w4.drew u->n2<=c2->CSl u A2 n2 (F.P ++ [x])->(∀ k,blkOf A2=some k->k ≠ b5/\w.heap.size<=k) ->
    kp w4.drew b1 0 1 u (gd (([Value.slice A n c] ++ ([Value.slice A2 n2 c2] ++ [])).length == 2) (st u b5 0 ([Value.slice A n c] ++ ([Value.slice A2 n2 c2] ++ [])) fun w46=>ldA 2 w46 b5 0 fun a47=>Fr (fun _=>False) w w46/\∃ cs',Value.tuple #[ofL a47,Value.int .i64 0]=.tuple #[ofL cs',.int .i64 0]/\FoAt w46 cs' ⟨F.L,F.P ++ [x]⟩)):=by
   intro u A2 n2 c2 fu hle hs hne
   refine kp_mk fu b1l (fun h=>h) (gd_mk rfl (fo_st (r5.fr fu (fun h=>h)) (by rfl) oneP (fun w5 f5 r5'=>⟨_,rfl,rec_rd r5',?_,_,rfl,A,n,c,A2,n2,c2,rfl,?_,?_,hle,?_,?_⟩)))
   ·exact (g.trans1 fu).trans f5 (fun _ _ h=>h) (fun k hk h=>by omega)
   ·exact hL.fr0 ((g.trans1 fu).trans f5 (fun _ _ h=>h) (fun k hk h=>by omega))
   ·exact ⟨f5.sl hs.1 (fun _ k hk h=>(hne k hk).1 h),hs.2⟩
   ·exact hPc.2.1.up (Nat.le_trans (g.trans1 fu).size f5.size)
   ·exact hPc.2.1.own (Nat.le_trans (g.trans1 fu).size f5.size) (fun k hk=>(hne k hk).2)
  refine ⟨A,n,c,r1.cell rfl,A',n',c',r1.cell rfl,encC x,rfl,rec_rd r3,?_,?_⟩
  ·refine (ClnCh.clone_calls A' n' c' _ w4.drew (hP.fr0 g).1 (encC_o.fo _) (by omega)).mono ?_
   rintro r u1 ⟨q1,A2,c2,rfl,h2⟩
   refine ⟨_,_,_,rfl,kp_mk q1 b3l (fun h=>h) (kp_mk q1 b1l (fun h=>h) (gd_mk rfl (nw_mk ?_)))⟩
   rw [List.append_nil]
   have q2:Fr (fun _=>False) u1 (u1.alloc (.cells (encC x).toArray 147)):=Fr.alloc _ _ _
   have s2:=RecAt.new u1 (encC x) 147
   generalize u1.heap.size=b27 at s2 ⊢
   generalize u1.alloc (.cells (encC x).toArray 147)=u2 at q2 s2 ⊢
   have q12:=q1.trans1 q2
   refine kp_mk q12 b1l (fun h=>h) (kp_mk q12 b1l (fun h=>h) (push_c (q2.row h2 (fun _ _ h=>h)) hPl s2 (by have:=q12.size; omega) (by omega) (fun A3 c3 u3 hle3 h3 q3 hB3=>?_)))
   exact fin u3 A3 _ c3 (fr_own q12 (fun k hk=>(h2.blt hk).1) (Nat.le_refl _) q3) hle3 h3 (fun k hk=>by have:=hB3 k hk; have:=g.size; omega)
  ·refine gd_mk rfl (nw_mk ?_)
   rw [List.append_nil]
   have q1:Fr (fun _=>False) w4.drew (w4.drew.alloc (.cells (encC x).toArray 147)):=Fr.alloc _ _ _
   have s1:=RecAt.new w4.drew (encC x) 147
   have hq1:w4.drew.heap.size < (w4.drew.alloc (.cells (encC x).toArray 147)).heap.size:=by rw [alloc_size]; omega
   generalize hb35:w4.drew.heap.size=b35 at s1 hq1 ⊢
   generalize w4.drew.alloc (.cells (encC x).toArray 147)=u1 at q1 s1 hq1 ⊢
   refine kp_mk q1 b1l (fun h=>h) (kp_mk q1 b1l (fun h=>h) ((ClnCh.clone_calls A' n' c' _ u1 ((hP.fr0 g).fr0 q1).1 (encC_o.fo _) (by omega)).mono ?_))
   rintro r u2 ⟨q2,A2,c2,rfl,h2⟩
   have q12:=q1.trans1 q2
   refine ⟨_,_,_,rfl,kp_mk q12 b3l (fun h=>h) (kp_mk q12 b1l (fun h=>h) (push_c h2 hPl (s1.fr q2 (fun h=>h)) q2.size (by omega) (fun A3 c3 u3 hle3 h3 q3 hB3=>?_)))⟩
   exact fin u3 A3 _ c3 (fr_own q12 (fun k hk=>(h2.blt hk).1) (by omega) q3) hle3 h3 (fun k hk=>by have:=hB3 k hk; have:=g.size; omega)
end Go.Proofs.YtadbakmblklncaaGreatDoor
namespace Go.Proofs
open Go.Shelf
def Tryz.sortI_ren:Go.Shelf.Ren:=⟨fun | 189=>53 | 125=>88 | 257=>87 | 128=>127 | 129=>128 | 294=>118 | 295=>119 | 296=>120 | 297=>121 | 298=>122 | 299=>123 | 216=>124 | 300=>125 | 301=>126 | 328=>144 | 329=>145 | 330=>146 | 331=>147 | 332=>148 | 215=>149 | 343=>164 | n=>n,fun | 28=>86 | 3=>3 | 46=>132 | 0=>0 | 51=>163 | 53=>39 | 4=>4 | 183=>181 | 182=>180 | 131=>128 | 5=>5 | 9=>9 | 218=>204 | 222=>208 | 228=>224 | 229=>64 | n=>n,fun | n=>n⟩
theorem Tryz.sortI:Go.Proofs.Lays.n189 Tryz.prog Tryz.sortI_ren:={
 mixed:=by kernel_rfl
 f125:=Tryz.func88.trans (congrArg some (by kernel_rfl))
 f128:=Tryz.func127.trans (congrArg some (by kernel_rfl))
 f129:=Tryz.func128.trans (congrArg some (by kernel_rfl))
 f189:=Tryz.func53.trans (congrArg some (by kernel_rfl))
 f215:=Tryz.func149.trans (congrArg some (by kernel_rfl))
 f216:=Tryz.func124.trans (congrArg some (by kernel_rfl))
 f257:=Tryz.func87.trans (congrArg some (by kernel_rfl))
 f294:=Tryz.func118.trans (congrArg some (by kernel_rfl))
 f295:=Tryz.func119.trans (congrArg some (by kernel_rfl))
 f296:=Tryz.func120.trans (congrArg some (by kernel_rfl))
 f297:=Tryz.func121.trans (congrArg some (by kernel_rfl))
 f298:=Tryz.func122.trans (congrArg some (by kernel_rfl))
 f299:=Tryz.func123.trans (congrArg some (by kernel_rfl))
 f300:=Tryz.func125.trans (congrArg some (by kernel_rfl))
 f301:=Tryz.func126.trans (congrArg some (by kernel_rfl))
 f328:=Tryz.func144.trans (congrArg some (by kernel_rfl))
 f329:=Tryz.func145.trans (congrArg some (by kernel_rfl))
 f330:=Tryz.func146.trans (congrArg some (by kernel_rfl))
 f331:=Tryz.func147.trans (congrArg some (by kernel_rfl))
 f332:=Tryz.func148.trans (congrArg some (by kernel_rfl))
 f343:=Tryz.func164.trans (congrArg some (by kernel_rfl))
 t0:=Tryz.underlying0
 a0:=Tryz.isAgg0
 z0:=Tryz.sizeOf0
 v0:=Tryz.zeroValue0
 t3:=Tryz.underlying3
 a3:=Tryz.isAgg3
 z3:=Tryz.sizeOf3
 v3:=Tryz.zeroValue3
 t4:=Tryz.underlying4
 a4:=Tryz.isAgg4
 z4:=Tryz.sizeOf4
 v4:=Tryz.zeroValue4
 t5:=Tryz.underlying5
 a5:=Tryz.isAgg5
 z5:=Tryz.sizeOf5
 v5:=Tryz.zeroValue5
 t9:=Tryz.underlying9
 a9:=Tryz.isAgg9
 z9:=Tryz.sizeOf9
 v9:=Tryz.zeroValue9
 t28:=Tryz.underlying86
 a28:=Tryz.isAgg86
 z28:=Tryz.sizeOf86
 v28:=Tryz.zeroValue86
 t46:=Tryz.underlying132
 a46:=Tryz.isAgg132
 z46:=Tryz.sizeOf132
 v46:=Tryz.zeroValue132
 t51:=Tryz.underlying163
 a51:=Tryz.isAgg163
 z51:=Tryz.sizeOf163
 v51:=Tryz.zeroValue163
 t53:=Tryz.underlying39
 a53:=Tryz.isAgg39
 z53:=Tryz.sizeOf39
 v53:=Tryz.zeroValue39
 t131:=Tryz.underlying128
 a131:=Tryz.isAgg128
 z131:=Tryz.sizeOf128
 v131:=Tryz.zeroValue128
 t182:=Tryz.underlying180
 a182:=Tryz.isAgg180
 z182:=Tryz.sizeOf180
 v182:=Tryz.zeroValue180
 t183:=Tryz.underlying181
 a183:=Tryz.isAgg181
 z183:=Tryz.sizeOf181
 v183:=Tryz.zeroValue181
 t218:=Tryz.underlying204
 a218:=Tryz.isAgg204
 z218:=Tryz.sizeOf204
 v218:=Tryz.zeroValue204
 t222:=Tryz.underlying208
 a222:=Tryz.isAgg208
 z222:=Tryz.sizeOf208
 v222:=Tryz.zeroValue208
 t228:=Tryz.underlying224
 a228:=Tryz.isAgg224
 z228:=Tryz.sizeOf224
 v228:=Tryz.zeroValue224
 t229:=Tryz.underlying64
 a229:=Tryz.isAgg64
 z229:=Tryz.sizeOf64
 v229:=Tryz.zeroValue64 }
end Go.Proofs
namespace Go.Proofs.YtadbakmblklncaaGreatDoor
open Go.GV Go.RowKit Go.Lib
def addS (n:Int) (s:List Int×Bool) (x:Int):List Int×Bool :=
 if !s.2 && decide (n<=x) then ((if n < x then s.1 ++ [n] else s.1) ++ [x],true) else (s.1 ++ [x],s.2)
def addI (l:List Int) (n:Int):List Int :=
 if (l.foldl (addS n) ([],false)).2 then (l.foldl (addS n) ([],false)).1 else (l.foldl (addS n) ([],false)).1 ++ [n]
def addR (n:Int):List Int->List Int
 | []=>[n]
 | x :: xs=>if n<=x then (if n < x then n :: x :: xs else x :: xs) else x :: addR n xs
theorem addS_done (n:Int):∀ (l o:List Int),l.foldl (addS n) (o,true)=(o ++ l,true)
 | [],o=>by simp
 | x :: xs,o=>by
  show xs.foldl (addS n) (addS n (o,true) x)=_
  have:addS n (o,true) x=(o ++ [x],true):=by simp [addS]
  rw [this,addS_done n xs (o ++ [x])]
  simp
theorem addS_fold (n:Int):∀ (l o:List Int),(if (l.foldl (addS n) (o,false)).2 then (l.foldl (addS n) (o,false)).1 else (l.foldl (addS n) (o,false)).1 ++ [n])=o ++ addR n l
 | [],o=>by simp [addR]
 | x :: xs,o=>by
  show (if (xs.foldl (addS n) (addS n (o,false) x)).2 then (xs.foldl (addS n) (addS n (o,false) x)).1 else (xs.foldl (addS n) (addS n (o,false) x)).1 ++ [n])=_
  unfold addR
  by_cases h:n<=x
  ·have e:addS n (o,false) x=((if n < x then o ++ [n] else o) ++ [x],true):=by simp [addS,h]
   rw [e,addS_done]
   rw [if_pos rfl,if_pos h]
   by_cases h2:n < x
   ·rw [if_pos h2,if_pos h2]; simp
   ·rw [if_neg h2,if_neg h2]; simp
  ·have e:addS n (o,false) x=(o ++ [x],false):=by simp [addS,h]
   rw [e,addS_fold n xs (o ++ [x]),if_neg h]
   simp
theorem addI_eq (l:List Int) (n:Int):addI l n=addR n l:=addS_fold n l []
theorem addR_mem (n:Int):∀ (l:List Int) (y:Int),y ∈ addR n l ↔ y=n\/y ∈ l
 | [],y=>by simp [addR]
 | x :: xs,y=>by
  unfold addR
  by_cases h:n<=x
  ·rw [if_pos h]
   by_cases h2:n < x
   ·rw [if_pos h2]; simp
   ·rw [if_neg h2]
    have:n=x:=by omega
    subst this
    simp
  ·rw [if_neg h]
   simp only [List.mem_cons,addR_mem n xs y]
   constructor
   ·rintro (h1 | h1 | h1)
    ·exact .inr (.inl h1)
    ·exact .inl h1
    ·exact .inr (.inr h1)
   ·rintro (h1 | h1 | h1)
    ·exact .inr (.inl h1)
    ·exact .inl h1
    ·exact .inr (.inr h1)
def AscI (l:List Int):Prop:=l.Pairwise (· < ·)
theorem addR_asc (n:Int):∀ {l:List Int},AscI l->AscI (addR n l)
 | [],_=>List.pairwise_singleton _ _
 | x :: xs,h=>by
  unfold addR
  have hc:=List.pairwise_cons.1 h
  by_cases h1:n<=x
  ·rw [if_pos h1]
   by_cases h2:n < x
   ·rw [if_pos h2]
    refine List.pairwise_cons.2 ⟨fun y hy=>?_,h⟩
    rcases List.mem_cons.1 hy with rfl | hy
    ·exact h2
    ·have:=hc.1 y hy; omega
   ·rw [if_neg h2]; exact h
  ·rw [if_neg h1]
   refine List.pairwise_cons.2 ⟨fun y hy=>?_,addR_asc n hc.2⟩
   rcases (addR_mem n xs y).1 hy with rfl | hy
   ·omega
   ·exact hc.1 y hy
theorem AscI.unique:∀ {a b:List Int},AscI a->AscI b->(∀ x,x ∈ a ↔ x ∈ b)->a=b
 | [],[],_,_,_=>rfl
 | [],y :: ys,_,_,h=>absurd ((h y).2 (List.mem_cons_self ..)) (by simp)
 | x :: xs,[],_,_,h=>absurd ((h x).1 (List.mem_cons_self ..)) (by simp)
 | x :: xs,y :: ys,ha,hb,h=>by
  have ha':=List.pairwise_cons.1 ha
  have hb':=List.pairwise_cons.1 hb
  have hxy:x=y:=by
   rcases List.mem_cons.1 ((h x).1 (List.mem_cons_self ..)) with e | e
   ·exact e
   ·rcases List.mem_cons.1 ((h y).2 (List.mem_cons_self ..)) with e' | e'
    ·exact e'.symm
    ·have:=hb'.1 x e; have:=ha'.1 y e'; omega
  subst hxy
  congr 1
  refine AscI.unique ha'.2 hb'.2 (fun z=>?_)
  constructor
  ·intro hz
   rcases List.mem_cons.1 ((h z).1 (List.mem_cons_of_mem _ hz)) with e | e
   ·subst e; have:=ha'.1 z hz; omega
   ·exact e
  ·intro hz
   rcases List.mem_cons.1 ((h z).2 (List.mem_cons_of_mem _ hz)) with e | e
   ·subst e; have:=hb'.1 z hz; omega
   ·exact e
def norm (l:List Int):List Int:=l.foldl addI []
theorem norm_both:∀ (l:List Int) (acc:List Int),AscI acc->AscI (l.foldl addI acc)/\∀ y,y ∈ l.foldl addI acc ↔ y ∈ acc\/y ∈ l
 | [],acc,h=>⟨h,by simp⟩
 | x :: xs,acc,h=>by
  obtain ⟨h1,h2⟩:=norm_both xs (addI acc x) (by rw [addI_eq]; exact addR_asc x h)
  refine ⟨h1,fun y=>?_⟩
  show y ∈ xs.foldl addI (addI acc x) ↔ _
  rw [h2,addI_eq,addR_mem,List.mem_cons]
  constructor
  ·rintro ((h3 | h3) | h3)
   ·exact .inr (.inl h3)
   ·exact .inl h3
   ·exact .inr (.inr h3)
  ·rintro (h3 | h3 | h3)
   ·exact .inl (.inr h3)
   ·exact .inl (.inl h3)
   ·exact .inr h3
theorem norm_asc (l:List Int):AscI (norm l):=(norm_both l [] List.Pairwise.nil).1
theorem norm_mem (l:List Int) (y:Int):y ∈ norm l ↔ y ∈ l:=by rw [norm,(norm_both l [] List.Pairwise.nil).2]; simp
theorem norm_eq {l r:List Int} (h:AscI r) (hm:∀ y,y ∈ r ↔ y ∈ l):r=norm l:=h.unique (norm_asc l) (fun y=>by rw [hm,norm_mem])
theorem addR_len (n:Int):∀ l:List Int,(addR n l).length<=l.length+1
 | []=>by simp [addR]
 | x :: xs=>by
  unfold addR
  split
  ·split <;> simp
  ·have:=addR_len n xs; simp; omega
theorem norm_len (l:List Int):(norm l).length<=l.length:=by
 have h:∀ (l acc:List Int),(l.foldl addI acc).length<=acc.length+l.length:=by
  intro l
  induction l with
  | nil=>intro acc; simp
  | cons x xs ih =>
   intro acc
   have h1:=ih (addI acc x)
   have h2:=addR_len x acc
   rw [<- addI_eq] at h2
   show (xs.foldl addI (addI acc x)).length<=_
   simp; omega
 have:=h l []
 simp only [List.length_nil,Nat.zero_add] at this
 exact this
theorem sort_nil (c:Nat) (w:World):Calls Tryz.prog 53 #[.slice none 0 c] w fun e w'=>e=.returned (.tuple #[])/\w'=w :=
 Any.slices_Sort_int_none Tryz.sortI none c w
open Go.Sort in
theorem sort_int (B:Nat) (e:TypeId) (b c:Nat) (l:List Int) (n:Nat) (w:World) (h:Row w B e 1 (some ⟨b,0,none⟩) n c (ivs l)) (hn:n < 4611686018427387904) :
  Calls Tryz.prog 53 #[.slice (some ⟨b,0,none⟩) n c] w fun e' w'=>e'=.returned (.tuple #[])/\Fr (fun k=>k=b) w w'/\∃ r,Row w' B e 1 (some ⟨b,0,none⟩) n c (ivs r)/\r.Perm l/\r.Pairwise (·<=·):=by
 have hrl:=sl_n h.sl
 have hlen:=h.len
 rcases h.at_ with ⟨h',_⟩ | ⟨b',cs,hA,hB,hh,hs,ht⟩
 ·cases h'
 injection hA with hA
 injection hA with hA
 subst hA
 have hH:Holds (Value.int .i64) w b 0 l.toArray:=by
  intro j hj
  have hj2:j < l.length:=by simpa using hj
  have e1:l.toArray[j]! = l[j]'hj2:=by
   rw [getElem!_pos l.toArray j hj]; simp
  rw [e1]
  constructor
  ·exact cellsAt_take hh ht j _ (ivs_at (at_lt hj2))
  ·simp [World.frozen?,hh]
 have hcon:=Any.slices_Sort_int Tryz.sortI b 0 c l w hH (heap_lt hh) (by omega)
 rw [hrl] at hcon
 refine Calls.mono hcon ?_
 rintro e' w' ⟨rfl,q,os,rfl⟩
 generalize hd:l.mergeSort (fun x y=>decide (x<=y))=d
 have hperm:d.Perm l:=by rw [<- hd]; exact List.mergeSort_perm _ _
 have hsrt:d.Pairwise (·<=·):=by
  have h1:=List.pairwise_mergeSort (le:=fun x y:Int=>decide (x<=y)) (fun a b c h1 h2=>by simp at *; omega) (fun a b=>by simp; omega) l
  rw [hd] at h1
  exact h1.imp (fun h=>of_decide_eq_true h)
 have hdl:d.length=n:=by rw [hperm.length_eq,hrl]
 have hle:=h.le
 have heap:∀ k,k < w.heap.size->(grow (putRow (Value.int .i64) (Go.Sort.ahead w q) b 0 d.toArray) os).heap[k]?=if k=b then some (.cells (putCells (Value.int .i64) 0 d.toArray cs) e) else w.heap[k]?:=by
  intro k hk
  show ((putRow (Value.int .i64) (Go.Sort.ahead w q) b 0 d.toArray).heap ++ os)[k]?=_
  have hsz:k < (putRow (Value.int .i64) (Go.Sort.ahead w q) b 0 d.toArray).heap.size:=by
   show k < ((Go.Sort.ahead w q).heap.modify b _).size
   rw [Array.size_modify]; exact hk
  rw [Array.getElem?_append_left hsz]
  show ((Go.Sort.ahead w q).heap.modify b (onCells (putCells (Value.int .i64) 0 d.toArray)))[k]?=_
  rw [Array.getElem?_modify]
  by_cases hkb:k=b
  ·subst hkb
   rw [if_pos rfl,if_pos rfl]
   show Option.map _ w.heap[k]?=_
   rw [hh]; rfl
  ·rw [if_neg (fun h=>hkb h.symm),if_neg hkb]; rfl
 refine ⟨rfl,⟨rfl,rfl,rfl,?_,fun k hk hn'=>?_⟩,d,⟨?_,hle,.inr ⟨b,putCells (Value.int .i64) 0 d.toArray cs,rfl,hB,?_,?_,?_⟩⟩,hperm,hsrt⟩
 ·show w.heap.size<=((putRow (Value.int .i64) (Go.Sort.ahead w q) b 0 d.toArray).heap ++ os).size
  have:(putRow (Value.int .i64) (Go.Sort.ahead w q) b 0 d.toArray).heap.size=w.heap.size:=by
   show ((Go.Sort.ahead w q).heap.modify b _).size=_
   rw [Array.size_modify]; rfl
  rw [Array.size_append]; omega
 ·rw [heap k hk,if_neg hn']
 ·rw [ivs_len,hdl]; omega
 ·rw [heap b (heap_lt hh),if_pos rfl]
 ·simp [putCells,hs]
 ·apply List.ext_getElem?
  intro j
  have hcsz:n<=cs.size:=by rw [hs]; omega
  by_cases hj:j < n
  ·rw [List.getElem?_take,if_pos (by omega),Array.getElem?_toList]
   unfold putCells
   rw [Array.getElem?_mapIdx,Array.getElem?_eq_getElem (show j < cs.size by omega),Option.map_some,if_pos ⟨Nat.zero_le _,by simp; omega⟩]
   rw [Nat.sub_zero,getElem!_pos d.toArray j (by simp; omega),ivs_at (at_lt (by omega))]
   simp
  ·rw [List.getElem?_take,if_neg (by omega),List.getElem?_eq_none (by rw [ivs_len,hdl]; omega)]
theorem row_put {w:World} {B:Nat} {e:TypeId} {sz:Nat} {A:Option Addr} {n c:Nat} {vs us:List Value} {o':Nat} {K:World->Prop} (hr:Row w B e sz A n c vs) (hn:n ≠ 0) (hfit:o'+us.length<=n * sz) (h1:∀ v ∈ us,v.oneCell'=true)
  (hK:∀ w',Row w' B e sz A n c (splice vs o' us)->Fr (fun k=>blkOf A=some k) w w'->K w'):dr A fun b o=>st w b (o+o') us K:=by
 rcases hr.at_ with ⟨_,h0,_⟩ | ⟨b,cs,rfl,hB,hh,hs,ht⟩
 ·exact absurd h0 hn
 ·have hle:=hr.le
  have hl:=hr.len
  have hmul:n * sz<=c * sz:=Nat.mul_le_mul_right _ hle
  show st w b (0+o') us K
  rw [Nat.zero_add]
  have hfit2:o'+us.length<=cs.toList.length:=by simp; omega
  refine ⟨⟨cs,e,0,0,hh,by simpa using hfit2,.inl (Nat.zero_le _)⟩,h1,hK _ ⟨by rw [splice_length (by omega)]; exact hl,hle,.inr ⟨b,_,rfl,hB,stB_heap hh,?_,?_⟩⟩ (Fr.st (fun _=>rfl))⟩
  ·simp only [List.size_toArray]; rw [splice_length hfit2]; simpa using hs
  ·apply List.ext_getElem?
   intro j
   simp only [List.getElem?_take]
   by_cases hj:j < n * sz
   ·rw [if_pos hj,splice_get hfit2,splice_get (by omega),<- ht]
    simp only [List.getElem?_take]
    by_cases h2:j < o'
    ·rw [if_pos h2,if_pos h2,if_pos hj]
    ·rw [if_neg h2,if_neg h2]
     split
     ·rfl
     ·first | rfl | rw [if_pos hj]
   ·rw [if_neg hj,List.getElem?_eq_none (by rw [splice_length (by omega)]; omega)]
theorem row_cut {w:World} {B:Nat} {e:TypeId} {sz:Nat} {A:Option Addr} {n c k:Nat} {vs:List Value} (hr:Row w B e sz A n c vs) (hk:k<=n):Row w B e sz A k c (vs.take (k * sz)):=by
 have hl:=hr.len
 have hle:=hr.le
 have hmul:k * sz<=n * sz:=Nat.mul_le_mul_right _ hk
 refine ⟨by rw [List.length_take]; omega,by omega,?_⟩
 rcases hr.at_ with ⟨h1,h2,h3⟩ | ⟨b,cs,h1,h2,h3,h4,h5⟩
 ·exact .inl ⟨h1,by omega,h3⟩
 ·refine .inr ⟨b,cs,h1,h2,h3,h4,?_⟩
  rw [<- h5,List.take_take,Nat.min_eq_left hmul]
theorem ivs_set {P:List Int} {k:Nat} {x:Int} (hk:k < P.length):ivs (P.set k x)=splice (ivs P) (k * 1) [.int .i64 x]:=by
 have hfit:k * 1+[Value.int .i64 x].length<=(ivs P).length:=by rw [ivs_len]; simp; omega
 apply List.ext_getElem?
 intro t
 rw [splice_get hfit]
 simp only [Nat.mul_one,List.length_singleton,ivs,List.map_set]
 by_cases h1:t < k
 ·rw [if_pos h1,List.getElem?_set_ne (by omega)]
 ·rw [if_neg h1]
  by_cases h2:t < k+1
  ·have:t=k:=by omega
   subst this
   rw [if_pos h2,List.getElem?_set_self (by simpa using hk)]
   simp
  ·rw [if_neg h2,List.getElem?_set_ne (by omega)]
theorem row_clear {w:World} {B:Nat} {e:TypeId} {b n c k:Nat} {P:List Int} {K:World->Prop} (hr:Row w B e 1 (some ⟨b,0,none⟩) n c (ivs P)) (hk:k < n)
  (hK:∀ w',Row w' B e 1 (some ⟨b,0,none⟩) k c (ivs (P.take k))->Fr (fun j=>j=b) w w'->K w'):dr (slA (some (⟨b,0,none⟩:Addr)) c k 1) fun b o=>st w b o (zeros (n - k) [Value.int .i64 0]) K:=by
 have hle:=hr.le
 have hPl:=sl_n hr.sl
 have hsk:slA (some (⟨b,0,none⟩:Addr)) c k 1=some ⟨b,0+k * 1,none⟩:=by
  unfold slA
  rw [if_neg (by omega),Option.map_some,add_none]
 rw [hsk]
 refine row_put (A:=some ⟨b,0,none⟩) (o':=k * 1) hr (by omega) (by rw [zeros_length]; simp; omega) (fun v hv=>?_) (fun u2 hr2 f2=>hK u2 ?_ (f2.mono (fun j _ hj=>by simpa [blkOf] using hj.symm)))
 ·simp only [zeros,List.mem_flatten,List.mem_replicate] at hv
  obtain ⟨l,⟨_,rfl⟩,hv⟩:=hv
  simp at hv; subst hv; rfl
 ·have hcut:=row_cut hr2 (k:=k) (by omega)
  have e:(splice (ivs P) (k * 1) (zeros (n - k) [Value.int .i64 0])).take (k * 1)=ivs (P.take k):=by
   unfold splice
   rw [List.append_assoc,List.take_append_of_le_length (by rw [List.length_take,ivs_len]; omega),List.take_take,Nat.min_self,Nat.mul_one,ivs_take]
  rw [e] at hcut
  exact hcut
theorem slA_zero (b c:Nat):slA (some (⟨b,0,none⟩:Addr)) c 0 1=some ⟨b,0,none⟩:=by
 unfold slA
 split
 ·rfl
 ·simp [Addr.add]
def cpt (r:List Int):Nat->List Int
 | 0=>[]
 | n+1=>cpt r n ++ (if n ≠ 0/\r[n]?=r[n - 1]? then [] else r[n]?.toList)
theorem cpt_mem (r:List Int):∀ n d,d ∈ cpt r n ↔ d ∈ r.take n
 | 0,d=>by simp [cpt]
 | n+1,d=>by
  have ih:=cpt_mem r n d
  rw [cpt,List.take_add_one,List.mem_append,List.mem_append,ih]
  by_cases h:n ≠ 0/\r[n]?=r[n - 1]?
  ·rw [if_pos h]
   constructor
   ·intro h'; exact h'.elim .inl (fun h=>by cases h)
   ·rintro (h' | h')
    ·exact .inl h'
    ·left
     rw [h.2] at h'
     cases hr:r[n - 1]? with
     | none=>rw [hr] at h'; cases h'
     | some x =>
      rw [hr] at h'
      simp at h'
      subst h'
      exact List.mem_of_getElem? (i:=n - 1) (by rw [List.getElem?_take,if_pos (by omega)]; exact hr)
  ·rw [if_neg h]
theorem cpt_asc {r:List Int} (h:r.Pairwise (·<=·)):∀ n,n<=r.length->AscI (cpt r n)
 | 0,_=>List.Pairwise.nil
 | n+1,hn=>by
  have ih:=cpt_asc h n (by omega)
  rw [cpt]
  by_cases hc:n ≠ 0/\r[n]?=r[n - 1]?
  ·rw [if_pos hc,List.append_nil]; exact ih
  ·rw [if_neg hc,List.getElem?_eq_getElem (by omega)]
   refine List.pairwise_append.2 ⟨ih,by simp,fun a ha b hb=>?_⟩
   simp at hb
   subst hb
   have ha':=(cpt_mem r n a).1 ha
   obtain ⟨i,hi,hai⟩:=List.mem_iff_getElem.1 ha'
   rw [List.length_take] at hi
   rw [List.getElem_take] at hai
   have hn0:n ≠ 0:=by omega
   have hprev:r[n - 1]'(by omega) ≠ r[n]'(by omega):=by
    intro he
    apply hc
    refine ⟨hn0,?_⟩
    rw [List.getElem?_eq_getElem (by omega),List.getElem?_eq_getElem (by omega),he]
   have hp:=List.pairwise_iff_getElem.1 h
   have h2:=hp (n - 1) n (by omega) (by omega) (by omega)
   subst hai
   by_cases hin:i=n - 1
   ·subst hin; omega
   ·have h3:=hp i (n - 1) (by omega) (by omega) (by omega)
    omega
theorem compact_int (B:Nat) (e:TypeId) (A:Option Addr) (c:Nat) (r:List Int) (n:Nat) (w:World) (h:Row w B e 1 A n c (ivs r)) (hn:n<=1099511627776) :
  Calls Tryz.prog 54 #[.slice A n c] w fun e' w'=>e'=.returned (.slice A (cpt r n).length c)/\Fr (fun k=>blkOf A=some k) w w'/\Row w' B e 1 A (cpt r n).length c (ivs (cpt r n)):=by
 refine (F54.of A n c w (Q:=fun v w'=>v=.slice A (cpt r n).length c/\Fr (fun k=>blkOf A=some k) w w'/\Row w' B e 1 A (cpt r n).length c (ivs (cpt r n))) ?_).mono (fun e w' ⟨v,he,hv,h⟩=>⟨by rw [he,hv],h⟩)
 have hrl:=sl_n h.sl
 have whole:∀ i,i<=n->cpt r i=r.take i->i=n->∀ u,Fr (fun k=>blkOf A=some k) w u->Row u B e 1 A n c (ivs r)->(Value.slice A n c=.slice A (cpt r n).length c/\Fr (fun k=>blkOf A=some k) w u/\Row u B e 1 A (cpt r n).length c (ivs (cpt r n))):=by
  intro i hi hc he u hf hr
  subst he
  rw [hc,List.take_of_length_le (by omega),hrl]
  exact ⟨rfl,hf,hr⟩
 refine vIf_mk (fun h2=>?_) (fun h2=>jnC_mk ?_)
 ·have h2:(n:Int) < 2:=of_decide_eq_true h2
  refine whole n (Nat.le_refl _) ?_ rfl w (Fr.refl _ _) h
  match n,h2 with
  | 0,_=>rfl
  | 1,_=>simp [cpt,List.take_one,List.head?_eq_getElem?]
  | n+2,h2=>omega
 have h2:¬ (n:Int) < 2:=of_decide_eq_false h2
 have hle:=h.le
 obtain ⟨b,hA⟩:∃ b,A=some ⟨b,0,none⟩:=by
  rcases h.at_ with ⟨_,h0,_⟩ | ⟨b,_,hA,_⟩
  ·omega
  ·exact ⟨b,hA⟩
 subst hA
 refine loop_rule (fun s u=>Fr (fun k=>blkOf (some (⟨b,0,none⟩:Addr))=some k) w u/\Row u B e 1 (some ⟨b,0,none⟩) n c (ivs r)/\∃ i:Nat,1<=i/\i<=n/\s=((some ⟨b,0,none⟩,n,c),(i:Int),())/\cpt r i=r.take i)
  (fun s _=>(n - s.2.1).toNat) ?_ _ _ ⟨Fr.refl _ _,h,1,by omega,by omega,rfl,by simp [cpt,List.take_one,List.head?_eq_getElem?]⟩
 rintro s u C4 ⟨hf,hr,i,hi1,hi,rfl,hc⟩ hC4 _
 refine vIf_mk (fun hlt=>?_) (fun hge=>?_)
 ·have hlt2:(i:Int) < (n:Int):=of_decide_eq_true hlt
  have hrd:=(Fr.drew (fun _=>False) u).row hr (fun _ _ h=>h)
  have ei1:IntKind.wrap .i64 ((i:Int) - 1)=((i - 1:Nat):Int):=by rw [i64_id (by omega) (by omega)]; omega
  have gi:=at_lt (l:=r) (i:=i) (by omega)
  have gp:=at_lt (l:=r) (i:=i - 1) (by omega)
  dsimp only
  rw [ei1]
  refine sl_rd hrd.sl (by omega) gi (sl_rd hrd.sl (by omega) gp ?_)
  refine vIf_mk (fun he=>?_) (fun hne=>?_)
  ·have he:r[i]'(by omega)=r[i - 1]'(by omega):=by simpa using he
   have hsame:cpt r (i+1)=r.take i:=by
    rw [cpt,if_pos ⟨by omega,by rw [gi,gp,he]⟩,List.append_nil,hc]
   refine gd_mk (decide_eq_true (by omega)) (gd_mk (decide_eq_true (by omega)) (jnC_mk ?_))
   rw [Int.toNat_natCast]
   have hsl:slA (some (⟨b,0,none⟩:Addr)) c i 1=some ⟨b,0+i * 1,none⟩:=by
    unfold slA
    rw [if_neg (by omega),Option.map_some,add_none]
   rw [hsl]
   refine loop_rule (fun s u=>Fr (fun k=>blkOf (some (⟨b,0,none⟩:Addr))=some k) w u/\∃ (j:Nat) (P:List Int),1<=j/\i+j<=n/\P.length=n/\Row u B e 1 (some ⟨b,0,none⟩) n c (ivs P)/\(cpt r (i+j)).length < i+j/\P.take (cpt r (i+j)).length=cpt r (i+j)/\P.drop (cpt r (i+j)).length=r.drop (cpt r (i+j)).length /\
     s=((some ⟨b,0,none⟩,n,c),(((cpt r (i+j)).length:Nat):Int),(some ⟨b,0+i * 1,none⟩,n - i,c - i),(j:Int),()))
    (fun s _=>(n - s.2.2.2.1).toNat) ?_ _ _ ⟨hf.trans (Fr.drew (fun _=>False) u) (fun _ _ h=>h) (fun _ _ h=>h.elim),1,r,by omega,by omega,hrl,hrd,?_,?_,?_,?_⟩
   rotate_left
   ·rw [hsame,List.length_take]; omega
   ·rw [hsame,List.length_take,Nat.min_eq_left (by omega)]
   ·rfl
   ·rw [hsame,List.length_take,Nat.min_eq_left (by omega)]; rfl
   clear hC4 hf hr hrd
   rintro s u C9 ⟨hf,j,P,hj1,hjn,hPl,hr,hk,htk,hdp,rfl⟩ hC9 _
   generalize hkk:(cpt r (i+j)).length=k at hk htk hdp
   have hrd:=(Fr.drew (fun _=>False) u).row hr (fun _ _ h=>h)
   have hget:∀ q,k<=q->P[q]?=r[q]?:=by
    intro q hq
    have h1:(P.drop k)[q - k]?=(r.drop k)[q - k]?:=by rw [hdp]
    rw [List.getElem?_drop,List.getElem?_drop,show k+(q - k)=q by omega] at h1
    exact h1
   have tail:Sl u.drew 1 (some (⟨b,0+i * 1,none⟩:Addr)) (n - i) (ivs (P.drop i)):=by
    refine ⟨by rw [ivs_len,List.length_drop]; omega,fun _=>⟨b,0+i * 1,rfl,fun q v hq=>?_⟩⟩
    obtain ⟨b',o',hA,hcell⟩:=hrd.sl.2 (by omega)
    cases hA
    have:=hcell (i+q) v (by
     unfold ivs at hq ⊢
     rw [List.getElem?_map,List.getElem?_drop] at hq
     rw [List.getElem?_map]; exact hq)
    rw [show 0+i * 1+q=0+(i+q) by omega]; exact this
   refine vIf_mk (fun hlt=>?_) (fun hge=>?_)
   ·have hlt3:(j:Int) < ((n - i:Nat):Int):=of_decide_eq_true hlt
    have ej:IntKind.wrap .i64 ((j:Int) - 1)=((j - 1:Nat):Int):=by rw [i64_id (by omega) (by omega)]; omega
    have gi:=at_lt (l:=r) (i:=i+j) (by omega)
    have gp:=at_lt (l:=r) (i:=i+j - 1) (by omega)
    have ti:(P.drop i)[j]?=some (r[i+j]'(by omega)):=by rw [List.getElem?_drop,hget _ (by omega),gi]
    have tp:(P.drop i)[j - 1]?=some (r[i+j - 1]'(by omega)):=by rw [List.getElem?_drop,show i+(j - 1)=i+j - 1 by omega,hget _ (by omega),gp]
    dsimp only
    rw [ej]
    refine sl_rd tail (by omega) ti (sl_rd tail (by omega) tp ?_)
    have enext:IntKind.wrap .i64 ((j:Int)+1)=((j+1:Nat):Int):=by rw [i64_id (by omega) (by omega)]; rfl
    refine vIf_mk (fun hne=>?_) (fun he=>?_)
    ·have hne2:r[i+j]'(by omega) ≠ r[i+j - 1]'(by omega):=by simpa using hne
     have hnx:cpt r (i+(j+1))=cpt r (i+j) ++ [r[i+j]'(by omega)]:=by
      rw [<- Nat.add_assoc,cpt,if_neg,gi,Option.toList_some]
      rintro ⟨_,h'⟩
      rw [gi,gp] at h'
      exact hne2 (Option.some.inj h')
     refine sl_rd tail (by omega) ti (dr_mk (gd_mk (decide_eq_true (by omega)) (gd_mk (decide_eq_true (by omega)) ?_)))
     simp only [Int.toNat_natCast]
     refine row_put (A:=some ⟨b,0,none⟩) (o':=k * 1) hrd (by omega) (by simp; omega) (fun v hv=>by simp at hv; subst hv; rfl) (fun u2 hr2 f2=>jnC_mk (hC9 _ _ ⟨?_,j+1,P.set k (r[i+j]'(by omega)),by omega,by omega,by simpa using hPl,?_,?_,?_,?_,?_⟩ ?_))
     ·exact (hf.trans (Fr.drew (fun _=>False) u) (fun _ _ h=>h) (fun _ _ h=>h.elim)).trans1 f2
     ·rw [ivs_set (by omega)]; exact hr2
     ·rw [hnx,List.length_append,hkk]; simp; omega
     ·rw [hnx,List.length_append,hkk]
      show (P.set k _).take (k+1)=_
      rw [List.take_add_one,List.getElem?_set_self (by omega),Option.toList_some,List.take_set_of_le (Nat.le_refl k),htk]
     ·rw [hnx,List.length_append,hkk]
      show (P.set k _).drop (k+1)=r.drop (k+1)
      rw [List.drop_set_of_lt (by omega)]
      have h3:=congrArg (List.drop 1) hdp
      rw [List.drop_drop,List.drop_drop] at h3
      exact h3
     ·rw [hnx,List.length_append,hkk,enext]
      show (_,IntKind.wrap .i64 ((k:Int)+1),_,_,())=_
      rw [i64_id (by omega) (by omega)]; rfl
     ·show ((n:Int) - IntKind.wrap .i64 ((j:Int)+1)).toNat < ((n:Int) - (j:Int)).toNat
      rw [enext]; omega
    ·have he2:r[i+j]'(by omega)=r[i+j - 1]'(by omega):=by simpa using he
     have hnx:cpt r (i+(j+1))=cpt r (i+j):=by
      rw [<- Nat.add_assoc,cpt,if_pos ⟨by omega,by rw [gi,gp,he2]⟩,List.append_nil]
     refine jnC_mk (hC9 _ _ ⟨hf.trans (Fr.drew (fun _=>False) u) (fun _ _ h=>h) (fun _ _ h=>h.elim),j+1,P,by omega,by omega,hPl,hrd,by rw [hnx,hkk]; omega,by rw [hnx,hkk]; exact htk,by rw [hnx,hkk]; exact hdp,?_⟩ ?_)
     ·rw [hnx,hkk,enext]
     ·show ((n:Int) - IntKind.wrap .i64 ((j:Int)+1)).toNat < ((n:Int) - (j:Int)).toNat
      rw [enext]; omega
   ·have hge3:¬ (j:Int) < ((n - i:Nat):Int):=of_decide_eq_false hge
    have hij:i+j=n:=by omega
    rw [hij] at hkk htk
    dsimp only
    simp only [Int.toNat_natCast]
    refine gd_mk (decide_eq_true (by omega)) (gd_mk (decide_eq_true (by omega)) (vIf_f (by simp; omega) ?_))
    refine row_clear hr (by omega) (fun u2 hr2 f2=>jnC_mk (fun _=>?_))
    refine gd_mk (decide_eq_true (by show (0:Int)<=(k:Int); omega)) (gd_mk (decide_eq_true (by show (k:Int)<=(c:Int); omega)) ⟨?_,hf.trans1 (f2.mono (fun q _ hq=>by subst hq; rfl)),?_⟩)
    ·show Value.slice (slA (some ⟨b,0,none⟩) c 0 1) ((k:Int).toNat) c=_
     rw [Int.toNat_natCast,hkk,slA_zero]
    ·rw [hkk]
     rw [htk] at hr2
     exact hr2
  ·have hne2:r[i]'(by omega) ≠ r[i - 1]'(by omega):=by simpa using hne
   refine jnC_mk (hC4 _ _ ⟨hf.trans (Fr.drew (fun _=>False) u) (fun _ _ h=>h) (fun _ _ h=>h.elim),hrd,i+1,by omega,by omega,?_,?_⟩ ?_)
   ·show (_,IntKind.wrap .i64 ((i:Int)+1),())=_
    rw [i64_id (by omega) (by omega)]; rfl
   ·rw [cpt,if_neg,hc,List.take_add_one]
    rintro ⟨_,h'⟩
    rw [gi,gp] at h'
    exact hne2 (Option.some.inj h')
   ·show ((n:Int) - IntKind.wrap .i64 ((i:Int)+1)).toNat < ((n:Int) - (i:Int)).toNat
    rw [i64_id (by omega) (by omega)]; omega
 ·have hge2:¬ (i:Int) < (n:Int):=of_decide_eq_false hge
  exact whole i hi hc (by omega) u hf hr
end Go.Proofs.YtadbakmblklncaaGreatDoor
namespace Go.Proofs.YtadbakmblklncaaGreatDoor
open Go.GV Go.RowKit Go.Lib Go.Stb
theorem sc_calls (B:Nat) (A:Option Addr) (n c:Nat) (r:List Int) (w:World) (h:Row w B 3 1 A n c (ivs r)) (hn:n<=1099511627776) :
  Calls Tryz.prog 53 #[.slice A n c] w fun e w1=>e=.returned (.tuple #[])/\Calls Tryz.prog 54 #[.slice A n c] w1 fun e2 w2=>Fr (fun k=>blkOf A=some k) w w2/\e2=.returned (.slice A (norm r).length c)/\Row w2 B 3 1 A (norm r).length c (ivs (norm r)):=by
 have hrl:=sl_n h.sl
 have fin:∀ (u:World) (r1:List Int),Fr (fun k=>blkOf A=some k) w u->Row u B 3 1 A n c (ivs r1)->r1.Perm r->r1.Pairwise (·<=·) ->
   Calls Tryz.prog 54 #[.slice A n c] u fun e2 w2=>Fr (fun k=>blkOf A=some k) w w2/\e2=.returned (.slice A (norm r).length c)/\Row w2 B 3 1 A (norm r).length c (ivs (norm r)):=by
  intro u r1 fu hr1 hp hs
  have hl1:=sl_n hr1.sl
  refine (compact_int B _ A c r1 n u hr1 hn).mono ?_
  rintro e w8 ⟨rfl,f8,h8⟩
  have heq:cpt r1 n=norm r:=norm_eq (cpt_asc hs _ (by omega)) (fun y=>by rw [cpt_mem,List.take_of_length_le (by omega)]; exact hp.mem_iff)
  rw [heq] at h8 ⊢
  exact ⟨fu.trans1 f8,rfl,h8⟩
 cases A with
 | none =>
  have hn0:n=0/\c=0:=by
   rcases h.at_ with ⟨_,h',h''⟩ | ⟨_,_,h',_⟩
   ·exact ⟨h',h''⟩
   ·cases h'
  obtain ⟨rfl,rfl⟩:=hn0
  have:r=[]:=List.length_eq_zero_iff.1 hrl
  subst this
  refine (sort_nil 0 w).mono ?_
  rintro e w2 ⟨rfl,rfl⟩
  exact ⟨rfl,fin w2 [] (Fr.refl _ _) h (List.Perm.refl _) List.Pairwise.nil⟩
 | some a =>
  have ha:∃ b,a=⟨b,0,none⟩:=by
   rcases h.at_ with ⟨h',_⟩ | ⟨b,_,h',_⟩
   ·cases h'
   ·exact ⟨b,Option.some.inj h'⟩
  obtain ⟨b,rfl⟩:=ha
  refine (sort_int B _ b c r n w h (by omega)).mono ?_
  rintro e w2 ⟨rfl,f2,r2,hr2,hp,hs⟩
  exact ⟨rfl,fin w2 r2 (f2.mono (fun k _ hk=>by subst hk; rfl)) hr2 hp hs⟩
def idsU (F:Fo):Nat->List Int
 | 0=>[]
 | n+1=>idsU F n ++ (behF F (n:Nat)).map (·.2)
def idsF (F:Fo):List Int:=norm (idsU F (F.P.length+1))
theorem idsU_len {F:Fo} (hb:FoB F):∀ n,(idsU F n).length<=n * 349525
 | 0=>by simp [idsU]
 | n+1=>by
  have ih:=idsU_len hb n
  have h1:=behF_len F (n:Nat)
  have h2:F.L.length+F.P.length<=349525:=hb
  rw [idsU,List.length_append,List.length_map,Nat.add_mul]
  omega
theorem norm_len' (l:List Int):(norm l).length<=l.length:=norm_len l
theorem snd_step {l:List Nm} {j:Nat} {x:Nm} (h:l[j]?=some x):(l.take (j+1)).map (·.2)=(l.take j).map (·.2) ++ [x.2]:=by rw [List.take_add_one,h]; simp
theorem push_int2 {w:World} {B:Nat} {A:Option Addr} {n c:Nat} {out:List Int} {x:Int} {K:Option Addr->Nat->Nat->World->Prop} (hr:Row w B 3 1 A n c (ivs out)) (hB:B<=w.heap.size) (hn:n<=2199023255552)
  (hK:∀ A' c' w',Row w' B 3 1 A' (n+1) c' (ivs (out ++ [x]))->Fr (fun k=>blkOf A=some k) w w'->(∀ k,blkOf A'=some k->blkOf A=some k\/w.heap.size<=k)->K A' (n+1) c' w'):nw w ([Value.int .i64 x] ++ []) 3 fun b w'=>app w' 1 8 [Value.int .i64 0] 3 A n c (.slice (some ⟨b,0,none⟩) 1 1) K:=by
 refine nw_mk ?_
 rw [List.append_nil]
 have f1:Fr (fun _=>False) w (w.alloc (.cells [Value.int .i64 x].toArray 3)):=Fr.alloc _ _ _
 have r1:Row (w.alloc (.cells [Value.int .i64 x].toArray 3)) 0 3 1 (some ⟨w.heap.size,0,none⟩) 1 1 (ivs [x]):=Row.new (Nat.zero_le _) rfl
 have hs:(w.alloc (.cells [Value.int .i64 x].toArray 3)).heap.size=w.heap.size+1:=alloc_size _ _
 generalize w.alloc (.cells [Value.int .i64 x].toArray 3)=w1 at f1 r1 hs ⊢
 refine app_row2 (f1.row hr (fun _ _ h=>h)) r1.sl.src (ivs_one [x]) rfl (by omega) (by omega) (by omega) (fun A' c' w' hr' f' hb'=>hK A' c' w' (by rw [ivs_app]; exact hr') ?_ (fun k hk=>(hb' k hk).imp id (fun h=>by omega)))
 exact f1.trans f' (fun _ _ h=>h.elim) (fun _ _ h=>h)
set_option maxHeartbeats 1000000 in
theorem ids_calls [Ow] (cs:List Value) (F:Fo) (w:World) (h:FoAt w cs F) (hb:FoB F) :
  Calls Tryz.prog 30 #[ofL cs] w fun e w'=>Fr (fun _=>False) w w'/\∃ A' c',e=.returned (.slice A' (idsF F).length c')/\Row w' w.heap.size 3 1 A' (idsF F).length c' (ivs (idsF F)):=by
 refine (F30.of cs w (Q:=fun v w'=>Fr (fun _=>False) w w'/\∃ A' c',v=.slice A' (idsF F).length c'/\Row w' w.heap.size 3 1 A' (idsF F).length c' (ivs (idsF F))) ?_).mono (fun e w' ⟨v,he,hf,A',c',hv,h⟩=>⟨hf,A',c',by rw [he,hv],h⟩)
 have hb':F.L.length+F.P.length<=349525:=hb
 refine fo_new (fun b w1 f1 _ r1=>?_)
 have h1:=h.fr0 f1
 have hcl:=h.len
 obtain ⟨A,m,c,A',m',c',rfl,hL,hP,hPc⟩:=h
 have hPl:=hP.2
 refine ⟨A',m',c',r1.cell rfl,?_⟩
 have em:IntKind.wrap .i64 (((m':Nat):Int)+1)=((m'+1:Nat):Int):=ei m' (by omega)
 dsimp only
 rw [em]
 have hs1:=f1.size
 refine jnC_mk (loop_rule (fun s u=>Fr (fun _=>False) w1 u/\∃ (i:Nat) (A2:Option Addr) (c2:Nat),i<=m'+1/\s=((b,0),(A2,(idsU F i).length,c2),((m'+1:Nat):Int),(i:Int),())/\Row u w1.heap.size 3 1 A2 (idsU F i).length c2 (ivs (idsU F i)))
  (fun s _=>(m'+1 - s.2.2.2.1).toNat) ?_ _ _ ⟨Fr.refl _ _,0,none,0,by omega,rfl,Row.nil _ _ _ _⟩)
 rintro s u C3 ⟨hf,i,A2,c2,hi,rfl,h2⟩ hC3 _
 have hlen:=idsU_len hb i
 have hi2:i * 349525<=349526 * 349525:=Nat.mul_le_mul_right _ (by omega)
 refine vIf_mk (fun hlt=>?_) (fun hge=>?_)
 ·have hlt2:(i:Int) < ((m'+1:Nat):Int):=of_decide_eq_true hlt
  refine ⟨[.slice A m c,.slice A' m' c'],rfl,rec_rd (r1.fr hf (fun h=>h)),(beh_calls _ F (i:Int) u (h1.fr0 hf) hb).mono ?_⟩
  rintro r u2 ⟨f2,A3,c3,rfl,h3⟩
  have hbl:=behF_len F (i:Nat)
  have hU:idsU F (i+1)=idsU F i ++ (behF F (i:Nat)).map (·.2):=rfl
  generalize behF F ((i:Nat):Int)=l at h3 hbl hU ⊢
  have h2':=f2.row h2 (fun _ _ h=>h)
  refine ⟨_,_,_,rfl,jnC_mk (loop_rule (fun s v=>Fr (fun _=>False) w1 v/\NSl v A3 l.length l/\∃ (j:Nat) (A4:Option Addr) (c4:Nat),j<=l.length/\s=((b,0),(A4,(idsU F i).length+j,c4),((m'+1:Nat):Int),(i:Int),(A3,l.length,c3),((l.length:Nat):Int),(j:Int),())/\Row v w1.heap.size 3 1 A4 ((idsU F i).length+j) c4 (ivs (idsU F i ++ (l.take j).map (·.2)))/\(∀ k,blkOf A4=some k->blkOf A3 ≠ some k))
   (fun s _=>(l.length - s.2.2.2.2.2.2.1).toNat) ?_ _ _ ⟨hf.trans1 f2,h3.sl,0,A2,c2,by omega,rfl,by simpa using h2',fun k hk h=>by have:=(h2.blt hk).2; have:=(h3.1.blt h).1; omega⟩)⟩
  rintro s v C6 ⟨fv,hl,j,A4,c4,hj,rfl,h4,hne⟩ hC6 _
  refine vIf_mk (fun hlt=>?_) (fun hge=>?_)
  ·have hlt3:(j:Int) < (l.length:Int):=of_decide_eq_true hlt
   have gj:l[j]?=some (l[j]'(by omega)):=List.getElem?_eq_getElem (by omega)
   generalize l[j]'(by omega)=x at gj
   have hst:=snd_step gj
   refine n_rd hl gj rfl (nw_mk (gd_mk rfl ?_))
   have q1:Fr (fun _=>False) v (v.alloc (.cells [Value.string (⟨#[]⟩:ByteArray),Value.int .i64 0].toArray 110)):=Fr.alloc _ _ _
   have s1:=RecAt.new v [Value.string (⟨#[]⟩:ByteArray),Value.int .i64 0] 110
   have hb15:∀ k,k < v.heap.size->k ≠ v.heap.size:=fun k hk=>by omega
   have hA4b:∀ k,blkOf A4=some k->k ≠ v.heap.size:=fun k hk=>hb15 k (h4.blt hk).2
   have hA3b:l.length ≠ 0->∀ k,blkOf A3=some k->k ≠ v.heap.size:=fun h0 k hk=>hb15 k (hl.1.blt (by decide) h0 hk)
   generalize hbb:v.heap.size=b15 at s1 hA4b hA3b ⊢
   generalize v.alloc (.cells [Value.string (⟨#[]⟩:ByteArray),Value.int .i64 0].toArray 110)=v1 at q1 s1 ⊢
   refine fo_st s1 (by rfl) (encN_o.one x) (fun v2 q2 s2=>⟨x.2,s2.cell rfl,?_⟩)
   have hl1:=hl.fr0 q1
   have h41:=q1.row h4 (fun _ _ h=>h)
   have hl2:NSl v2 A3 l.length l:=⟨q2.sl hl1.1 hA3b,hl1.2⟩
   have h42:=q2.row h41 hA4b
   have fv2:Fr (fun _=>False) w1 v2:=(fv.trans1 q1).trans q2 (fun _ _ h=>h) (fun k hk h=>by have:=fv.size; omega)
   refine push_int2 h42 (by have:=fv2.size; omega) (by dsimp only; omega) (fun A5 c5 v3 h5 q3 hA5=>jnC_mk (hC6 _ _ ⟨?_,?_,j+1,A5,c5,by omega,by rw [ei j (by omega)]; rfl,?_,?_⟩ ?_))
   ·exact fr_own fv2 (fun k hk=>(h42.blt hk).1) (Nat.le_refl _) q3
   ·exact ⟨q3.sl hl2.1 (fun _ k hk h=>hne k h hk),hl2.2⟩
   ·rw [hst,<- List.append_assoc]; exact h5
   ·intro k hk h
    rcases hA5 k hk with h' | h'
    ·exact hne k h' h
    ·have:=hl2.1.blt (by decide) (by omega) h
     omega
   ·show ((l.length:Int) - IntKind.wrap .i64 ((j:Int)+1)).toNat < ((l.length:Int) - (j:Int)).toNat
    rw [ei j (by omega)]; omega
  ·have hge3:¬ (j:Int) < (l.length:Int):=of_decide_eq_false hge
   have hjl:j=l.length:=by omega
   subst hjl
   rw [List.take_length,<- hU] at h4
   have hUl:(idsU F i).length+l.length=(idsU F (i+1)).length:=by rw [hU]; simp
   rw [hUl] at h4
   refine jnC_mk (hC3 _ _ ⟨fv,i+1,A4,c4,by omega,?_,h4⟩ ?_)
   ·dsimp only; rw [hUl,ei i (by omega)]
   ·show ((m':Int)+1 - IntKind.wrap .i64 ((i:Int)+1)).toNat < ((m':Int)+1 - (i:Int)).toNat
    rw [ei i (by omega)]; omega
 ·have hge2:¬ (i:Int) < ((m'+1:Nat):Int):=of_decide_eq_false hge
  have him:i=F.P.length+1:=by omega
  subst him
  refine (sc_calls w1.heap.size A2 _ c2 _ u h2 (by omega)).mono ?_
  rintro r u2 ⟨rfl,h⟩
  refine ⟨rfl,h.mono ?_⟩
  rintro r u3 ⟨f3,rfl,h3⟩
  exact ⟨_,_,_,rfl,f1.trans1 (fr_own hf (fun k hk=>(h2.blt hk).1) (Nat.le_refl _) f3),A2,c2,rfl,row_low hs1 h3⟩
end Go.Proofs.YtadbakmblklncaaGreatDoor
namespace Go.Proofs.YtadbakmblklncaaGreatDoor
open Go.GV Go.RowKit Go.Lib
def chk (sz:Nat) (vs:List Value) (i:Nat):List Value:=(vs.drop (i * sz)).take sz
theorem chk_l {sz:Nat} {vs us:List Value} {i:Nat} (h:(i+1) * sz<=vs.length):chk sz (vs ++ us) i=chk sz vs i:=by
 rw [Nat.add_mul] at h
 unfold chk
 rw [List.drop_append_of_le_length (by omega),List.take_append_of_le_length (by rw [List.length_drop]; omega)]
theorem chk_r {sz:Nat} {vs us:List Value} {n j:Nat} (h:vs.length=n * sz):chk sz (vs ++ us) (n+j)=chk sz us j:=by
 unfold chk
 rw [Nat.add_mul,<- h,List.drop_append,List.drop_of_length_le (by omega),List.nil_append]
 congr 2; omega
theorem chk_one {sz:Nat} {cs:List Value} (h:cs.length=sz):chk sz cs 0=cs:=by
 unfold chk
 rw [Nat.zero_mul,List.drop_zero,List.take_of_length_le (by omega)]
theorem chk_get {sz:Nat} {vs:List Value} {i j:Nat} (hj:j < sz):(chk sz vs i)[j]?=vs[i * sz+j]?:=by
 unfold chk
 rw [List.getElem?_take,if_pos hj,List.getElem?_drop]
theorem chk_len {sz:Nat} {vs:List Value} {n i:Nat} (h:vs.length=n * sz) (hi:i < n):(chk sz vs i).length=sz:=by
 have hm:(i+1) * sz<=n * sz:=Nat.mul_le_mul_right _ hi
 rw [Nat.add_mul] at hm
 unfold chk
 rw [List.length_take,List.length_drop]; omega
def Ech {α:Type} (sz:Nat) (P:List Value->α->Prop) (vs:List Value) (l:List α):Prop:=∀ i x,l[i]?=some x->P (chk sz vs i) x
theorem Ech.nil {α:Type} {sz:Nat} {P:List Value->α->Prop} {vs:List Value}:Ech sz P vs ([]:List α):=fun i x h=>by simp at h
theorem Ech.snoc {α:Type} {sz:Nat} {P:List Value->α->Prop} {vs cs:List Value} {l:List α} {x:α} {n:Nat} (h:Ech sz P vs l) (hv:vs.length=n * sz) (hl:l.length=n) (hc:cs.length=sz) (hx:P cs x):Ech sz P (vs ++ cs) (l ++ [x]):=by
 intro i y hy
 have hi:=(List.getElem?_eq_some_iff.1 hy).1
 rw [List.length_append,List.length_singleton] at hi
 by_cases hin:i < n
 ·rw [List.getElem?_append_left (by omega)] at hy
  rw [chk_l (by rw [hv]; exact Nat.mul_le_mul_right _ hin)]
  exact h i y hy
 ·have e:i=n+0:=by omega
  rw [e,chk_r hv,chk_one hc]
  rw [List.getElem?_append_right (by omega)] at hy
  rw [show i - l.length=0 by omega,List.getElem?_cons_zero] at hy
  injection hy with hy
  subst hy; exact hx
theorem Ech.mono {α:Type} {sz:Nat} {P Q:List Value->α->Prop} {vs:List Value} {l:List α} (h:Ech sz P vs l) (hPQ:∀ cs x,P cs x->Q cs x):Ech sz Q vs l:=fun i x hi=>hPQ _ _ (h i x hi)
theorem ech_rd {α:Type} {sz:Nat} {P:List Value->α->Prop} {w:World} {A:Option Addr} {n:Nat} {vs:List Value} {l:List α} (h:Sl w sz A n vs) (he:Ech sz P vs l) (hsz:sz ≠ 0) {i:Nat} {x:α} (hi:l[i]?=some x) (hin:i < n) :
  ∃ b o,A=some ⟨b,o,none⟩/\cellsAt w b (o+i * sz) (chk sz vs i)/\(chk sz vs i).length=sz/\P (chk sz vs i) x:=by
 have hl:=h.1
 have hm:(i+1) * sz<=n * sz:=Nat.mul_le_mul_right _ hin
 rw [Nat.add_mul] at hm
 obtain ⟨b,o,hA,hc⟩:=h.2 (by omega)
 refine ⟨b,o,hA,fun j v hj=>?_,chk_len hl hin,he i x hi⟩
 have hjl:=(List.getElem?_eq_some_iff.1 hj).1
 rw [chk_len hl hin] at hjl
 rw [chk_get hjl] at hj
 rw [Nat.add_assoc]
 exact hc _ v hj
theorem el_all {α:Type} {sz:Nat} {P:List Value->α->Prop} {w:World} {A:Option Addr} {n:Nat} {vs:List Value} {l:List α} (h:Sl w sz A n vs) (he:Ech sz P vs l) (hsz:sz ≠ 0) {i:Nat} {x:α} (hi:l[i]?=some x) (hin:i < n) {K:List Value->Prop} (hK:∀ cs,cs.length=sz->P cs x->K cs) :
  dr A fun b o=>gd (decide (0<=(i:Int))) (gd (decide ((i:Int) < ((n:Nat):Int))) (ldA sz w b (o+((i:Int)).toNat * sz) K)):=by
 obtain ⟨b,o,rfl,h1,h2,h3⟩:=ech_rd h he hsz hi hin
 refine dr_mk (gd_mk (decide_eq_true (by omega)) (gd_mk (decide_eq_true (by omega)) ⟨_,h2,?_,hK _ h2 h3⟩))
 rw [Int.toNat_natCast]; exact h1
end Go.Proofs.YtadbakmblklncaaGreatDoor
namespace Go.Proofs.YtadbakmblklncaaGreatDoor
open Go.GV
abbrev Bs:=List UInt8
structure Wr where
 cut:Bool
 off:Int
 data:Bs
def rightW (x:Wr):Bool:=decide (x.off >= 0) && decide (x.off<=1048576 - (x.data.length:Int))
def over (b:Bs) (o:Nat) (d:Bs):Bs:=(b ++ List.replicate (o - b.length) 0).take o ++ d ++ b.drop (o+d.length)
def applyW (b:Bs) (x:Wr):Bs :=
 if rightW x=false\/(x.cut=false/\x.data=[]) then b
 else if x.cut then b.take x.off.toNat
 else over b x.off.toNat x.data
def allW (b:Bs) (l:List Wr):Bs:=l.foldl applyW b
def partW (x:Wr) (c:UInt8):Wr:=if c.toNat < 255/\c.toNat < x.data.length then { x with data:=x.data.take c.toNat } else x
def survS (b:Bs) (x:Wr) (c:UInt8):Bs:=if c=0\/rightW x=false then b else applyW b (partW x c)
def survW:Bs->List Wr->Bs->Bs
 | b,[],_=>b
 | b,_ :: _,[]=>b
 | b,x :: l,c :: r=>survW (survS b x c) l r
def endW (n:Int) (x:Wr):Int:=if rightW x=true/\x.cut=false/\x.data ≠ [] then (if n < x.off+(x.data.length:Int) then x.off+(x.data.length:Int) else n) else n
def peakW (n:Int) (l:List Wr):Int:=l.foldl endW n
theorem over_len (b:Bs) (o:Nat) (d:Bs):(over b o d).length=max b.length (o+d.length):=by
 unfold over
 simp only [List.length_append,List.length_take,List.length_drop,List.length_replicate]
 omega
theorem over_get (b:Bs) (o:Nat) (d:Bs) (j:Nat):(over b o d)[j]?=if j < o then (if j < b.length then b[j]? else some 0) else if j < o+d.length then d[j - o]? else b[j]?:=by
 have hl:((b ++ List.replicate (o - b.length) (0:UInt8)).take o).length=o:=by
  rw [List.length_take,List.length_append,List.length_replicate]; omega
 unfold over
 by_cases h1:j < o
 ·rw [if_pos h1,List.append_assoc,List.getElem?_append_left (by rw [hl]; exact h1),List.getElem?_take,if_pos h1]
  by_cases h2:j < b.length
  ·rw [if_pos h2,List.getElem?_append_left h2]
  ·rw [if_neg h2,List.getElem?_append_right (by omega),List.getElem?_replicate,if_pos (by omega)]
 ·rw [if_neg h1]
  by_cases h2:j < o+d.length
  ·rw [if_pos h2,List.append_assoc,List.getElem?_append_right (by rw [hl]; omega),hl,List.getElem?_append_left (by omega)]
  ·rw [if_neg h2,List.getElem?_append_right (by rw [List.length_append,hl]; omega),List.length_append,hl,List.getElem?_drop]
   congr 1; omega
theorem right_iff {x:Wr}:rightW x=true ↔ 0<=x.off/\x.off<=1048576 - (x.data.length:Int):=by
 unfold rightW
 rw [Bool.and_eq_true,decide_eq_true_iff,decide_eq_true_iff]
theorem endW_ge (n:Int) (x:Wr):n<=endW n x:=by
 unfold endW
 split
 ·split <;> omega
 ·omega
theorem endW_mono {m n:Int} (h:m<=n) (x:Wr):endW m x<=endW n x:=by
 unfold endW
 split
 ·split <;> split <;> omega
 ·exact h
theorem peakW_ge (l:List Wr):∀ n:Int,n<=peakW n l:=by
 induction l with
 | nil=>intro n; exact Int.le_refl _
 | cons x l ih=>intro n; exact Int.le_trans (endW_ge n x) (ih _)
theorem peakW_mono (l:List Wr):∀ {m n:Int},m<=n->peakW m l<=peakW n l:=by
 induction l with
 | nil=>intro m n h; exact h
 | cons x l ih=>intro m n h; exact ih (endW_mono h x)
theorem peakW_snoc (n:Int) (l:List Wr) (x:Wr):peakW n (l ++ [x])=endW (peakW n l) x:=by simp [peakW]
theorem allW_snoc (b:Bs) (l:List Wr) (x:Wr):allW b (l ++ [x])=applyW (allW b l) x:=by simp [allW]
theorem endW_le {n:Int} (h:n<=1048576) (x:Wr):endW n x<=1048576:=by
 unfold endW
 split
 ·rename_i hx
  have:=right_iff.1 hx.1
  split <;> omega
 ·exact h
theorem peakW_le (l:List Wr):∀ {n:Int},n<=1048576->peakW n l<=1048576:=by
 induction l with
 | nil=>intro n h; exact h
 | cons x l ih=>intro n h; exact ih (endW_le h x)
theorem applyW_len (b:Bs) (x:Wr):((applyW b x).length:Int)<=endW b.length x:=by
 unfold applyW
 by_cases h:rightW x=false\/(x.cut=false/\x.data=[])
 ·rw [if_pos h]; exact endW_ge _ _
 ·rw [if_neg h]
  have h1:rightW x=true:=by
   cases hr:rightW x with
   | true=>rfl
   | false=>exact absurd (.inl hr) h
  by_cases hc:x.cut=true
  ·rw [if_pos hc]
   have:=endW_ge (b.length:Int) x
   rw [List.length_take]; omega
  ·rw [if_neg hc,over_len]
   have hc:x.cut=false:=by simpa using hc
   have hd:x.data ≠ []:=fun hd=>h (.inr ⟨hc,hd⟩)
   unfold endW
   rw [if_pos ⟨h1,hc,hd⟩]
   have:=right_iff.1 h1
   split <;> omega
theorem allW_len (l:List Wr):∀ b:Bs,((allW b l).length:Int)<=peakW b.length l:=by
 induction l with
 | nil=>intro b; exact Int.le_refl _
 | cons x l ih =>
  intro b
  exact Int.le_trans (ih (applyW b x)) (peakW_mono l (applyW_len b x))
theorem endW_pos {n:Int} {x:Wr} (h:rightW x=true/\x.cut=false/\x.data ≠ []):endW n x=if n < x.off+(x.data.length:Int) then x.off+(x.data.length:Int) else n:=if_pos h
theorem endW_neg {n:Int} {x:Wr} (h:¬ (rightW x=true/\x.cut=false/\x.data ≠ [])):endW n x=n:=if_neg h
theorem partW_end (n:Int) (x:Wr) (c:UInt8) (h:rightW x=true):endW n (partW x c)<=endW n x:=by
 unfold partW
 by_cases hc:c.toNat < 255/\c.toNat < x.data.length
 ·rw [if_pos hc]
  by_cases h2:rightW { x with data:=x.data.take c.toNat }=true/\x.cut=false/\x.data.take c.toNat ≠ []
  ·have hd:x.data ≠ []:=fun e=>by
    have:=hc.2
    rw [e] at this
    simp at this
   have hl:(List.take c.toNat x.data).length=c.toNat:=by rw [List.length_take]; omega
   rw [endW_pos (x:={ x with data:=x.data.take c.toNat }) h2,endW_pos ⟨h,h2.2.1,hd⟩]
   show (if n < x.off+((List.take c.toNat x.data).length:Int) then x.off+((List.take c.toNat x.data).length:Int) else n)<=_
   rw [hl]
   split <;> split <;> omega
  ·rw [endW_neg (x:={ x with data:=x.data.take c.toNat }) h2]
   exact endW_ge n x
 ·rw [if_neg hc]; exact Int.le_refl _
theorem survS_len (b:Bs) (x:Wr) (c:UInt8):((survS b x c).length:Int)<=endW b.length x:=by
 unfold survS
 split
 ·exact endW_ge _ _
 ·rename_i h
  have h1:rightW x=true:=by
   cases hr:rightW x with
   | true=>rfl
   | false=>exact absurd (.inr hr) h
  exact Int.le_trans (applyW_len b _) (partW_end _ x c h1)
theorem survW_len:∀ (l:List Wr) (b c:Bs),((survW b l c).length:Int)<=peakW b.length l
 | [],b,c=>by cases c <;> exact Int.le_refl _
 | x :: l,b,[]=>by
  have:=peakW_ge (x :: l) (b.length:Int)
  exact this
 | x :: l,b,c :: r=>Int.le_trans (survW_len l (survS b x c) r) (peakW_mono l (survS_len b x c))
structure Ino where
 b:Bs
 p:List Wr
def nowI (x:Ino):Bs:=allW x.b x.p
def roomI (x:Ino):Int:=peakW x.b.length x.p
structure InoB (x:Ino):Prop where
 b:x.b.length<=1048576
 d:∀ y ∈ x.p,y.data.length<=1048576
theorem now_le {x:Ino} (h:InoB x):(nowI x).length<=1048576:=by
 have h1:=allW_len x.p x.b
 have h2:=peakW_le x.p (n:=(x.b.length:Int)) (by have:=h.b; omega)
 unfold nowI
 omega
theorem room_le {x:Ino} (h:InoB x):(x.b.length:Int)<=roomI x/\roomI x<=1048576:=⟨peakW_ge x.p _,peakW_le x.p (by have:=h.b; omega)⟩
def appI (x:Ino) (b:Bs):Ino×Int :=
 if (b.length:Int) > 1048576 - ((nowI x).length:Int) then (x,18)
 else if b=[] then (x,0)
 else (⟨x.b,x.p ++ [⟨false,((nowI x).length:Int),b⟩]⟩,0)
def cutI (x:Ino) (n:Int):Ino×Int :=
 if n < 0\/n > ((nowI x).length:Int) then (x,20) else (⟨x.b,x.p ++ [⟨true,n,[]⟩]⟩,0)
def syncI (x:Ino):Ino:=⟨nowI x,[]⟩
def crashI (x:Ino) (c:Bs):Ino×Bs:=(⟨survW x.b x.p c,[]⟩,c.drop x.p.length)
end Go.Proofs.YtadbakmblklncaaGreatDoor
namespace Go.Proofs.YtadbakmblklncaaGreatDoor
open Go.GV Go.RowKit Go.Lib
abbrev bys (b:Bs):List Value:=b.map bv
def WrP [Ow] (w:World) (cs:List Value) (x:Wr):Prop:=∃ (B:Option Addr) (m k:Nat),cs=[.bool x.cut,.int .i64 x.off,.slice B m k]/\Sl w 1 B m (bys x.data)/\m<=k/\OkA w B m
def WSl [Ow] (w:World) (A:Option Addr) (n:Nat) (l:List Wr):Prop:=∃ vs,Sl w 3 A n vs/\l.length=n/\Ech 3 (WrP w) vs l
def InoAt [Ow] (w:World) (cs:List Value) (x:Ino):Prop:=∃ (A:Option Addr) (n c:Nat) (A':Option Addr) (n' c':Nat),cs=[.slice A n c,.slice A' n' c']/\Sl w 1 A n (bys x.b)/\n<=c/\WSl w A' n' x.p/\n'<=c'/\OkA w A n/\OkA w A' n'
theorem by_n {w:World} {A:Option Addr} {n:Nat} {b:Bs} (h:Sl w 1 A n (bys b)):b.length=n:=by
 have:=h.1
 simp [bys] at this
 omega
structure Alien0 (w:World) (b:Nat):Prop where
 s:∀ o x,cellAt w b o ≠ some (.string x)
 u:∀ o x,cellAt w b o ≠ some (.int .u8 x)
 t:∀ o t x A n c,¬ (cellAt w b o=some (.bool t)/\cellAt w b (o+1)=some (.int .i64 x)/\cellAt w b (o+2)=some (.slice A n c))
def Alien [Ow] (w:World) (b:Nat):Prop:=Ow.O b->Alien0 w b
theorem by_ne0 {w:World} {A:Option Addr} {n:Nat} {b:Bs} (h:Sl w 1 A n (bys b)) (h0:n ≠ 0) {k:Nat} (hk:blkOf A=some k):¬ Alien0 w k:=by
 intro ha
 have hl:=by_n h
 obtain ⟨b',o,rfl,hc⟩:=h.2 (by omega)
 injection hk with hk
 have hk:b'=k:=hk
 subst hk
 cases hb:b with
 | nil=>rw [hb] at hl; simp at hl; omega
 | cons x r=>exact ha.u (o+0) x.toNat (hc 0 _ (by rw [hb]; rfl))
theorem by_ne [Ow] {w:World} {A:Option Addr} {n:Nat} {b:Bs} (h:Sl w 1 A n (bys b)) (ho:OkA w A n) (h0:n ≠ 0) {k:Nat} (hk:blkOf A=some k):¬ Alien w k :=
 fun ha=>by_ne0 h h0 hk (ha (ho.2 h0 k hk))
theorem by_fr0 {S:Nat->Prop} {w w':World} {A:Option Addr} {n:Nat} {b:Bs} (h:Sl w 1 A n (bys b)) (f:Fr S w w') (hS:∀ k,S k->Alien0 w k):Sl w' 1 A n (bys b) :=
 f.sl h (fun h0 k hk hs=>by_ne0 h h0 hk (hS k hs))
theorem by_fr [Ow] {S:Nat->Prop} {w w':World} {A:Option Addr} {n:Nat} {b:Bs} (h:Sl w 1 A n (bys b)) (ho:OkA w A n) (f:Fr S w w') (hS:∀ k,S k->Alien w k):Sl w' 1 A n (bys b) :=
 f.sl h (fun h0 k hk hs=>by_ne h ho h0 hk (hS k hs))
theorem WrP.fr [Ow] {S:Nat->Prop} {w w':World} {cs:List Value} {x:Wr} (h:WrP w cs x) (f:Fr S w w') (hS:∀ k,S k->Alien w k):WrP w' cs x:=by
 obtain ⟨B,m,k,e,h1,h2,h3⟩:=h
 exact ⟨B,m,k,e,by_fr h1 h3 f hS,h2,h3.fr f⟩
theorem WSl.fr [Ow] {S:Nat->Prop} {w w':World} {A:Option Addr} {n:Nat} {l:List Wr} (h:WSl w A n l) (ho:OkA w A n) (f:Fr S w w') (hS:∀ k,S k->Alien w k):WSl w' A n l:=by
 obtain ⟨vs,h1,h2,h3⟩:=h
 refine ⟨vs,f.sl h1 (fun h0 k hk hs=>?_),h2,h3.mono (fun cs x hx=>hx.fr f hS)⟩
 have hn:0 < n:=by omega
 have ha:=hS k hs (ho.2 (by omega) k hk)
 have gx:l[0]?=some (l[0]'(by omega)):=List.getElem?_eq_getElem (by omega)
 obtain ⟨b,o,rfl,hc,hl,B,m,k',e,_⟩:=ech_rd h1 h3 (by omega) gx hn
 injection hk with hk
 have hk:b=k:=hk
 subst hk
 rw [e] at hc
 have c0:cellAt w b (o+0 * 3+0)=some (.bool (l[0]'(by omega)).cut):=hc 0 _ rfl
 have c1:cellAt w b (o+0 * 3+0+1)=some (.int .i64 (l[0]'(by omega)).off):=hc 1 _ rfl
 have c2:cellAt w b (o+0 * 3+0+2)=some (.slice B m k'):=hc 2 _ rfl
 exact ha.t _ _ _ _ _ _ ⟨c0,c1,c2⟩
theorem InoAt.fr [Ow] {S:Nat->Prop} {w w':World} {cs:List Value} {x:Ino} (h:InoAt w cs x) (f:Fr S w w') (hS:∀ k,S k->Alien w k):InoAt w' cs x:=by
 obtain ⟨A,n,c,A',n',c',e,h1,h2,h3,h4,h5,h6⟩:=h
 exact ⟨A,n,c,A',n',c',e,by_fr h1 h5 f hS,h2,h3.fr h6 f hS,h4,h5.fr f,h6.fr f⟩
theorem InoAt.ok [Ow] {w:World} {cs:List Value} {x:Ino} (h:InoAt w cs x):OkA w none 0:=by
 obtain ⟨A,n,c,A',n',c',e,h1,h2,h3,h4,h5,h6⟩:=h
 exact h5.nil none
theorem InoAt.fr0 [Ow] {w w':World} {cs:List Value} {x:Ino} (h:InoAt w cs x) (f:Fr (fun _=>False) w w'):InoAt w' cs x:=h.fr f (fun _ h=>h.elim)
theorem WSl.fr0 [Ow] {w w':World} {A:Option Addr} {n:Nat} {l:List Wr} (h:WSl w A n l) (f:Fr (fun _=>False) w w'):WSl w' A n l:=by
 obtain ⟨vs,h1,h2,h3⟩:=h
 exact ⟨vs,f.sl h1 (fun _ _ _ h=>h),h2,h3.mono (fun cs x hx=>hx.fr f (fun _ h=>h.elim))⟩
theorem WrP.fr0 [Ow] {w w':World} {cs:List Value} {x:Wr} (h:WrP w cs x) (f:Fr (fun _=>False) w w'):WrP w' cs x:=h.fr f (fun _ h=>h.elim)
theorem nsl_fr [Ow] {S:Nat->Prop} {w w':World} {A:Option Addr} {n:Nat} {l:List Nm} (h:NSl w A n l) (ho:OkA w A n) (f:Fr S w w') (hS:∀ k,S k->Alien w k):NSl w' A n l:=by
 refine ⟨f.sl h.1 (fun h0 k hk hs=>?_),h.2⟩
 have ha:=hS k hs (ho.2 (by omega) k hk)
 have hl:=h.2
 obtain ⟨b,o,rfl,hc⟩:=h.1.2 (by omega)
 injection hk with hk
 have hk:b=k:=hk
 subst hk
 cases hb:l with
 | nil=>rw [hb] at hl; simp at hl; omega
 | cons x r=>exact ha.s (o+0) x.1 (hc 0 _ (by rw [hb,flt_cons]; rfl))
theorem csl_fr [Ow] {S:Nat->Prop} {w w':World} {A:Option Addr} {n:Nat} {l:List Ch} (h:CSl w A n l) (ho:OkA w A n) (f:Fr S w w') (hS:∀ k,S k->Alien w k):CSl w' A n l:=by
 refine ⟨f.sl h.1 (fun h0 k hk hs=>?_),h.2⟩
 have ha:=hS k hs (ho.2 (by omega) k hk)
 have hl:=h.2
 obtain ⟨b,o,rfl,hc⟩:=h.1.2 (by omega)
 injection hk with hk
 have hk:b=k:=hk
 subst hk
 cases hb:l with
 | nil=>rw [hb] at hl; simp at hl; omega
 | cons x r=>exact ha.s (o+1) x.nm (hc 1 _ (by rw [hb,flt_cons]; rfl))
theorem fo_fr [Ow] {S:Nat->Prop} {w w':World} {cs:List Value} {F:Fo} (h:FoAt w cs F) (f:Fr S w w') (hS:∀ k,S k->Alien w k):FoAt w' cs F:=by
 obtain ⟨A,n,c,A',n',c',e,h1,h2,h3,h4,h5⟩:=h
 exact ⟨A,n,c,A',n',c',e,nsl_fr h1 h4 f hS,csl_fr h2 h5 f hS,h3,h4.fr f,h5.fr f⟩
theorem map_alien0 {w:World} {r:Nat} {f:Int->Option Value} (h:MapI w r f):Alien0 w r:=by
 obtain ⟨m,c,h,_⟩:=h
 have h:w.heap[r]?=some (.map (m.map (mkE .i64)).toArray c):=h
 have e:∀ o,cellAt w r o=none:=fun o=>by
  unfold cellAt World.cell?
  simp only [h]
 exact ⟨fun o x hx=>(by rw [e] at hx; cases hx),fun o x hx=>(by rw [e] at hx; cases hx),fun o t x A n c hx=>(by rw [e] at hx; cases hx.1)⟩
theorem map_alien [Ow] {w:World} {r:Nat} {f:Int->Option Value} (h:MapI w r f):Alien w r:=fun _=>map_alien0 h
theorem wr_one [Ow] {w:World} {cs:List Value} {x:Wr} (h:WrP w cs x):cs.length=3/\∀ v ∈ cs,v.oneCell'=true:=by
 obtain ⟨B,m,k,rfl,_⟩:=h
 refine ⟨rfl,fun v hv=>?_⟩
 simp only [List.mem_cons,List.not_mem_nil,or_false] at hv
 rcases hv with rfl | rfl | rfl <;> rfl
theorem sl_nil0 {w:World} {A:Option Addr} {n:Nat} {vs:List Value} (h:Sl w 1 A n vs) (hA:A=none):n=0:=by
 by_cases h0:n=0
 ·exact h0
 ·obtain ⟨b,o,h1,_⟩:=h.2 h0
  rw [hA] at h1; cases h1
theorem clone_by (A:Option Addr) (n c:Nat) (b:Bs) (w:World) (h:Sl w 1 A n (bys b)) (hn:n<=1099511627776) :
  Calls Tryz.prog 28 #[.slice A n c] w fun e w'=>Fr (fun _=>False) w w'/\∃ A' c',e=.returned (.slice A' n c')/\Row w' w.heap.size 5 1 A' n c' (bys b):=by
 refine (F28.of A n c w (Q:=fun v w'=>Fr (fun _=>False) w w'/\∃ A' c',v=.slice A' n c'/\Row w' w.heap.size 5 1 A' n c' (bys b)) ?_).mono (fun e w' ⟨v,he,hf,A',c',hv,h⟩=>⟨hf,A',c',by rw [he,hv],h⟩)
 have hl:=by_n h
 refine vIf_mk (fun hA=>?_) (fun hA=>nw_mk ?_)
 ·have hA:A=none:=by simpa using hA
  have:=sl_nil0 h hA
  subst this
  have:b=[]:=List.length_eq_zero_iff.1 hl
  subst this
  exact ⟨Fr.refl _ _,none,0,rfl,Row.nil _ _ _ _⟩
 ·have f1:Fr (fun _=>False) w (w.alloc (.cells ([]:List Value).toArray 5)):=Fr.alloc _ _ _
  have r1:Row (w.alloc (.cells ([]:List Value).toArray 5)) w.heap.size 5 1 (some ⟨w.heap.size,0,none⟩) 0 0 []:=Row.new (Nat.le_refl _) rfl
  refine app_row r1 (f1.sl h (fun _ _ _ h=>h)).src (bvs_one b) rfl (by omega) (by omega) f1.size ?_
  intro A' c' w2 r2 f2
  rw [Nat.zero_add] at r2 ⊢
  rw [List.nil_append] at r2
  exact ⟨f1.trans f2 (fun _ _ h=>h) (fun k hk h=>by simp only [blkOf,Option.some.injEq] at h; omega),A',c',rfl,r2⟩
theorem right_calls [Ow] (cs:List Value) (x:Wr) (w:World) (h:WrP w cs x) (hd:x.data.length<=1099511627776) :
  Calls Tryz.prog 109 #[ofL cs] w fun e w'=>e=.returned (.bool (rightW x))/\Fr (fun _=>False) w w':=by
 refine (F109.of cs w (Q:=fun v w'=>v=.bool (rightW x)/\Fr (fun _=>False) w w') ?_).mono (fun e w' ⟨v,he,hv,h⟩=>⟨by rw [he,hv],h⟩)
 obtain ⟨B,m,k,rfl,h1,h2⟩:=h
 have hm:=by_n h1
 refine nw_mk ?_
 have q:=RecAt.new w ([.bool x.cut,.int .i64 x.off,.slice B m k]:List Value) 158
 have f1:Fr (fun _=>False) w (w.alloc (.cells ([.bool x.cut,.int .i64 x.off,.slice B m k]:List Value).toArray 158)):=Fr.alloc _ _ _
 have ew:IntKind.wrap .i64 (1048576 - ((m:Nat):Int))=1048576 - (m:Int):=i64_id (by omega) (by omega)
 refine ⟨_,q.cell (o:=0+1) rfl,vIf_mk (fun h=>⟨_,q.cell (o:=0+1) rfl,_,_,_,q.cell (o:=0+2) rfl,?_,f1⟩) (fun h=>⟨?_,f1⟩)⟩
 ·unfold rightW
  rw [h,Bool.true_and,ew,hm]
 ·unfold rightW
  rw [h,Bool.false_and]
theorem over_cells (b d:Bs) (o:Nat):splice (bys b ++ zeros (max b.length (o+d.length) - b.length) [Value.int .u8 0]) o (bys d)=bys (over b o d):=by
 have hl:(bys b ++ zeros (max b.length (o+d.length) - b.length) [Value.int .u8 0]).length=max b.length (o+d.length):=by
  rw [List.length_append,zeros_length]; simp [bys]; omega
 have hfit:o+(bys d).length<=(bys b ++ zeros (max b.length (o+d.length) - b.length) [Value.int .u8 0]).length:=by
  rw [hl]; simp [bys]; omega
 apply List.ext_getElem?
 intro j
 rw [splice_get hfit]
 have e:(bys (over b o d))[j]?=((over b o d)[j]?).map bv:=by simp [bys]
 rw [e,over_get]
 have hd:(bys d).length=d.length:=by simp [bys]
 have hb:(bys b).length=b.length:=by simp [bys]
 have zer:∀ i,i < max b.length (o+d.length) - b.length->(zeros (max b.length (o+d.length) - b.length) [Value.int .u8 0])[i]?=some (bv 0):=fun i hi=>by
  have h:=zeros_get [Value.int .u8 0] (max b.length (o+d.length) - b.length) i (by simpa using hi)
  rw [h]; simp [Nat.mod_one]; rfl
 rw [hd]
 by_cases h1:j < o
 ·rw [if_pos h1,if_pos h1]
  by_cases h2:j < b.length
  ·rw [if_pos h2,List.getElem?_append_left (by omega)]; simp [bys]
  ·rw [if_neg h2]
   rw [List.getElem?_append_right (by omega),hb,zer _ (by omega)]; rfl
 ·rw [if_neg h1,if_neg h1]
  by_cases h2:j < o+d.length
  ·rw [if_pos h2,if_pos h2]; simp [bys]
  ·rw [if_neg h2,if_neg h2]
   by_cases h3:j < b.length
   ·rw [List.getElem?_append_left (by omega)]; simp [bys]
   ·rw [List.getElem?_eq_none (by rw [hl]; omega),List.getElem?_eq_none (by omega)]; rfl
set_option maxHeartbeats 1000000 in
theorem apply_calls [Ow] (A:Option Addr) (n c:Nat) (b:Bs) (cs:List Value) (x:Wr) (w:World) (h:Sl w 1 A n (bys b)) (hc:n<=c) (hx:WrP w cs x) (hn:n<=1099511627776) (hd:x.data.length<=1099511627776) :
  Calls Tryz.prog 154 #[.slice A n c,ofL cs] w fun e w'=>Fr (fun _=>False) w w'/\∃ A' c',e=.returned (.slice A' (applyW b x).length c')/\Row w' w.heap.size 5 1 A' (applyW b x).length c' (bys (applyW b x)):=by
 refine (F154.of A n c cs w (Q:=fun v w'=>Fr (fun _=>False) w w'/\∃ A' c',v=.slice A' (applyW b x).length c'/\Row w' w.heap.size 5 1 A' (applyW b x).length c' (bys (applyW b x))) ?_).mono (fun e w' ⟨v,he,hf,A',c',hv,h⟩=>⟨hf,A',c',by rw [he,hv],h⟩)
 have hl:=by_n h
 have hone:=wr_one hx
 refine nw_mk ?_
 have q:=RecAt.new w cs 158
 have f1:Fr (fun _=>False) w (w.alloc (.cells cs.toArray 158)):=Fr.alloc _ _ _
 have s1:(w.alloc (.cells cs.toArray 158)).heap.size=w.heap.size+1:=alloc_size _ _
 generalize hb1:w.heap.size=b1 at q s1
 generalize w.alloc (.cells cs.toArray 158)=w2 at f1 q s1 ⊢
 refine ⟨cs,hone.1,q.cells (fun j v hj=>by rw [Nat.zero_add]; exact hj),(right_calls cs x w2 (hx.fr0 f1) hd).mono ?_⟩
 rintro e w4 ⟨rfl,f4⟩
 have q:=q.fr f4 (fun h=>h)
 have f:=f1.trans1 f4
 have hx4:=hx.fr0 f
 have h4:=f.sl h (fun _ _ _ h=>h)
 have hs4:=f.size
 obtain ⟨B,m,k,ecs,hB,hmk⟩:=hx4
 subst ecs
 have hm:=by_n hB
 have same:applyW b x=b->jnC (F154.k2 (fun v w'=>Fr (fun _=>False) w w'/\∃ A' c',v=.slice A' (applyW b x).length c'/\Row w' b1 5 1 A' (applyW b x).length c' (bys (applyW b x)))) ((A,n,c),(b1,0),true,()) w4:=by
  intro e
  refine jnC_mk (fun _=>vIf_t rfl ((clone_by A n c b w4 h4 hn).mono ?_))
  rintro r w5 ⟨f5,A',c',rfl,h5⟩
  refine ⟨_,_,_,rfl,f.trans1 f5,A',c',by rw [e,hl],?_⟩
  rw [e,hl]
  refine ⟨h5.len,h5.le,?_⟩
  rcases h5.at_ with h' | ⟨b',cs',q1,q2,q3⟩
  ·exact .inl h'
  ·exact .inr ⟨b',cs',q1,by omega,q3⟩
 have some:rightW x=true->(x.cut=false->x.data ≠ [])->jnC (F154.k2 (fun v w'=>Fr (fun _=>False) w w'/\∃ A' c',v=.slice A' (applyW b x).length c'/\Row w' b1 5 1 A' (applyW b x).length c' (bys (applyW b x)))) ((A,n,c),(b1,0),false,()) w4:=by
  intro hr hne
  have hro:=right_iff.1 hr
  have hno:¬ (rightW x=false\/(x.cut=false/\x.data=[])):=fun h=>h.elim (fun h=>by rw [hr] at h; cases h) (fun h=>hne h.1 h.2)
  refine jnC_mk (fun _=>vIf_f rfl ⟨_,q.cell (o:=0) rfl,vIf_mk (fun hcut=>⟨_,q.cell (o:=0+1) rfl,?_⟩) (fun hcut=>jnC_mk (fun _=>⟨_,q.cell (o:=0+1) rfl,_,_,_,q.cell (o:=0+2) rfl,?_⟩))⟩)
  ·have e:applyW b x=b.take x.off.toNat:=by
    unfold applyW
    rw [if_neg hno,if_pos hcut]
   obtain ⟨t,ht,htn,hte⟩:∃ t:Nat,(if ((n:Nat):Int) < x.off then ((n:Nat):Int) else x.off)=(t:Int)/\t<=n/\b.take x.off.toNat=b.take t:=by
    by_cases h0:(n:Int) < x.off
    ·exact ⟨n,by rw [if_pos h0],Nat.le_refl _,by rw [List.take_of_length_le (by omega),List.take_of_length_le (by omega)]⟩
    ·exact ⟨x.off.toNat,by rw [if_neg h0]; omega,by omega,rfl⟩
   dsimp only
   rw [ht]
   have hsl:=sl_cut0 (c:=c) h4 htn
   have hsl:Sl w4 1 (slA A c 0 1) t (bys (b.take t)):=by
    have e2:bys (b.take t)=(bys b).take (t * 1):=by simp [bys,List.map_take]
    rw [e2]; exact hsl
   refine gd_mk (decide_eq_true (by omega)) (gd_mk (decide_eq_true (by omega)) ?_)
   rw [Int.toNat_natCast]
   refine (clone_by (slA A c 0 1) t c (b.take t) w4 hsl (by omega)).mono ?_
   rintro r w5 ⟨f5,A',c',rfl,h5⟩
   have hlt:(b.take t).length=t:=by rw [List.length_take]; omega
   refine ⟨_,_,_,rfl,f.trans1 f5,A',c',by rw [e,hte,hlt],?_⟩
   rw [e,hte,hlt]
   refine ⟨h5.len,h5.le,?_⟩
   rcases h5.at_ with h' | ⟨b',cs',q1,q2,q3⟩
   ·exact .inl h'
   ·exact .inr ⟨b',cs',q1,by omega,q3⟩
  ·have hcut:x.cut=false:=hcut
   have e:applyW b x=over b x.off.toNat x.data:=by
    unfold applyW
    rw [if_neg hno,if_neg (by rw [hcut]; decide)]
   obtain ⟨o,ho⟩:∃ o:Nat,x.off=(o:Int):=⟨x.off.toNat,by omega⟩
   have hol:o+m<=1048576:=by omega
   have ew:IntKind.wrap .i64 (x.off+((m:Nat):Int))=((o+m:Nat):Int):=by rw [i64_id (by omega) (by omega)]; omega
   obtain ⟨N,hN,hNe⟩:∃ N:Nat,(if ((n:Nat):Int) < IntKind.wrap .i64 (x.off+((m:Nat):Int)) then IntKind.wrap .i64 (x.off+((m:Nat):Int)) else ((n:Nat):Int))=(N:Int)/\N=max n (o+m):=by
    rw [ew]
    refine ⟨max n (o+m),?_,rfl⟩
    split <;> omega
   dsimp only
   rw [hN]
   refine gd_mk (decide_eq_true (by omega)) (gd_mk (decide_eq_true (by omega)) (gd_mk (decide_eq_true (by omega)) (nw_mk ?_)))
   rw [Int.toNat_natCast]
   have r3:Row (w4.alloc (.cells (zeros N [Value.int .u8 0]).toArray 5)) b1 5 1 (some ⟨w4.heap.size,0,none⟩) N N (zeros N [Value.int .u8 0]):=Row.made (by omega) rfl (Nat.le_refl _)
   have f3:Fr (fun _=>False) w4 (w4.alloc (.cells (zeros N [Value.int .u8 0]).toArray 5)):=Fr.alloc _ _ _
   generalize hb3:w4.heap.size=b3 at r3 ⊢
   generalize w4.alloc (.cells (zeros N [Value.int .u8 0]).toArray 5)=w5 at r3 f3 ⊢
   have h5:=f3.sl h4 (fun _ _ _ h=>h)
   have hbl:(bys b).length=n * 1:=by simp [bys]; omega
   have cp:=cpy_row (k:=0) (x:=.slice A n c) (m:=n) (us:=bys b) r3 h5.src hbl (Nat.zero_le _) (fun v hv=>bvs_one b v (List.mem_of_mem_take hv)) (K:=fun n25 w26 =>
    ldI .i64 w26.drew b1 (0+1) fun i27 =>
    gd (decide (0<=i27)) <|
    gd (decide (i27<=((N:Nat):Int))) <|
    ldSl w26.drew b1 (0+2) fun A28 n29 c30 =>
    cpy w26.drew 1 (slA (some ⟨b3,0,none⟩) N (i27).toNat 1) (N - (i27).toNat) (Value.slice A28 n29 c30) fun n31 w32 =>
    (fun v w'=>Fr (fun _=>False) w w'/\∃ A' c',v=.slice A' (applyW b x).length c'/\Row w' b1 5 1 A' (applyW b x).length c' (bys (applyW b x))) (Value.slice (some ⟨b3,0,none⟩) N N) w32) (fun w6 r6 f6=>?_)
   ·rw [sl0,Nat.sub_zero] at cp
    exact cp
   ·have f6d:=f6.trans (Fr.drew (fun _=>False) w6) (U:=fun k=>blkOf (some (⟨b3,0,none⟩:Addr))=some k) (fun _ _ h=>h) (fun _ _ h=>h.elim)
    have q6:=(q.fr f3 (fun h=>h)).fr f6d (fun h=>by
     simp only [blkOf,Option.some.injEq] at h
     have:=q.lt; omega)
    have hB6:Sl w6.drew 1 B m (bys x.data):=f6d.sl (f3.sl hB (fun _ _ _ h=>h)) (fun h0 k hk h=>by
     simp only [blkOf,Option.some.injEq] at h
     have:=hB.blt (by omega) h0 hk
     omega)
    have r6d:=(Fr.drew (fun _=>False) w6).row r6 (fun _ _ h=>h)
    have f6':Fr (fun _=>False) w4 w6.drew:=f3.trans f6d (fun _ _ h=>h) (fun k hk h=>by
     simp only [blkOf,Option.some.injEq] at h
     omega)
    generalize w6.drew=w7 at q6 hB6 r6d f6' ⊢
    refine ⟨_,q6.cell (o:=0+1) rfl,?_⟩
    rw [ho]
    refine gd_mk (decide_eq_true (by omega)) (gd_mk (decide_eq_true (by omega)) ⟨_,_,_,q6.cell (o:=0+2) rfl,?_⟩)
    rw [Int.toNat_natCast]
    have hdl:(bys x.data).length=m * 1:=by simp [bys]; omega
    refine cpy_row (k:=o) (us:=bys x.data) r6d hB6.src hdl (by omega) (fun v hv=>bvs_one x.data v (List.mem_of_mem_take hv)) (fun w8 r8 f8=>⟨?_,some ⟨b3,0,none⟩,N,?_,?_⟩)
    ·exact (f.trans1 f6').trans f8 (fun _ _ h=>h) (fun k hk h=>by
      simp only [blkOf,Option.some.injEq] at h
      omega)
    ·rw [e,over_len,ho,Int.toNat_natCast,hl,hm,hNe]
    ·have hmin1:min n (N - 0)=n:=by omega
     have hmin2:min m (N - o)=m:=by omega
     have ez:splice (zeros N [Value.int .u8 0]) (0 * 1) ((bys b).take (min n (N - 0) * 1))=bys b ++ zeros (N - n) [Value.int .u8 0]:=by
      rw [hmin1,List.take_of_length_le (by omega)]
      unfold splice
      rw [Nat.zero_mul,List.take_zero,List.nil_append,Nat.zero_add,hbl]
      congr 1
      have e3:zeros N [Value.int .u8 0]=zeros n [Value.int .u8 0] ++ zeros (N - n) [Value.int .u8 0]:=by
       unfold zeros
       rw [<- List.flatten_append,List.replicate_append_replicate]
       congr 2; omega
      rw [e3,List.drop_append_of_le_length (by rw [zeros_length]; simp),List.drop_of_length_le (by rw [zeros_length]; simp),List.nil_append]
     rw [ez,hmin2,List.take_of_length_le (by omega),Nat.mul_one] at r8
     have eo:=over_cells b x.data o
     rw [hl,hm,<- hNe] at eo
     rw [eo] at r8
     rw [e,over_len,ho,Int.toNat_natCast,hl,hm,<- hNe]
     exact r8
 refine ⟨_,rfl,vIf_mk (fun hr=>same ?_) (fun hr=>⟨_,q.cell (o:=0) rfl,vIf_mk (fun hcut=>⟨_,_,_,q.cell (o:=0+2) rfl,?_⟩) (fun hcut=>some ?_ ?_)⟩)⟩
 ·have hr:rightW x=false:=by simpa using hr
  unfold applyW
  rw [if_pos (.inl hr)]
 ·have hr:rightW x=true:=by simpa using hr
  have hcut:x.cut=false:=by simpa using hcut
  dsimp only
  cases hm0:(((m:Nat):Int) == 0) with
  | true =>
   refine same ?_
   have hm0:(m:Int)=0:=by simpa using hm0
   have hd0:x.data=[]:=List.length_eq_zero_iff.1 (by omega)
   unfold applyW
   rw [if_pos (.inr ⟨hcut,hd0⟩)]
  | false =>
   refine some hr (fun _ hd0=>?_)
   have hm0:¬ (m:Int)=0:=by simpa using hm0
   rw [hd0] at hm
   simp at hm
   omega
 ·simpa using hr
 ·intro hc2
  have hcut:x.cut=true:=by simpa using hcut
  rw [hcut] at hc2; cases hc2
theorem row_lowB {u:World} {B B':Nat} {e:TypeId} {sz:Nat} {A:Option Addr} {k c:Nat} {vs:List Value} (hB:B'<=B) (hr:Row u B e sz A k c vs):Row u B' e sz A k c vs:=by
 refine ⟨hr.len,hr.le,?_⟩
 rcases hr.at_ with h' | ⟨b',cs',q1,q2,q3⟩
 ·exact .inl h'
 ·exact .inr ⟨b',cs',q1,by omega,q3⟩
theorem var_new {w:World} {z cs:List Value} {e:TypeId} {sz:Nat} (hz:z.length=sz) (hc:cs.length=sz) (ho:∀ v ∈ cs,v.oneCell'=true) {K:Nat->World->Prop} (hK:∀ b w',Fr (fun _=>False) w w'->w.heap.size<=b->RecAt w' b e cs->K b w') :
  nw w z e fun b w1=>gd (cs.length == sz) (st w1 b 0 cs fun w2=>K b w2):=by
 refine nw_mk (gd_mk (by rw [hc]; simp) ?_)
 have f1:Fr (fun _=>False) w (w.alloc (.cells z.toArray e)):=Fr.alloc _ _ _
 have r1:=RecAt.new w z e
 generalize hb:w.heap.size=b at r1 ⊢
 generalize w.alloc (.cells z.toArray e)=w1 at f1 r1 ⊢
 refine r1.st_mk (o:=0) (by rw [hc,hz]; omega) ho (fun r2 f2=>hK _ _ (f1.trans f2 (fun _ _ h=>h) (fun k hk h=>by omega)) (by omega) ?_)
 rw [splice_full (by rw [hc,hz])] at r2
 exact r2
theorem rec_all {w:World} {b:Nat} {e:TypeId} {cs:List Value} (h:RecAt w b e cs):cellsAt w b 0 cs:=h.cells (fun j v hj=>by simpa using hj)
theorem all1_calls [Ow] (i:Int) (cs:List Value) (x:Wr) (w:World) (h:WrP w cs x) :
  Calls Tryz.prog 133 #[.int .i64 i,ofL cs] w fun e w'=>Fr (fun _=>False) w w'/\e=.returned (.tuple #[ofL cs,.bool true]):=by
 refine (F133.of i cs w (Q:=fun v w'=>Fr (fun _=>False) w w'/\v=.tuple #[ofL cs,.bool true]) ?_).mono (fun e w' ⟨v,he,hf,hv⟩=>⟨hf,by rw [he,hv]⟩)
 have hone:=wr_one h
 refine nw_mk ?_
 have q:=RecAt.new w cs 158
 have f1:Fr (fun _=>False) w (w.alloc (.cells cs.toArray 158)):=Fr.alloc _ _ _
 generalize w.heap.size=b1 at q ⊢
 generalize w.alloc (.cells cs.toArray 158)=w2 at f1 q ⊢
 refine nw_mk ?_
 have p:=RecAt.new w2 [Value.bool false,Value.int .i64 0,Value.slice none 0 0] 158
 have f2:Fr (fun _=>False) w2 (w2.alloc (.cells [Value.bool false,Value.int .i64 0,Value.slice none 0 0].toArray 158)):=Fr.alloc _ _ _
 have q:=q.fr f2 (fun h=>h)
 generalize hb3:w2.heap.size=b3 at p ⊢
 generalize w2.alloc (.cells [Value.bool false,Value.int .i64 0,Value.slice none 0 0].toArray 158)=w4 at f2 q p ⊢
 refine ⟨cs,hone.1,rec_all q,gd_mk (by rw [hone.1]; rfl) (p.st_mk (o:=0) (by show 0+cs.length<=3; rw [hone.1]; omega) hone.2 (fun p f3=>?_))⟩
 rw [splice_full (by rw [hone.1]; rfl)] at p
 exact ⟨cs,hone.1,rec_all p,(f1.trans1 f2).trans f3 (fun _ _ h=>h) (fun k hk h=>by have:=f1.size; omega),rfl⟩
theorem all_le {b:Bs} {l:List Wr} (hb:b.length<=1048576):(allW b l).length<=1048576:=by
 have h1:=allW_len l b
 have h2:=peakW_le l (n:=(b.length:Int)) (by omega)
 omega
theorem takeW {l:List Wr} {i:Nat} {x:Wr} (h:l[i]?=some x):l.take (i+1)=l.take i ++ [x]:=by rw [List.take_add_one,h]; rfl
set_option maxHeartbeats 1000000 in
theorem all_calls [Ow] (A:Option Addr) (n c:Nat) (b:Bs) (A':Option Addr) (n' c':Nat) (l:List Wr) (w:World) (h:Sl w 1 A n (bys b)) (hl:WSl w A' n' l) (hb:b.length<=1048576) (hn:n'<=1099511627775) (hd:∀ x ∈ l,x.data.length<=1048576) :
  Calls Tryz.prog 102 #[.slice A n c,.slice A' n' c'] w fun e w'=>Fr (fun _=>False) w w'/\∃ B k,e=.returned (.slice B (allW b l).length k)/\Row w' w.heap.size 5 1 B (allW b l).length k (bys (allW b l)):=by
 refine (F102.of A n c A' n' c' w (Q:=fun v w'=>Fr (fun _=>False) w w'/\∃ B k,v=.slice B (allW b l).length k/\Row w' w.heap.size 5 1 B (allW b l).length k (bys (allW b l))) ?_).mono (fun e w' ⟨v,he,hf,B,k,hv,h⟩=>⟨hf,B,k,by rw [he,hv],h⟩)
 have hbl:=by_n h
 have hwl:l.length=n':=by obtain ⟨vs,_,h2,_⟩:=hl; exact h2
 have key:Calls Tryz.prog 132 #[.slice A n c,.slice A' n' c',.func (.func 133) #[] #[]] w fun e w'=>Fr (fun _=>False) w w'/\∃ B k,e=.returned (.slice B (allW b l).length k)/\Row w' w.heap.size 5 1 B (allW b l).length k (bys (allW b l)):=by
  refine (F132a.of A n c A' n' c' w (Q:=fun v w'=>Fr (fun _=>False) w w'/\∃ B k,v=.slice B (allW b l).length k/\Row w' w.heap.size 5 1 B (allW b l).length k (bys (allW b l))) ?_).mono (fun e w' ⟨v,he,hf,B,k,hv,h⟩=>⟨hf,B,k,by rw [he,hv],h⟩)
  refine (clone_by A n c b w h (by omega)).mono ?_
  rintro e w1 ⟨f1,B,k,rfl,h1⟩
  refine ⟨_,_,_,rfl,jnC_mk (loop_rule (fun s v=>Fr (fun _=>False) w v/\∃ (i:Nat) (B:Option Addr) (k:Nat),i<=n'/\s=((),(B,(allW b (l.take i)).length,k),(A',n',c'),((n':Nat):Int),(i:Int),())/\Row v w.heap.size 5 1 B (allW b (l.take i)).length k (bys (allW b (l.take i))))
   (fun s _=>(n' - s.2.2.2.2.1).toNat) ?_ _ _ ⟨f1,0,B,k,by omega,by rw [List.take_zero,<- hbl]; rfl,by rw [List.take_zero,show (allW b []).length=n from hbl]; exact h1⟩)⟩
  rintro s v C ⟨hf,i,B,k,hi,rfl,hr⟩ hC _
  have hal:=all_le (l:=l.take i) hb
  refine vIf_mk (fun hlt=>?_) (fun hge=>?_)
  ·have hlt2:(i:Int) < (n':Int):=of_decide_eq_true hlt
   have gi:l[i]?=some (l[i]'(by omega)):=List.getElem?_eq_getElem (by omega)
   generalize l[i]'(by omega)=x at gi
   have hxd:=hd x (List.mem_of_getElem? gi)
   obtain ⟨vs,hs,_,hE⟩:=hl.fr0 hf
   refine el_all hs hE (by omega) gi (by omega) (fun cs hc hx=>var_new rfl hc (wr_one hx).2 (fun b9 w11 g1 hb9 r9=>⟨cs,hc,rec_all r9,?_⟩))
   have hf1:=hf.trans1 g1
   refine (all1_calls i cs x w11 (hx.fr0 g1)).mono ?_
   rintro e w13 ⟨g2,rfl⟩
   have g12:=g1.trans1 g2
   refine ⟨_,_,rfl,var_new rfl hc (wr_one hx).2 (fun b17 w19 g3 hb17 r17=>vIf_t rfl ⟨cs,hc,rec_all r17,?_⟩)⟩
   have g123:=g12.trans1 g3
   refine (apply_calls B _ k (allW b (l.take i)) cs x w19 (g123.row hr (fun _ _ h=>h)).sl hr.le (hx.fr0 g123) (by omega) (by omega)).mono ?_
   rintro e w21 ⟨g4,B2,k2,rfl,h2⟩
   have hsz:=(hf.trans1 g123).size
   have en:allW b (l.take (i+1))=applyW (allW b (l.take i)) x:=by rw [takeW gi,allW_snoc]
   refine ⟨_,_,_,rfl,jnC_mk (hC _ _ ⟨(hf.trans1 g123).trans1 g4,i+1,B2,k2,by omega,by rw [ei i (by omega),en],by rw [en]; exact row_lowB hsz h2⟩ ?_)⟩
   show ((n':Int) - IntKind.wrap .i64 ((i:Int)+1)).toNat < ((n':Int) - (i:Int)).toNat
   rw [ei i (by omega)]; omega
  ·have hge2:¬ (i:Int) < (n':Int):=of_decide_eq_false hge
   have e:l.take i=l:=List.take_of_length_le (by omega)
   rw [e] at hr ⊢
   exact ⟨hf,B,k,rfl,hr⟩
 refine key.mono ?_
 rintro e w1 ⟨f1,B,k,rfl,h1⟩
 exact ⟨_,_,_,rfl,f1,B,k,rfl,h1⟩
set_option maxHeartbeats 1000000 in
theorem peak_calls [Ow] (m:Int) (A:Option Addr) (n c:Nat) (l:List Wr) (w:World) (hl:WSl w A n l) (hn:n<=1099511627775) (hd:∀ x ∈ l,x.data.length<=1048576) :
  Calls Tryz.prog 84 #[.int .i64 m,.slice A n c] w fun e w'=>e=.returned (.int .i64 (peakW m l))/\Fr (fun _=>False) w w':=by
 refine (F84.of m A n c w (Q:=fun v w'=>v=.int .i64 (peakW m l)/\Fr (fun _=>False) w w') ?_).mono (fun e w' ⟨v,he,hv,h⟩=>⟨by rw [he,hv],h⟩)
 have hwl:l.length=n:=by obtain ⟨vs,_,h2,_⟩:=hl; exact h2
 refine jnC_mk (loop_rule (fun s v=>Fr (fun _=>False) w v/\∃ (i:Nat),i<=n/\s=(peakW m (l.take i),(A,n,c),((n:Nat):Int),(i:Int),()))
  (fun s _=>(n - s.2.2.2.1).toNat) ?_ _ _ ⟨Fr.refl _ _,0,by omega,rfl⟩)
 rintro s v C ⟨hf,i,hi,rfl⟩ hC _
 have ms:((n:Int) - IntKind.wrap .i64 ((i:Int)+1)).toNat < ((n:Int) - (i:Int)).toNat\/¬ i < n:=by
  by_cases h:i < n
  ·left; rw [ei i (by omega)]; omega
  ·exact .inr h
 refine vIf_mk (fun hlt=>?_) (fun hge=>?_)
 ·have hlt2:(i:Int) < (n:Int):=of_decide_eq_true hlt
  have gi:l[i]?=some (l[i]'(by omega)):=List.getElem?_eq_getElem (by omega)
  generalize l[i]'(by omega)=x at gi
  have hxd:=hd x (List.mem_of_getElem? gi)
  obtain ⟨vs,hs,_,hE⟩:=hl.fr0 hf
  refine el_all hs hE (by omega) gi (by omega) (fun cs hc hx=>var_new rfl hc (wr_one hx).2 (fun b4 w6 g1 hb4 r4=>⟨cs,hc,rec_all r4,?_⟩))
  have hf1:=hf.trans1 g1
  refine (right_calls cs x w6 (hx.fr0 g1) (by omega)).mono ?_
  rintro e w8 ⟨rfl,g2⟩
  have r4:=r4.fr g2 (fun h=>h)
  have hf2:=hf1.trans1 g2
  obtain ⟨B,k,k',ecs,hB,hkk⟩:=hx
  subst ecs
  have hk:=by_n hB
  have k5:∀ t:Bool,t=decide (rightW x=true/\x.cut=false/\x.data ≠ [])->jnC (F84.k5 (fun v w'=>v=.int .i64 (peakW m l)/\Fr (fun _=>False) w w') C) (peakW m (l.take i),(b4,0),(A,n,c),((n:Nat):Int),(i:Int),t,()) w8:=by
   intro t ht
   refine jnC_mk (fun _=>vIf_mk (fun h1=>⟨_,r4.cell (o:=0+1) rfl,_,_,_,r4.cell (o:=0+2) rfl,jnC_mk (hC _ _ ⟨hf2,i+1,by omega,?_⟩ (ms.resolve_right (by omega)))⟩) (fun h1=>jnC_mk (hC _ _ ⟨hf2,i+1,by omega,?_⟩ (ms.resolve_right (by omega)))))
   ·have h1:t=true:=h1
    rw [h1] at ht
    have hp:=of_decide_eq_true ht.symm
    have hro:=right_iff.1 hp.1
    have ew:IntKind.wrap .i64 (x.off+((k:Nat):Int))=x.off+(x.data.length:Int):=by rw [i64_id (by omega) (by omega)]; omega
    rw [ei i (by omega),takeW gi,peakW_snoc,endW_pos hp,ew]
   ·have h1:t=false:=h1
    rw [h1] at ht
    have hp:=of_decide_eq_false ht.symm
    rw [ei i (by omega),takeW gi,peakW_snoc,endW_neg hp]
  refine ⟨_,rfl,vIf_mk (fun hr=>⟨_,r4.cell (o:=0) rfl,vIf_mk (fun hcut=>⟨_,_,_,r4.cell (o:=0+2) rfl,k5 _ ?_⟩) (fun hcut=>k5 _ ?_)⟩) (fun hr=>k5 _ ?_)⟩
  ·have hr:rightW x=true:=hr
   have hcut:x.cut=false:=by simpa using hcut
   rw [Bool.eq_iff_iff,decide_eq_true_iff,decide_eq_true_iff]
   constructor
   ·intro h
    refine ⟨hr,hcut,fun e=>?_⟩
    rw [e] at hk
    simp at hk
    omega
   ·rintro ⟨_,_,h⟩
    have:x.data.length ≠ 0:=fun e=>h (List.length_eq_zero_iff.1 e)
    omega
  ·have hcut:x.cut=true:=by simpa using hcut
   symm
   exact decide_eq_false (fun h=>by rw [hcut] at h; cases h.2.1)
  ·have hr:rightW x=false:=hr
   symm
   exact decide_eq_false (fun h=>by rw [hr] at h; cases h.1)
 ·have hge2:¬ (i:Int) < (n:Int):=of_decide_eq_false hge
  have e:l.take i=l:=List.take_of_length_le (by omega)
  rw [e]
  exact ⟨rfl,hf⟩
abbrev ZW:List Value:=[Value.bool false,Value.int .i64 0,Value.slice none 0 0]
theorem zw_one:∀ v ∈ ZW,v.oneCell'=true:=by
 intro v hv
 simp only [List.mem_cons,List.not_mem_nil,or_false] at hv
 rcases hv with rfl | rfl | rfl <;> rfl
def totW (ls:List (Nat×List Value)):Nat:=(ls.map (·.1)).sum
def celW (ls:List (Nat×List Value)):List Value:=(ls.map (·.2)).flatten
theorem totW_step {ls:List (Nat×List Value)} {i:Nat} {l:Nat×List Value} (h:ls[i]?=some l):totW (ls.take (i+1))=totW (ls.take i)+l.1/\celW (ls.take (i+1))=celW (ls.take i) ++ l.2:=by
 unfold totW celW
 rw [List.take_add_one,h]; simp
theorem totW_le (ls:List (Nat×List Value)) (i:Nat):totW (ls.take i)<=totW ls:=by
 have h:totW ls=totW (ls.take i)+totW (ls.drop i):=by
  unfold totW
  rw [<- List.sum_append,<- List.map_append,List.take_append_drop]
 omega
theorem growW_calls (m:Nat) (w:World) (hm:m<=1099511627776) :
  Calls Tryz.prog 153 #[.slice none 0 0,.int .i64 m] w fun e w'=>Fr (fun _=>False) w w'/\∃ A' c',e=.returned (.slice A' 0 c')/\Row w' w.heap.size 158 3 A' 0 c' []:=by
 refine (F153.of none 0 0 m w (Q:=fun v w'=>Fr (fun _=>False) w w'/\∃ A' c',v=.slice A' 0 c'/\Row w' w.heap.size 158 3 A' 0 c' []) ?_).mono (fun e w' ⟨v,he,hf,A',c',hv,h⟩=>⟨hf,A',c',by rw [he,hv],h⟩)
 refine vIf_f (decide_eq_false (by omega)) (jnC_mk (fun _=>?_))
 have e0:IntKind.wrap .i64 ((m:Int) - IntKind.wrap .i64 (((0:Nat):Int) - ((0:Nat):Int)))=m:=by
  rw [i64_id (n:=((0:Nat):Int) - ((0:Nat):Int)) (by omega) (by omega),i64_id (by omega) (by omega)]; omega
 show vIf (decide (IntKind.wrap .i64 ((m:Int) - IntKind.wrap .i64 (((0:Nat):Int) - ((0:Nat):Int))) > 0)) _ _
 refine vIf_mk (fun h0=>?_) (fun h0=>⟨Fr.refl _ _,none,0,rfl,Row.nil _ _ _ _⟩)
 refine gd_mk rfl (gd_mk rfl ?_)
 show appZ w 3 40 ZW 158 none 0 0 (IntKind.wrap .i64 ((m:Int) - IntKind.wrap .i64 (((0:Nat):Int) - ((0:Nat):Int)))) _
 refine appZ_row (Row.nil w w.heap.size 158 3) (m:=m) (by rw [e0,i64_id (by omega) (by omega)]) (by omega) zw_one rfl (by omega) (by omega) (Nat.le_refl _) ?_
 intro A' c' w2 r2 f2
 refine gd_mk rfl (gd_mk (decide_eq_true (by show ((0:Nat):Int)<=(c':Int); omega)) ⟨f2.mono (fun _ _ h=>by simp [blkOf] at h),_,c',rfl,?_⟩)
 have hsl:slA A' c' 0 3=A':=by
  unfold slA
  split
  ·rfl
  ·cases A' with
   | none=>rfl
   | some a=>simp [Addr.add]
 show Row w2 w.heap.size 158 3 (slA A' c' 0 3) 0 c' []
 rw [hsl]
 refine ⟨rfl,Nat.zero_le _,?_⟩
 rcases r2.at_ with ⟨h1,h2,h3⟩ | ⟨b,cs,h1,h2,h3,h4,h5⟩
 ·exact .inl ⟨h1,rfl,h3⟩
 ·exact .inr ⟨b,cs,h1,h2,h3,h4,by simp⟩
theorem concatW_calls (A:Option Addr) (n c:Nat) (vs:List Value) (ls:List (Nat×List Value)) (w:World) (h:Sl w 1 A n vs) (hn:n=ls.length) (hs:∀ (i:Nat) (l:Nat×List Value),ls[i]?=some l->∃ (B:Option Addr) (k:Nat),vs[i]?=some (Value.slice B l.1 k)/\Sl w 3 B l.1 l.2/\∀ v ∈ l.2,v.oneCell'=true)
  (hm:totW ls<=1099511627776) (hn2:n<=1099511627776) :
  Calls Tryz.prog 131 #[.slice A n c] w fun e w'=>Fr (fun _=>False) w w'/\∃ A' c',e=.returned (.slice A' (totW ls) c')/\Row w' w.heap.size 158 3 A' (totW ls) c' (celW ls):=by
 refine (F131.of A n c w (Q:=fun v w'=>Fr (fun _=>False) w w'/\∃ A' c',v=.slice A' (totW ls) c'/\Row w' w.heap.size 158 3 A' (totW ls) c' (celW ls)) ?_).mono (fun e w' ⟨v,he,hf,A',c',hv,h⟩=>⟨hf,A',c',by rw [he,hv],h⟩)
 refine jnC_mk ?_
 refine loop_rule (fun s u=>u=w/\∃ i:Nat,i<=n/\s=((A,n,c),((totW (ls.take i):Nat):Int),(A,n,c),(n:Int),(i:Int),()))
  (fun s _=>(n - s.2.2.2.2.1).toNat) ?_ _ _ ⟨rfl,0,by omega,rfl⟩
 rintro s u C ⟨rfl,i,hi,rfl⟩ hC _
 refine vIf_mk (fun hlt=>?_) (fun hge=>?_)
 ·have hlt2:(i:Int) < n:=of_decide_eq_true hlt
  obtain ⟨l,hl⟩:∃ l,ls[i]?=some l:=⟨_,List.getElem?_eq_getElem (by omega)⟩
  obtain ⟨B,k,hv,hB,_⟩:=hs i l hl
  obtain ⟨b,o,hA',hc⟩:=h.get (i:=i) (by omega) hv
  subst hA'
  have h1:=totW_le ls (i+1)
  have h2:=(totW_step hl).1
  have e1:IntKind.wrap .i64 (((totW (ls.take i):Nat):Int)+((l.1:Nat):Int))=((totW (ls.take (i+1)):Nat):Int):=by
   rw [i64_id (by omega) (by omega)]; omega
  refine dr_mk (gd_mk (decide_eq_true (Int.natCast_nonneg i)) (gd_mk (decide_eq_true hlt2) ⟨B,l.1,k,hc,vIf_f (decide_eq_false ?_) (jnC_mk (hC _ _ ⟨rfl,i+1,by omega,?_⟩ ?_))⟩))
  ·show ¬ (IntKind.wrap .i64 (((totW (ls.take i):Nat):Int)+((l.1:Nat):Int)) < 0)
   rw [e1]; omega
  ·show ((_,n,c),IntKind.wrap .i64 (((totW (ls.take i):Nat):Int)+((l.1:Nat):Int)),(_,n,c),(n:Int),IntKind.wrap .i64 ((i:Int)+1),())=_
   rw [e1,i64_id (by omega) (by omega)]; rfl
  ·show ((n:Int) - IntKind.wrap .i64 ((i:Int)+1)).toNat < ((n:Int) - i).toNat
   rw [i64_id (by omega) (by omega)]; omega
 ·have hge2:¬ ((i:Int) < n):=of_decide_eq_false hge
  have hin:i=ls.length:=by omega
  subst hin
  show Calls Tryz.prog 153 #[.slice none 0 0,.int .i64 ((totW (ls.take ls.length):Nat):Int)] u _
  rw [List.take_length]
  refine (growW_calls _ u hm).mono ?_
  rintro e w1 ⟨f1,R,rc,rfl,r1⟩
  refine ⟨R,0,rc,rfl,jnC_mk ?_⟩
  refine loop_rule (fun s x=>Fr (fun _=>False) u x/\∃ (i:Nat) (R:Option Addr) (rc:Nat),i<=n/\s=((R,totW (ls.take i),rc),(A,n,c),(n:Int),(i:Int),())/\Row x u.heap.size 158 3 R (totW (ls.take i)) rc (celW (ls.take i)))
   (fun s _=>(n - s.2.2.2.1).toNat) ?_ _ _ ⟨f1,0,R,rc,by omega,rfl,r1⟩
  rintro s x C2 ⟨hf,i,R,rc,hi,rfl,hr⟩ hC2 _
  have hRb:∀ k,k < u.heap.size->blkOf R=some k->False:=fun k hk hb=>by have:=(hr.blt hb).1; omega
  refine vIf_mk (fun hlt=>?_) (fun hge=>?_)
  ·have hlt2:(i:Int) < n:=of_decide_eq_true hlt
   obtain ⟨l,hl⟩:∃ l,ls[i]?=some l:=⟨_,List.getElem?_eq_getElem (by omega)⟩
   obtain ⟨B,k,hv,hB,hone⟩:=hs i l hl
   obtain ⟨b,o,hA',hc⟩:=(hf.sl h (fun _ _ _ h=>h)).get (i:=i) (by omega) hv
   subst hA'
   have h1:=totW_le ls (i+1)
   obtain ⟨h2,h3⟩:=totW_step hl
   refine dr_mk (gd_mk (decide_eq_true (Int.natCast_nonneg i)) (gd_mk (decide_eq_true hlt2) ⟨B,l.1,k,hc,?_⟩))
   refine app_row hr (hf.sl hB (fun _ _ _ h=>h)).src hone rfl (by show (totW (ls.take i)+l.1) * 40<=_; omega) (by show totW (ls.take i)+l.1<=_; omega) hf.size ?_
   intro R' rc' w4 r4 f4
   refine jnC_mk (hC2 _ _ ⟨hf.trans f4 (fun _ _ h=>h) (fun k hk h=>hRb k hk h),i+1,R',rc',by omega,?_,?_⟩ ?_)
   ·show ((R',totW (ls.take i)+l.1,rc'),(_,n,c),(n:Int),IntKind.wrap .i64 ((i:Int)+1),())=_
    rw [i64_id (by omega) (by omega),<- h2]; rfl
   ·rw [h2,h3]
    exact r4
   ·show ((n:Int) - IntKind.wrap .i64 ((i:Int)+1)).toNat < ((n:Int) - i).toNat
    rw [i64_id (by omega) (by omega)]; omega
  ·have hge2:¬ ((i:Int) < n):=of_decide_eq_false hge
   have hin:i=ls.length:=by omega
   subst hin
   rw [List.take_length] at hr ⊢
   exact ⟨hf,R,rc,rfl,hr⟩
theorem ino_one [Ow] {w:World} {cs:List Value} {x:Ino} (h:InoAt w cs x):cs.length=2/\∀ v ∈ cs,v.oneCell'=true:=by
 obtain ⟨A,n,c,A',n',c',rfl,_⟩:=h
 refine ⟨rfl,fun v hv=>?_⟩
 simp only [List.mem_cons,List.not_mem_nil,or_false] at hv
 rcases hv with rfl | rfl <;> rfl
theorem wsl_n [Ow] {w:World} {A:Option Addr} {n:Nat} {l:List Wr} (h:WSl w A n l):l.length=n:=by
 obtain ⟨vs,_,h2,_⟩:=h
 exact h2
theorem rec_new {w:World} {cs:List Value} {e:TypeId} {K:Nat->World->Prop} (hK:∀ b w',Fr (fun _=>False) w w'->w.heap.size<=b->RecAt w' b e cs->K b w'):nw w cs e K :=
 nw_mk (hK _ _ (Fr.alloc _ _ _) (Nat.le_refl _) (RecAt.new w cs e))
theorem now_calls' [Ow] (cs:List Value) (x:Ino) (w:World) (h:InoAt w cs x) (hb:InoB x) (hp:x.p.length<=1099511627775) :
  Calls Tryz.prog 76 #[ofL cs] w fun e w'=>Fr (fun _=>False) w w'/\∃ B k,e=.returned (.slice B (nowI x).length k)/\Row w' w.heap.size 5 1 B (nowI x).length k (bys (nowI x)):=by
 refine (F76.of cs w (Q:=fun v w'=>Fr (fun _=>False) w w'/\∃ B k,v=.slice B (nowI x).length k/\Row w' w.heap.size 5 1 B (nowI x).length k (bys (nowI x))) ?_).mono (fun e w' ⟨v,he,hf,B,k,hv,h⟩=>⟨hf,B,k,by rw [he,hv],h⟩)
 have h0:=h
 obtain ⟨A,n,c,A',n',c',rfl,h1,h2,h3,h4⟩:=h
 refine rec_new (fun b1 w2 f1 _ r1=>⟨_,_,_,r1.cell (o:=0) rfl,_,_,_,r1.cell (o:=0+1) rfl,?_⟩)
 have hn:=wsl_n h3
 refine (all_calls A n c x.b A' n' c' x.p w2 (f1.sl h1 (fun _ _ _ h=>h)) (h3.fr0 f1) hb.b (by omega) hb.d).mono ?_
 rintro e w9 ⟨f9,B,k,rfl,h9⟩
 exact ⟨_,_,_,rfl,f1.trans1 f9,B,k,rfl,row_lowB f1.size h9⟩
theorem room_calls [Ow] (cs:List Value) (x:Ino) (w:World) (h:InoAt w cs x) (hb:InoB x) (hp:x.p.length<=1099511627775) :
  Calls Tryz.prog 51 #[ofL cs] w fun e w'=>e=.returned (.int .i64 (roomI x))/\Fr (fun _=>False) w w':=by
 refine (F51.of cs w (Q:=fun v w'=>v=.int .i64 (roomI x)/\Fr (fun _=>False) w w') ?_).mono (fun e w' ⟨v,he,hv,h⟩=>⟨by rw [he,hv],h⟩)
 obtain ⟨A,n,c,A',n',c',rfl,h1,h2,h3,h4⟩:=h
 have hn:=by_n h1
 have hn':=wsl_n h3
 refine rec_new (fun b1 w2 f1 _ r1=>⟨_,_,_,r1.cell (o:=0) rfl,_,_,_,r1.cell (o:=0+1) rfl,?_⟩)
 refine (peak_calls (n:Int) A' n' c' x.p w2 (h3.fr0 f1) (by omega) hb.d).mono ?_
 rintro e w9 ⟨rfl,f9⟩
 exact ⟨_,rfl,by unfold roomI; rw [hn],f1.trans1 f9⟩
theorem sync_calls' [Ow] (cs:List Value) (x:Ino) (w:World) (h:InoAt w cs x) (hb:InoB x) (hp:x.p.length<=1099511627775) :
  Calls Tryz.prog 74 #[ofL cs] w fun e w'=>Fr (fun _=>False) w w'/\∃ cs',e=.returned (ofL cs')/\InoAt w' cs' (syncI x):=by
 refine (F74.of cs w (Q:=fun v w'=>Fr (fun _=>False) w w'/\∃ cs',v=ofL cs'/\InoAt w' cs' (syncI x)) ?_).mono (fun e w' ⟨v,he,hf,cs',hv,h⟩=>⟨hf,cs',by rw [he,hv],h⟩)
 have hone:=ino_one h
 refine rec_new (fun b1 w2 f1 hb1 r1=>rec_new (fun b3 w4 f3 hb3 r3=>⟨cs,hone.1,rec_all (r1.fr f3 (fun h=>h)),?_⟩))
 have f13:=f1.trans1 f3
 have hs1:=f1.size
 have hl3:=r3.lt
 refine (now_calls' cs x w4 (h.fr0 f13) hb hp).mono ?_
 rintro e w6 ⟨f6,B,k,rfl,h6⟩
 have r3:=r3.fr f6 (fun h=>h)
 have hr3:=r3.lt
 refine ⟨_,_,_,rfl,gd_mk rfl (r3.st_mk (o:=0) (by show 0+2<=2; omega) (fun v hv=>?_) (fun r3 f7=>?_))⟩
 ·simp only [List.cons_append,List.nil_append,List.mem_cons,List.not_mem_nil,or_false] at hv
  rcases hv with rfl | rfl <;> rfl
 rw [splice_full (by rfl)] at r3
 refine ⟨[.slice B (nowI x).length k,.slice none 0 0],rfl,rec_all r3,(f13.trans1 f6).trans f7 (fun _ _ h=>h) (fun j hj h=>by have h:j=b3:=h; omega),_,rfl,?_⟩
 have hsl:=f7.row h6 (fun j hj h=>by have h:j=b3:=h; have:=(h6.blt hj).1; omega)
 have hz:w.heap.size<=(stB w6 b3 0 ([Value.slice B (nowI x).length k] ++ ([Value.slice none 0 0] ++ []))).heap.size:=Nat.le_trans (f13.trans1 f6).size f7.size
 exact ⟨_,_,_,_,_,_,rfl,hsl.sl,hsl.le,⟨[],Sl.nil _ _ _,rfl,Ech.nil⟩,Nat.le_refl _,h.ok.own hz (fun j hj=>Nat.le_trans f13.size (hsl.blt hj).1),(h.ok.up hz).nil none⟩
set_option maxHeartbeats 1000000 in
theorem with_calls [Ow] (cs:List Value) (x:Ino) (B:Option Addr) (k:Nat) (cy:List Value) (y:Wr) (w:World) (h:InoAt w cs x) (hB:Sl w 3 B 1 cy) (hy:WrP w cy y) (hp:x.p.length<=1099511627774) :
  Calls Tryz.prog 98 #[ofL cs,.slice B 1 k] w fun e w'=>Fr (fun _=>False) w w'/\∃ cs',e=.returned (ofL cs')/\InoAt w' cs' ⟨x.b,x.p ++ [y]⟩:=by
 refine (F98.of cs B 1 k w (Q:=fun v w'=>Fr (fun _=>False) w w'/\∃ cs',v=ofL cs'/\InoAt w' cs' ⟨x.b,x.p ++ [y]⟩) ?_).mono (fun e w' ⟨v,he,hf,cs',hv,h⟩=>⟨hf,cs',by rw [he,hv],h⟩)
 have hyo:=wr_one hy
 obtain ⟨A,n,c,A',n',c',rfl,h1,h2,h3,h4⟩:=h
 have hn':=wsl_n h3
 refine rec_new (fun b1 w2 f1 hb1 r1=>rec_new (fun b3 w4 f3 hb3 r3=>?_))
 have fd:Fr (fun _=>False) w4 w4.drew:=Fr.drew _ _
 have hl3:=r3.lt
 have r1:=(r1.fr f3 (fun h=>h)).fr fd (fun h=>h)
 have r3:=r3.fr fd (fun h=>h)
 have f0:=(f1.trans1 f3).trans1 fd
 have hs1:=f1.size
 have hs3:=f3.size
 have hsd:=fd.size
 generalize w4.drew=w5 at fd r1 r3 f0 hsd ⊢
 refine ⟨_,_,_,r1.cell (o:=0) rfl,_,_,_,r1.cell (o:=0+1) rfl,rec_new (fun b11 w12 f4 hb11 r11=>kp_mk f4 r1.lt (fun h=>h) ?_)⟩
 have f04:=f0.trans1 f4
 obtain ⟨vs,hs,hl,hE⟩:=h3.fr0 f04
 have hcel:celW [(n',vs),(1,cy)]=vs ++ cy:=by simp [celW]
 have htot:totW [(n',vs),(1,cy)]=n'+1:=by simp [totW]
 have hB12:=f04.sl hB (fun _ _ _ h=>h)
 have hy12:=hy.fr0 f04
 have hr11:Sl w12 1 (some ⟨b11,0,none⟩) 2 [Value.slice A' n' c',Value.slice B 1 k]:=⟨rfl,fun _=>⟨b11,0,rfl,rec_all r11⟩⟩
 have hvone:∀ v ∈ vs,v.oneCell'=true:=by
  intro v hv
  obtain ⟨j,hj⟩:=List.mem_iff_getElem?.1 hv
  have hjl:=(List.getElem?_eq_some_iff.1 hj).1
  have hvl:=hs.1
  have gx:x.p[j / 3]?=some (x.p[j / 3]'(by omega)):=List.getElem?_eq_getElem (by omega)
  have hw:=hE (j / 3) _ gx
  refine (wr_one hw).2 v (List.mem_iff_getElem?.2 ⟨j % 3,?_⟩)
  rw [chk_get (by omega),show j / 3 * 3+j % 3=j by omega]
  exact hj
 refine (concatW_calls _ 2 2 [Value.slice A' n' c',Value.slice B 1 k] [(n',vs),(1,cy)] w12 hr11 rfl (fun i l hi=>?_) (by rw [htot]; omega) (by omega)).mono ?_
 ·match i,hi with
  | 0,hi=>simp at hi; subst hi; exact ⟨A',c',rfl,hs,hvone⟩
  | 1,hi=>simp at hi; subst hi; exact ⟨B,k,rfl,hB12,hyo.2⟩
  | i+2,hi=>simp at hi
 rintro e w13 ⟨f5,A15,c17,rfl,h15⟩
 rw [htot,hcel] at h15
 rw [htot]
 have f45:=f4.trans1 f5
 have f05:=f0.trans1 f45
 have r3:=r3.fr f45 (fun h=>h)
 refine ⟨_,_,_,rfl,kp_mk f45 r1.lt (fun h=>h) (gd_mk rfl (r3.st_mk (o:=0) (by show 0+2<=2; omega) (fun v hv=>?_) (fun r3 f7=>?_)))⟩
 ·simp only [List.cons_append,List.nil_append,List.mem_cons,List.not_mem_nil,or_false] at hv
  rcases hv with rfl | rfl <;> rfl
 rw [splice_full (by rfl)] at r3
 have f07:Fr (fun _=>False) w (stB w13 b3 0 ([Value.slice A n c] ++ ([Value.slice A15 (n'+1) c17] ++ []))):=f05.trans f7 (fun _ _ h=>h) (fun j hj h=>by have h:j=b3:=h; omega)
 have h15':=f7.row h15 (fun j hj h=>by have h:j=b3:=h; have:=(h15.blt hj).1; have:=f4.size; omega)
 refine ⟨[.slice A n c,.slice A15 (n'+1) c17],rfl,rec_all r3,f07,_,rfl,_,_,_,_,_,_,rfl,f07.sl h1 (fun _ _ _ h=>h),h2,⟨vs ++ cy,h15'.sl,by rw [List.length_append,hl]; rfl,?_⟩,h15'.le,h4.2.1.fr f07,h4.2.2.own f07.size (fun j hj=>Nat.le_trans f04.size (h15'.blt hj).1)⟩
 have f57:Fr (fun k=>k=b3) w12 (stB w13 b3 0 ([Value.slice A n c] ++ ([Value.slice A15 (n'+1) c17] ++ []))):=f5.trans f7 (fun _ _ h=>h.elim) (fun _ _ h=>h)
 obtain ⟨vs2,hs2,hl2,hE2⟩:=h3.fr0 f07
 have hEv:Ech 3 (WrP (stB w13 b3 0 ([Value.slice A n c] ++ ([Value.slice A15 (n'+1) c17] ++ [])))) vs x.p:=by
  obtain ⟨vs0,hs0,hl0,hE0⟩:=h3
  have e:vs=vs0:=by
   by_cases h0:n'=0
   ·have a1:=hs.1
    have a2:=hs0.1
    rw [h0] at a1 a2
    simp at a1 a2
    rw [a1,a2]
   ·obtain ⟨q1,o1,e1,c1⟩:=hs.2 h0
    obtain ⟨q2,o2,e2,c2⟩:=(f04.sl hs0 (fun _ _ _ h=>h)).2 h0
    rw [e1] at e2
    injection e2 with e2
    injection e2 with e2 e3
    subst e2; subst e3
    apply List.ext_getElem?
    intro j
    by_cases hj:j < vs.length
    ·have hj0:j < vs0.length:=by rw [hs0.1,<- hs.1]; exact hj
     have a:=c1 j _ (List.getElem?_eq_getElem hj)
     have b:=c2 j _ (List.getElem?_eq_getElem hj0)
     rw [a] at b
     rw [List.getElem?_eq_getElem hj,List.getElem?_eq_getElem hj0]
     exact b
    ·rw [List.getElem?_eq_none (by omega),List.getElem?_eq_none (by rw [hs0.1,<- hs.1]; omega)]
  rw [e]
  exact hE0.mono (fun cs z hz=>hz.fr0 f07)
 exact hEv.snoc hs.1 hl hyo.1 (hy.fr0 f07)
def zI:Ino:=⟨[],[]⟩
structure Dk where
 lb:Int
 lf:Int
 F:Fo
 f:Int->Ino
 last:Int
 down:Bool
 fu:Option Int
 calls:Int
def trim (F:Fo) (f:Int->Ino):Int->Ino:=fun id=>if id ∈ idsF F then f id else zI
def takenF (F:Fo) (f:Int->Ino):Int:=((idsF F).map fun id=>roomI (f id)).sum
def updF (f:Int->Ino) (id:Int) (x:Ino):Int->Ino:=fun k=>if k=id then x else f k
noncomputable def chD (d:Dk) (c:Ch):Dk×Int:=({ d with F:=doF d.F c,f:=trim (doF d.F c) d.f },wrongF d.F c)
noncomputable def crD (d:Dk) (s:ByteArray):Dk×Int :=
 if (((idsF d.F).length:Nat):Int) >= d.lf then (d,8)
 else if wrongF d.F ⟨1,s,⟨#[]⟩,d.last+1⟩=0 then ({ (chD d ⟨1,s,⟨#[]⟩,d.last+1⟩).1 with last:=d.last+1 },0)
 else chD d ⟨1,s,⟨#[]⟩,d.last+1⟩
def fileD (d:Dk) (s:ByteArray) (g:Ino->Ino×Int):Dk×Int :=
 match findN s (nowF d.F) with
 | none=>(d,6)
 | some id =>
  if (g (d.f id)).2 ≠ 0 then (d,(g (d.f id)).2)
  else if roomI (g (d.f id)).1 > roomI (d.f id)/\takenF d.F (updF d.f id (g (d.f id)).1) > d.lb then (d,9)
  else ({ d with f:=updF d.f id (g (d.f id)).1 },0)
def offD (d:Dk):Bool:=d.down || (match d.fu with | some n=>decide (n<=0) | none=>false)
def powD (d:Dk) (call:Dk->Dk×Int):Dk×Int :=
 if offD d=true then ({ d with down:=true },11) else call { d with fu:=d.fu.map (· - 1),calls:=d.calls+1 }
def sdD (d:Dk):Dk×Int:=({ d with F:=⟨nowF d.F,[]⟩,f:=trim ⟨nowF d.F,[]⟩ d.f },0)
def crashS (f:Int->Ino):List Int->Bs->Int->Ino
 | [],_=>f
 | id :: r,c=>crashS (updF f id (crashI (f id) c).1) r (crashI (f id) c).2
def headC (c:Bs):Int:=match c with | []=>0 | x :: _=>(x.toNat:Int)
def crashD (d:Dk) (c:Bs):Dk :=
 { d with F:=⟨behF d.F (headC c),[]⟩,f:=trim ⟨behF d.F (headC c),[]⟩ (crashS d.f (idsF d.F) c.tail),down:=false,fu:=none }
def fuseD (d:Dk) (n:Int):Dk:={ d with fu:=if n >= 0 then some n else none }
structure Cl where
 k:Int
 nm:ByteArray
 to:ByteArray
 data:Bs
 n:Int
noncomputable def doD (d:Dk) (c:Cl):Dk×Int :=
 if c.k=1 then powD d (fun d=>crD d c.nm)
 else if c.k=2 then powD d (fun d=>fileD d c.nm (fun x=>appI x c.data))
 else if c.k=3 then powD d (fun d=>fileD d c.nm (fun x=>cutI x c.n))
 else if c.k=4 then powD d (fun d=>fileD d c.nm (fun x=>(syncI x,0)))
 else if c.k=5 then powD d (fun d=>chD d ⟨2,c.nm,c.to,0⟩)
 else if c.k=6 then powD d (fun d=>chD d ⟨3,c.nm,⟨#[]⟩,0⟩)
 else if c.k=7 then powD d sdD
 else if c.k=8 then (fuseD d c.n,0)
 else if c.k=9 then (crashD d c.data,0)
 else (d,0)
structure DkI (d:Dk):Prop where
 out:∀ id,id ∉ idsF d.F->d.f id=zI
 rng:∀ id ∈ idsF d.F,1<=id/\id<=d.last
 ino:∀ id,InoB (d.f id)
 fu:∀ n,d.fu=some n->0<=n
theorem zI_B:InoB zI:=⟨by simp [zI],fun y hy=>by cases hy⟩
theorem trim_in {F:Fo} {f:Int->Ino} {id:Int} (h:id ∈ idsF F):trim F f id=f id:=if_pos h
theorem trim_out {F:Fo} {f:Int->Ino} {id:Int} (h:id ∉ idsF F):trim F f id=zI:=if_neg h
theorem trim_B {F:Fo} {f:Int->Ino} (h:∀ id,InoB (f id)) (id:Int):InoB (trim F f id):=by
 unfold trim
 split
 ·exact h id
 ·exact zI_B
theorem updF_B {f:Int->Ino} (h:∀ id,InoB (f id)) {k:Int} {x:Ino} (hx:InoB x) (id:Int):InoB (updF f k x id):=by
 unfold updF
 split
 ·exact hx
 ·exact h id
theorem appI_B {x:Ino} (h:InoB x) (b:Bs):InoB (appI x b).1:=by
 unfold appI
 split
 ·exact h
 ·split
  ·exact h
  ·rename_i h1 _
   refine ⟨h.b,fun y hy=>?_⟩
   rcases List.mem_append.1 hy with hy | hy
   ·exact h.d y hy
   ·rw [List.mem_singleton.1 hy]
    show b.length<=1048576
    omega
theorem cutI_B {x:Ino} (h:InoB x) (n:Int):InoB (cutI x n).1:=by
 unfold cutI
 split
 ·exact h
 ·refine ⟨h.b,fun y hy=>?_⟩
  rcases List.mem_append.1 hy with hy | hy
  ·exact h.d y hy
  ·rw [List.mem_singleton.1 hy]; simp
theorem syncI_B {x:Ino} (h:InoB x):InoB (syncI x):=⟨now_le h,fun y hy=>by cases hy⟩
theorem crashI_B {x:Ino} (h:InoB x) (c:Bs):InoB (crashI x c).1:=by
 have h1:=survW_len x.p x.b c
 have h2:=peakW_le x.p (n:=(x.b.length:Int)) (by have:=h.b; omega)
 exact ⟨by show (survW x.b x.p c).length<=1048576; omega,fun y hy=>by cases hy⟩
theorem crashS_B:∀ (l:List Int) (f:Int->Ino) (c:Bs),(∀ id,InoB (f id))->∀ id,InoB (crashS f l c id)
 | [],f,c,h,id=>h id
 | k :: l,f,c,h,id=>crashS_B l _ _ (updF_B h (crashI_B (h k) c)) id
theorem ans_mk {w:World} {b:Nat} {e:TypeId} {old cs:List Value} (r:RecAt w b e old) (ho:old.length=2) (hc:cs.length=2) (h1:∀ v ∈ cs,v.oneCell'=true) {K:List Value->World->Prop} (hK:∀ w',Fr (fun k=>k=b) w w'->K cs w') :
  gd (cs.length == 2) (st w b 0 cs fun w1=>ldA 2 w1 b 0 fun a=>K a w1):=by
 refine gd_mk (by rw [hc]; rfl) (r.st_mk (o:=0) (by rw [hc,ho]; omega) h1 (fun r1 f1=>?_))
 rw [splice_full (by rw [hc,ho])] at r1
 exact ⟨cs,hc,rec_all r1,hK _ f1⟩
set_option maxHeartbeats 1000000 in
theorem app_calls [Ow] (cs:List Value) (x:Ino) (A:Option Addr) (n c:Nat) (b:Bs) (w:World) (h:InoAt w cs x) (hA:Sl w 1 A n (bys b)) (hb:InoB x) (hp:x.p.length<=1099511627774) (hn:n<=1099511627776) :
  Calls Tryz.prog 71 #[ofL cs,.slice A n c] w fun e w'=>Fr (fun _=>False) w w'/\∃ cs',e=.returned (.tuple #[ofL cs',.int .i64 (appI x b).2])/\InoAt w' cs' (appI x b).1:=by
 refine (F71.of cs A n c w (Q:=fun v w'=>Fr (fun _=>False) w w'/\∃ cs',v=.tuple #[ofL cs',.int .i64 (appI x b).2]/\InoAt w' cs' (appI x b).1) ?_).mono (fun e w' ⟨v,he,hf,cs',hv,h⟩=>⟨hf,cs',by rw [he,hv],h⟩)
 have hone:=ino_one h
 have hbl:=by_n hA
 have hnow:=now_le hb
 refine rec_new (fun b1 w2 f1 hb1 r1=>rec_new (fun b3 w4 f3 hb3 r3=>⟨cs,hone.1,rec_all (r1.fr f3 (fun h=>h)),?_⟩))
 have r1:=r1.fr f3 (fun h=>h)
 have hl3:=r3.lt
 have hs1:=f1.size
 have f13:=f1.trans1 f3
 have lt3:∀ k,k < w.heap.size->¬ k=b3:=fun k hk h=>by omega
 refine (now_calls' cs x w4 (h.fr0 f13) hb (by omega)).mono ?_
 rintro e w6 ⟨f6,B,k,rfl,h6⟩
 have r1:=r1.fr f6 (fun h=>h)
 have r3:=r3.fr f6 (fun h=>h)
 have f16:=f13.trans1 f6
 have ew:IntKind.wrap .i64 (1048576 - (((nowI x).length:Nat):Int))=1048576 - ((nowI x).length:Int):=i64_id (by omega) (by omega)
 have keep:∀ k:Int,appI x b=(x,k)->∀ v,Fr (fun j=>j=b3) w6 v->Fr (fun _=>False) w v/\∃ cs',Value.tuple #[ofL cs,.int .i64 k]=.tuple #[ofL cs',.int .i64 (appI x b).2]/\InoAt v cs' (appI x b).1:=by
  intro k hk v fv
  have f:=f16.trans fv (U:=fun _=>False) (fun _ _ h=>h) (fun j hj h=>lt3 j hj h)
  exact ⟨f,cs,by rw [hk],by rw [hk]; exact h.fr0 f⟩
 refine ⟨_,_,_,rfl,?_⟩
 rw [ew]
 refine vIf_mk (fun hbig=>⟨cs,hone.1,rec_all r1,ans_mk r3 rfl hone.1 hone.2 (fun v fv=>keep 18 ?_ v fv)⟩) (fun hbig=>vIf_mk (fun h0=>⟨cs,hone.1,rec_all r1,ans_mk r3 rfl hone.1 hone.2 (fun v fv=>keep 0 ?_ v fv)⟩) (fun h0=>?_))
 ·have hbig:=of_decide_eq_true hbig
  unfold appI
  rw [if_pos (by omega)]
 ·have hbig:=of_decide_eq_false hbig
  have h0:(n:Int)=0:=by simpa using h0
  have hb0:b=[]:=List.length_eq_zero_iff.1 (by omega)
  unfold appI
  rw [if_neg (by omega),if_pos hb0]
 ·have hbig:=of_decide_eq_false hbig
  have h0:¬ (n:Int)=0:=by simpa using h0
  have hb0:b ≠ []:=fun e=>by rw [e] at hbl; simp at hbl; omega
  have eA:appI x b=(⟨x.b,x.p ++ [⟨false,((nowI x).length:Int),b⟩]⟩,0):=by
   unfold appI
   rw [if_neg (by omega),if_neg hb0]
  have fd:Fr (fun _=>False) w6 w6.drew:=Fr.drew _ _
  have r1:=r1.fr fd (fun h=>h)
  have r3:=r3.fr fd (fun h=>h)
  have f1d:=f16.trans1 fd
  generalize w6.drew=w7 at fd r1 r3 f1d ⊢
  refine ⟨cs,hone.1,rec_all r1,(clone_by A n c b w7 (f1d.sl hA (fun _ _ _ h=>h)) hn).mono ?_⟩
  rintro e w18 ⟨f8,A20,c22,rfl,h20⟩
  have f18:=f1d.trans1 f8
  refine ⟨_,_,_,rfl,kp_mk f8 r1.lt (fun h=>h) (gd_mk rfl (rec_new (fun b23 w24 f9 hb23 r23=>kp_mk (f8.trans1 f9) r1.lt (fun h=>h) ?_)))⟩
  have f19:=f18.trans1 f9
  have r3:=(r3.fr f8 (fun h=>h)).fr f9 (fun h=>h)
  have h20':=f9.row h20 (fun _ _ h=>h)
  have hW:Sl w24 3 (some ⟨b23,0,none⟩) 1 [.bool false,.int .i64 ((nowI x).length:Int),.slice A20 n c22]:=⟨rfl,fun _=>⟨b23,0,rfl,rec_all r23⟩⟩
  have hWP:WrP w24 [.bool false,.int .i64 ((nowI x).length:Int),.slice A20 n c22] ⟨false,((nowI x).length:Int),b⟩:=⟨A20,n,c22,rfl,h20'.sl,h20.le,h.ok.own f19.size (fun j hj=>Nat.le_trans f1d.size (h20'.blt hj).1)⟩
  refine (with_calls cs x _ 1 _ _ w24 (h.fr0 f19) hW hWP (by omega)).mono ?_
  rintro e w25 ⟨f10,cs',rfl,hI⟩
  have hI1:=ino_one hI
  have r3:=r3.fr f10 (fun h=>h)
  refine ⟨_,rfl,ans_mk r3 rfl hI1.1 hI1.2 (fun v fv=>?_)⟩
  have f:=(f19.trans1 f10).trans fv (U:=fun _=>False) (fun _ _ h=>h) (fun j hj h=>lt3 j hj h)
  refine ⟨f,cs',by rw [eA],?_⟩
  rw [eA]
  refine hI.fr fv (fun j hj=>?_)
  have hj:j=b3:=hj
  subst hj
  have hc3:∀ o,cellAt w25 j o=([Value.slice none 0 0,Value.slice none 0 0]:List Value)[o]?:=fun o=>by rw [cellAt_blk r3]; simp
  refine fun _=>⟨fun o s hs=>?_,fun o u hu=>?_,fun o t z A n c ht=>?_⟩
  ·rw [hc3] at hs
   match o,hs with
   | 0,hs=>cases hs
   | 1,hs=>cases hs
   | o+2,hs=>cases hs
  ·rw [hc3] at hu
   match o,hu with
   | 0,hu=>cases hu
   | 1,hu=>cases hu
   | o+2,hu=>cases hu
  ·have ht:=ht.1
   rw [hc3] at ht
   match o,ht with
   | 0,ht=>cases ht
   | 1,ht=>cases ht
   | o+2,ht=>cases ht
theorem two_alien [Ow] {w:World} {b:Nat} {e:TypeId} (r:RecAt w b e [Value.slice none 0 0,Value.slice none 0 0]):Alien w b:=by
 have hc3:∀ o,cellAt w b o=([Value.slice none 0 0,Value.slice none 0 0]:List Value)[o]?:=fun o=>by rw [cellAt_blk r]; simp
 refine fun _=>⟨fun o s hs=>?_,fun o u hu=>?_,fun o t z A n c ht=>?_⟩
 ·rw [hc3] at hs
  match o,hs with
  | 0,hs=>cases hs
  | 1,hs=>cases hs
  | o+2,hs=>cases hs
 ·rw [hc3] at hu
  match o,hu with
  | 0,hu=>cases hu
  | 1,hu=>cases hu
  | o+2,hu=>cases hu
 ·have ht:=ht.1
  rw [hc3] at ht
  match o,ht with
  | 0,ht=>cases ht
  | 1,ht=>cases ht
  | o+2,ht=>cases ht
theorem lastN_id {l:List Nm} (h:AscN l):lastN l=l:=ascN_ext (lastN_asc l) h (fun s=>lastN_find s l)
theorem cnt_nat (i:Nat) (P:List Ch):cnt (i:Nat) P=min i P.length:=by
 unfold cnt
 rw [if_neg (by omega),Int.toNat_natCast]
theorem behF_at (F:Fo) (i:Nat) (h:i<=F.P.length):behF F (i:Nat)=behN F.L (F.P.take i):=by
 unfold behF
 rw [cnt_nat,Nat.min_eq_left h]
theorem nowF_at (F:Fo):nowF F=behN F.L F.P:=by
 unfold nowF
 rw [behF_at F _ (Nat.le_refl _),List.take_length]
theorem behF_any (F:Fo) (n:Int):∃ i:Nat,i<=F.P.length/\behF F n=behF F (i:Nat):=by
 refine ⟨cnt n F.P,cnt_le _ _,?_⟩
 rw [behF_at F _ (cnt_le _ _)]; rfl
theorem behF_one (L:List Nm) (n:Int):behF ⟨L,[]⟩ n=lastN L:=by
 unfold behF behN
 simp
theorem idsU_iff (F:Fo) (id:Int):∀ n,id ∈ idsU F n ↔ ∃ i,i < n/\∃ nm,(nm,id) ∈ behF F (i:Nat)
 | 0=>by simp [idsU]
 | n+1=>by
  rw [idsU,List.mem_append,idsU_iff F id n,List.mem_map]
  constructor
  ·rintro (⟨i,hi,h⟩ | ⟨⟨nm,j⟩,hx,rfl⟩)
   ·exact ⟨i,by omega,h⟩
   ·exact ⟨n,by omega,nm,hx⟩
  ·rintro ⟨i,hi,nm,h⟩
   by_cases hin:i=n
   ·subst hin
    exact .inr ⟨(nm,id),h,rfl⟩
   ·exact .inl ⟨i,by omega,nm,h⟩
theorem ids_iff {F:Fo} {id:Int}:id ∈ idsF F ↔ ∃ i:Nat,i<=F.P.length/\∃ nm,(nm,id) ∈ behF F (i:Nat):=by
 unfold idsF
 rw [norm_mem,idsU_iff]
 exact ⟨fun ⟨i,h,h'⟩=>⟨i,by omega,h'⟩,fun ⟨i,h,h'⟩=>⟨i,by omega,h'⟩⟩
theorem ids_asc (F:Fo):AscI (idsF F):=norm_asc _
theorem now_ids {F:Fo} {nm:ByteArray} {id:Int} (h:(nm,id) ∈ nowF F):id ∈ idsF F:=ids_iff.2 ⟨F.P.length,Nat.le_refl _,nm,h⟩
theorem find_ids {F:Fo} {s:ByteArray} {id:Int} (h:findN s (nowF F)=some id):id ∈ idsF F:=now_ids (findN_mem h)
theorem ids_one {L:List Nm} {id:Int}:id ∈ idsF ⟨L,[]⟩ ↔ ∃ nm,(nm,id) ∈ lastN L:=by
 rw [ids_iff]
 constructor
 ·rintro ⟨i,_,nm,h⟩
  rw [behF_one] at h
  exact ⟨nm,h⟩
 ·rintro ⟨nm,h⟩
  exact ⟨0,by simp,nm,by rw [behF_one]; exact h⟩
theorem ids_snoc {L:List Nm} {P:List Ch} {c:Ch} {id:Int}:id ∈ idsF ⟨L,P ++ [c]⟩ ↔ id ∈ idsF ⟨L,P⟩\/∃ nm,(nm,id) ∈ stepN (nowF ⟨L,P⟩) c:=by
 rw [ids_iff,ids_iff]
 constructor
 ·rintro ⟨i,hi,nm,h⟩
  rw [behF_at _ _ hi] at h
  by_cases hi2:i<=P.length
  ·left
   refine ⟨i,hi2,nm,?_⟩
   rw [behF_at _ _ hi2]
   rw [show (⟨L,P ++ [c]⟩:Fo).P=P ++ [c] from rfl,List.take_append_of_le_length hi2] at h
   exact h
  ·right
   refine ⟨nm,?_⟩
   have:i=P.length+1:=by
    have h':i<=(P ++ [c]).length:=hi
    rw [List.length_append,List.length_singleton] at h'; omega
   subst this
   rw [nowF_at]
   rw [show (⟨L,P ++ [c]⟩:Fo).P=P ++ [c] from rfl,List.take_of_length_le (by simp),behN_snoc] at h
   exact h
 ·rintro (⟨i,hi,nm,h⟩ | ⟨nm,h⟩)
  ·have hi:i<=P.length:=hi
   refine ⟨i,by show i<=(P ++ [c]).length; rw [List.length_append]; omega,nm,?_⟩
   rw [behF_at _ _ (by show i<=(P ++ [c]).length; rw [List.length_append]; omega)]
   rw [behF_at _ _ hi] at h
   rw [show (⟨L,P ++ [c]⟩:Fo).P=P ++ [c] from rfl,List.take_append_of_le_length hi]
   exact h
  ·refine ⟨P.length+1,by show P.length+1<=(P ++ [c]).length; simp,nm,?_⟩
   rw [behF_at _ _ (by show P.length+1<=(P ++ [c]).length; simp),show (⟨L,P ++ [c]⟩:Fo).P=P ++ [c] from rfl,List.take_of_length_le (by simp),behN_snoc]
   rw [nowF_at] at h
   exact h
theorem woN_mem {s:ByteArray} {l:List Nm} {x:Nm} (h:x ∈ woN s l):x ∈ l/\x.1 ≠ s:=by
 unfold woN at h
 simpa using List.mem_filter.1 h
theorem stepN_mem {l:List Nm} {c:Ch} {x:Nm} (h:x ∈ stepN l c):(c.k=1/\x=(c.nm,c.id))\/x ∈ l\/(c.k=2/\x.1=c.to/\(c.nm,x.2) ∈ l):=by
 unfold stepN at h
 split at h
 ·rename_i hk
  rcases putN_mem h with h | h
  ·exact .inl ⟨hk,h⟩
  ·exact .inr (.inl h)
 ·split at h
  ·rename_i hk
   split at h
   ·rename_i id hf
    rcases putN_mem h with h | h
    ·subst h
     exact .inr (.inr ⟨hk,rfl,findN_mem hf⟩)
    ·exact .inr (.inl (woN_mem h).1)
   ·exact .inr (.inl h)
  ·split at h
   ·exact .inr (.inl (woN_mem h).1)
   ·exact .inr (.inl h)
theorem ids_do {F:Fo} {c:Ch} {id:Int} (h:id ∈ idsF (doF F c)):id ∈ idsF F\/(c.k=1/\id=c.id/\wrongF F c=0):=by
 unfold doF at h
 split at h
 ·rename_i hw
  rcases ids_snoc.1 h with h | ⟨nm,h⟩
  ·exact .inl h
  ·rcases stepN_mem h with ⟨hk,h⟩ | h | ⟨_,_,h⟩
   ·exact .inr ⟨hk,(Prod.ext_iff.1 h).2,hw⟩
   ·exact .inl (now_ids h)
   ·exact .inl (now_ids h)
 ·exact .inl h
theorem ch_I {d:Dk} (h:DkI d) {c:Ch} (hk:c.k ≠ 1):DkI (chD d c).1:=by
 refine ⟨fun id hid=>trim_out hid,fun id hid=>?_,trim_B h.ino,h.fu⟩
 rcases ids_do hid with h' | ⟨h',_⟩
 ·exact h.rng id h'
 ·exact absurd h' hk
theorem ch_same {d:Dk} (h:DkI d) {c:Ch} (hw:wrongF d.F c ≠ 0):(chD d c).1=d:=by
 have e:doF d.F c=d.F:=if_neg hw
 have e2:trim d.F d.f=d.f:=by
  funext id
  unfold trim
  split
  ·rfl
  ·rename_i hid; exact (h.out id hid).symm
 unfold chD
 simp only [e,e2]
theorem cr_I {d:Dk} (h:DkI d) (s:ByteArray) (hl:0<=d.last):DkI (crD d s).1/\0<=(crD d s).1.last:=by
 unfold crD
 split
 ·exact ⟨h,hl⟩
 ·split
  ·rename_i hw
   refine ⟨⟨fun id hid=>trim_out hid,fun id hid=>?_,trim_B h.ino,h.fu⟩,by show 0<=d.last+1; omega⟩
   show 1<=id/\id<=d.last+1
   rcases ids_do hid with h' | ⟨_,h',_⟩
   ·have:=h.rng id h'; omega
   ·have h':id=d.last+1:=h'
    omega
  ·rename_i hw
   rw [ch_same h hw]
   exact ⟨h,hl⟩
theorem file_I {d:Dk} (h:DkI d) (s:ByteArray) {g:Ino->Ino×Int} (hg:∀ x,InoB x->InoB (g x).1):DkI (fileD d s g).1/\(fileD d s g).1.last=d.last:=by
 unfold fileD
 split
 ·exact ⟨h,rfl⟩
 ·rename_i id hf
  split
  ·exact ⟨h,rfl⟩
  ·split
   ·exact ⟨h,rfl⟩
   ·refine ⟨⟨fun k hk=>?_,h.rng,updF_B h.ino (hg _ (h.ino id)),h.fu⟩,rfl⟩
    have hne:k ≠ id:=fun e=>hk (show k ∈ idsF d.F by rw [e]; exact find_ids hf)
    show updF d.f id _ k=zI
    unfold updF
    rw [if_neg hne]
    exact h.out k hk
theorem sd_I {d:Dk} (h:DkI d):DkI (sdD d).1:=by
 refine ⟨fun id hid=>trim_out hid,fun id hid=>?_,trim_B h.ino,h.fu⟩
 obtain ⟨nm,h'⟩:=ids_one.1 hid
 rw [lastN_id (nowF_asc _)] at h'
 exact h.rng id (now_ids h')
theorem beh_ids {F:Fo} {n:Int} {nm:ByteArray} {id:Int} (h:(nm,id) ∈ behF F n):id ∈ idsF F:=by
 obtain ⟨i,hi,e⟩:=behF_any F n
 exact ids_iff.2 ⟨i,hi,nm,e ▸ h⟩
theorem crash_ids {F:Fo} {n:Int} {id:Int} (h:id ∈ idsF ⟨behF F n,[]⟩):id ∈ idsF F:=by
 obtain ⟨nm,h'⟩:=ids_one.1 h
 rw [lastN_id (behF_asc _ _)] at h'
 exact beh_ids h'
theorem crash_I {d:Dk} (h:DkI d) (c:Bs):DkI (crashD d c):=by
 refine ⟨fun id hid=>trim_out hid,fun id hid=>h.rng id (crash_ids hid),trim_B (crashS_B _ _ _ h.ino),fun n hn=>by cases hn⟩
theorem pow_I {d:Dk} (h:DkI d) {call:Dk->Dk×Int} (hc:∀ d',DkI d'->d'.last=d.last->DkI (call d').1/\0<=(call d').1.last) (hl:0<=d.last):DkI (powD d call).1/\0<=(powD d call).1.last:=by
 unfold powD
 split
 ·exact ⟨⟨h.out,h.rng,h.ino,h.fu⟩,hl⟩
 ·rename_i ho
  refine hc _ ⟨h.out,h.rng,h.ino,fun n hn=>?_⟩ rfl
  cases hfu:d.fu with
  | none=>rw [hfu] at hn; cases hn
  | some m =>
   rw [hfu] at hn
   simp only [Option.map_some,Option.some.injEq] at hn
   unfold offD at ho
   rw [hfu] at ho
   simp at ho
   omega
theorem do_I {d:Dk} (h:DkI d) (hl:0<=d.last) (c:Cl):DkI (doD d c).1/\0<=(doD d c).1.last:=by
 unfold doD
 split
 ·exact pow_I h (fun d' h' e=>cr_I h' _ (by omega)) hl
 split
 ·exact pow_I h (fun d' h' e=>by obtain ⟨a,b⟩:=file_I h' c.nm (g:=fun x=>appI x c.data) (fun x hx=>appI_B hx _); exact ⟨a,by rw [b]; omega⟩) hl
 split
 ·exact pow_I h (fun d' h' e=>by obtain ⟨a,b⟩:=file_I h' c.nm (g:=fun x=>cutI x c.n) (fun x hx=>cutI_B hx _); exact ⟨a,by rw [b]; omega⟩) hl
 split
 ·exact pow_I h (fun d' h' e=>by obtain ⟨a,b⟩:=file_I h' c.nm (g:=fun x=>(syncI x,0)) (fun x hx=>syncI_B hx); exact ⟨a,by rw [b]; omega⟩) hl
 split
 ·exact pow_I h (fun d' h' e=>⟨ch_I h' (by show (2:Int) ≠ 1; omega),by show 0<=d'.last; omega⟩) hl
 split
 ·exact pow_I h (fun d' h' e=>⟨ch_I h' (by show (3:Int) ≠ 1; omega),by show 0<=d'.last; omega⟩) hl
 split
 ·exact pow_I h (fun d' h' e=>⟨sd_I h',by show 0<=d'.last; omega⟩) hl
 split
 ·refine ⟨⟨h.out,h.rng,h.ino,fun n hn=>?_⟩,hl⟩
  have hn:(if c.n >= 0 then some c.n else none)=some n:=hn
  split at hn
  ·injection hn with hn; omega
  ·cases hn
 split
 ·exact ⟨crash_I h c.data,hl⟩
 ·exact ⟨h,hl⟩
def newD (lb lf:Int):Dk:=⟨lb,lf,⟨[],[]⟩,fun _=>zI,0,false,none,0⟩
theorem new_I (lb lf:Int):DkI (newD lb lf):=by
 refine ⟨fun _ _=>rfl,fun id hid=>?_,fun _=>zI_B,fun n hn=>by cases hn⟩
 obtain ⟨nm,h⟩:=ids_one.1 hid
 cases h
abbrev ZI:List Value:=[.slice none 0 0,.slice none 0 0]
theorem zI_at [Ow] {w:World} (h:OkA w none 0):InoAt w ZI zI:=⟨none,0,0,none,0,0,rfl,Sl.nil _ _ _,Nat.le_refl _,⟨[],Sl.nil _ _ _,rfl,Ech.nil⟩,Nat.le_refl _,h,h⟩
def FilesAt [Ow] (w:World) (r:Nat) (f:Int->Ino):Prop:=∃ g,MapI w r g/\∀ id,∃ cs,(g id).getD (ofL ZI)=ofL cs/\InoAt w cs (f id)
theorem FilesAt.fr [Ow] {S:Nat->Prop} {w w':World} {r:Nat} {f:Int->Ino} (h:FilesAt w r f) (g:Fr S w w') (hr:¬ S r) (hS:∀ k,S k->Alien w k):FilesAt w' r f:=by
 obtain ⟨m,h1,h2⟩:=h
 refine ⟨m,h1.fr g hr,fun id=>?_⟩
 obtain ⟨cs,e,hx⟩:=h2 id
 exact ⟨cs,e,hx.fr g hS⟩
theorem FilesAt.lt [Ow] {w:World} {r:Nat} {f:Int->Ino} (h:FilesAt w r f):r < w.heap.size:=by
 obtain ⟨m,h1,_⟩:=h
 exact h1.lt
theorem FilesAt.ok [Ow] {w:World} {r:Nat} {f:Int->Ino} (h:FilesAt w r f):OkA w none 0:=by
 obtain ⟨m,_,h2⟩:=h
 obtain ⟨cs,_,hx⟩:=h2 0
 exact hx.ok
theorem FilesAt.alien0 [Ow] {w:World} {r:Nat} {f:Int->Ino} (h:FilesAt w r f):Alien0 w r:=by
 obtain ⟨m,h1,_⟩:=h
 exact map_alien0 h1
theorem FilesAt.alien [Ow] {w:World} {r:Nat} {f:Int->Ino} (h:FilesAt w r f):Alien w r:=by
 obtain ⟨m,h1,_⟩:=h
 exact map_alien h1
theorem files_get [Ow] {w:World} {r:Nat} {f:Int->Ino} (h:FilesAt w r f) {id:Int} {K:List Value->Prop} (hK:∀ cs,InoAt w cs (f id)->K cs):drM (some r) fun r=>mlk w r .i64 id fun q=>lvA ZI q K:=by
 obtain ⟨m,h1,h2⟩:=h
 obtain ⟨cs,e,hx⟩:=h2 id
 exact drM_mk (mlk_mk h1 ⟨cs,e,hK cs hx⟩)
theorem files_put [Ow] {w:World} {r:Nat} {f:Int->Ino} (h:FilesAt w r f) {id:Int} {cs:List Value} {x:Ino} (hx:InoAt w cs x) {K:World->Prop} (hK:∀ w',FilesAt w' r (updF f id x)->Fr (fun k=>k=r) w w'->K w'):drM (some r) fun r=>mup w r .i64 id (ofL cs) K:=by
 have ha:=h.alien
 obtain ⟨m,h1,h2⟩:=h
 refine drM_mk (mup_mk h1 (fun w' g1 g2 _=>hK w' ⟨_,g1,fun k=>?_⟩ g2))
 unfold updI updF
 by_cases hk:k=id
 ·rw [if_pos hk,if_pos hk]
  exact ⟨cs,rfl,hx.fr g2 (fun j hj=>by have hj:j=r:=hj; rw [hj]; exact ha)⟩
 ·rw [if_neg hk,if_neg hk]
  obtain ⟨cs',e,hx'⟩:=h2 k
  exact ⟨cs',e,hx'.fr g2 (fun j hj=>by have hj:j=r:=hj; rw [hj]; exact ha)⟩
theorem files_del [Ow] {w:World} {r:Nat} {f:Int->Ino} (h:FilesAt w r f) {id:Int} {K:World->Prop} (hK:∀ w',FilesAt w' r (updF f id zI)->Fr (fun k=>k=r) w w'->K w'):drM (some r) fun r=>mdl w r .i64 id K:=by
 have ha:=h.alien
 obtain ⟨m,h1,h2⟩:=h
 refine drM_mk (mdl_mk h1 (fun w' g1 g2 _=>hK w' ⟨_,g1,fun k=>?_⟩ g2))
 unfold updI updF
 by_cases hk:k=id
 ·rw [if_pos hk,if_pos hk]
  obtain ⟨cs',_,hx'⟩:=h2 k
  exact ⟨ZI,rfl,zI_at (hx'.ok.fr g2)⟩
 ·rw [if_neg hk,if_neg hk]
  obtain ⟨cs',e,hx'⟩:=h2 k
  exact ⟨cs',e,hx'.fr g2 (fun j hj=>by have hj:j=r:=hj; rw [hj]; exact ha)⟩
def dkC (d:Dk) (u v:Value) (r:Nat) (fz:Bool) (lv:Int):List Value:=[.int .i64 d.lb,.int .i64 d.lf,u,v,.map (some r),.int .i64 d.last,.bool d.down,.bool fz,.int .i64 lv,.int .i64 d.calls]
def fuR (o:Option Int) (fz:Bool) (lv:Int):Prop:=match o with | none=>fz=false | some n=>fz=true/\lv=n
def DkAt [Ow] (w:World) (db r:Nat) (d:Dk):Prop:=∃ u v fz lv,RecAt w db 52 (dkC d u v r fz lv)/\FoAt w [u,v] d.F/\FilesAt w r d.f/\fuR d.fu fz lv
theorem dk_alien0 [Ow] {w:World} {db:Nat} {d:Dk} {u v:Value} {r:Nat} {fz:Bool} {lv:Int} (h:RecAt w db 52 (dkC d u v r fz lv)) (hf:FoAt w [u,v] d.F):Alien0 w db:=by
 obtain ⟨A,n,c,A',n',c',e,_⟩:=hf
 injection e with e1 e
 injection e with e2 e
 subst e1; subst e2
 have hc:∀ o,cellAt w db o=(dkC d (.slice A n c) (.slice A' n' c') r fz lv)[o]?:=fun o=>by rw [cellAt_blk h]; simp
 refine ⟨fun o s hs=>?_,fun o x hx=>?_,fun o t z A1 n1 c1 ht=>?_⟩
 ·rw [hc] at hs
  match o,hs with
  | 0,hs=>cases hs
  | 1,hs=>cases hs
  | 2,hs=>cases hs
  | 3,hs=>cases hs
  | 4,hs=>cases hs
  | 5,hs=>cases hs
  | 6,hs=>cases hs
  | 7,hs=>cases hs
  | 8,hs=>cases hs
  | 9,hs=>cases hs
  | o+10,hs=>cases hs
 ·rw [hc] at hx
  match o,hx with
  | 0,hx=>cases hx
  | 1,hx=>cases hx
  | 2,hx=>cases hx
  | 3,hx=>cases hx
  | 4,hx=>cases hx
  | 5,hx=>cases hx
  | 6,hx=>cases hx
  | 7,hx=>cases hx
  | 8,hx=>cases hx
  | 9,hx=>cases hx
  | o+10,hx=>cases hx
 ·obtain ⟨h0,h1,h2⟩:=ht
  rw [hc] at h0 h1 h2
  match o,h0,h1,h2 with
  | 0,h0,h1,h2=>cases h0
  | 1,h0,h1,h2=>cases h0
  | 2,h0,h1,h2=>cases h0
  | 3,h0,h1,h2=>cases h0
  | 4,h0,h1,h2=>cases h0
  | 5,h0,h1,h2=>cases h0
  | 6,h0,h1,h2=>cases h1
  | 7,h0,h1,h2=>cases h2
  | 8,h0,h1,h2=>cases h0
  | 9,h0,h1,h2=>cases h0
  | o+10,h0,h1,h2=>cases h0
theorem dk_alien [Ow] {w:World} {db:Nat} {d:Dk} {u v:Value} {r:Nat} {fz:Bool} {lv:Int} (h:RecAt w db 52 (dkC d u v r fz lv)) (hf:FoAt w [u,v] d.F):Alien w db:=fun _=>dk_alien0 h hf
theorem DkAt.alien0 [Ow] {w:World} {db r:Nat} {d:Dk} (h:DkAt w db r d):Alien0 w db/\Alien0 w r:=by
 obtain ⟨u,v,fz,lv,h1,h2,h3,_⟩:=h
 exact ⟨dk_alien0 h1 h2,h3.alien0⟩
theorem DkAt.ne [Ow] {w:World} {db r:Nat} {d:Dk} (h:DkAt w db r d):db ≠ r:=by
 obtain ⟨u,v,fz,lv,h1,h2,⟨g,⟨m,c,h3,_⟩,_⟩,_⟩:=h
 intro e
 subst e
 have h3:w.heap[db]?=some (.map (m.map (mkE .i64)).toArray c):=h3
 have h1:w.heap[db]?=some _:=h1
 rw [h1] at h3
 cases h3
theorem DkAt.lt [Ow] {w:World} {db r:Nat} {d:Dk} (h:DkAt w db r d):db < w.heap.size/\r < w.heap.size:=by
 obtain ⟨u,v,fz,lv,h1,h2,h3,_⟩:=h
 exact ⟨h1.lt,h3.lt⟩
theorem DkAt.fr [Ow] {S:Nat->Prop} {w w':World} {db r:Nat} {d:Dk} (h:DkAt w db r d) (f:Fr S w w') (h1:¬ S db) (h2:¬ S r) (hS:∀ k,S k->Alien w k):DkAt w' db r d:=by
 obtain ⟨u,v,fz,lv,q1,q2,q3,q4⟩:=h
 exact ⟨u,v,fz,lv,q1.fr f h1,fo_fr q2 f hS,q3.fr f h2 hS,q4⟩
theorem DkAt.fr0 [Ow] {w w':World} {db r:Nat} {d:Dk} (h:DkAt w db r d) (f:Fr (fun _=>False) w w'):DkAt w' db r d:=h.fr f (fun h=>h) (fun h=>h) (fun _ h=>h.elim)
def DS (db r:Nat):Nat->Prop:=fun k=>k=db\/k=r
theorem fr_up {S:Nat->Prop} {w w':World} (f:Fr (fun _=>False) w w'):Fr S w w':=f.mono (fun _ _ h=>h.elim)
theorem sl_map {w:World} {r:Nat} {g:Int->Option Value} (h:MapI w r g) {sz:Nat} {A:Option Addr} {n:Nat} {vs:List Value} (hs:Sl w sz A n vs) (hz:sz ≠ 0) (h0:n ≠ 0) {k:Nat} (hk:blkOf A=some k):k ≠ r:=by
 obtain ⟨m,c,h,_⟩:=h
 have h:w.heap[r]?=some (.map (m.map (mkE .i64)).toArray c):=h
 obtain ⟨b,o,rfl,hc⟩:=hs.2 h0
 injection hk with hk
 have hk:b=k:=hk
 subst hk
 intro e
 subst e
 have hl:=hs.1
 have hlp:0 < vs.length:=by rw [hl]; exact Nat.mul_pos (by omega) (by omega)
 have:=hc 0 _ (List.getElem?_eq_getElem hlp)
 unfold cellAt World.cell? at this
 simp only [h] at this
 cases this
theorem sl_fr_map [Ow] {w w':World} {r:Nat} {f:Int->Ino} (h:FilesAt w r f) (g:Fr (fun k=>k=r) w w') {sz:Nat} {A:Option Addr} {n:Nat} {vs:List Value} (hs:Sl w sz A n vs) (hz:sz ≠ 0):Sl w' sz A n vs:=by
 obtain ⟨m,h1,_⟩:=h
 exact g.sl hs (fun h0 k hk e=>sl_map h1 hs hz h0 hk e)
theorem asc_get {l:List Int} (h:AscI l) {i j:Nat} {x y:Int} (hi:l[i]?=some x) (hj:l[j]?=some y) (hij:i < j):x < y:=by
 obtain ⟨h1,rfl⟩:=List.getElem?_eq_some_iff.1 hi
 obtain ⟨h2,rfl⟩:=List.getElem?_eq_some_iff.1 hj
 exact (List.pairwise_iff_getElem.1 h) i j h1 h2 hij
def forg (K W:List Int) (f:Int->Ino):Int->Ino:=fun id=>if id ∈ W/\id ∉ K then zI else f id
theorem forg_trim {F:Fo} {W:List Int} {f:Int->Ino} (h:∀ id,id ∉ W->f id=zI):forg (idsF F) W f=trim F f:=by
 funext id
 unfold forg trim
 by_cases h1:id ∈ idsF F
 ·rw [if_neg (fun h=>h.2 h1),if_pos h1]
 ·rw [if_neg h1]
  by_cases h2:id ∈ W
  ·rw [if_pos ⟨h2,h1⟩]
  ·rw [if_neg (fun h=>h2 h.1),h id h2]
set_option maxHeartbeats 2000000 in
theorem keep_calls [Ow] (db r:Nat) (d:Dk) (A:Option Addr) (n c:Nat) (W:List Int) (w:World) (h:DkAt w db r d) (hb:FoB d.F) (hW:Sl w 1 A n (ivs W)) (ha:AscI W) (hn:n<=549755813888) :
  Calls Tryz.prog 97 #[.pointer (some ⟨db,0,none⟩),.slice A n c] w fun e w'=>Fr (fun k=>k=r) w w'/\e=.returned (.tuple #[])/\DkAt w' db r { d with f:=forg (idsF d.F) W d.f }:=by
 refine (F97.of (some ⟨db,0,none⟩) A n c w (Q:=fun v w'=>Fr (fun k=>k=r) w w'/\v=.tuple #[]/\DkAt w' db r { d with f:=forg (idsF d.F) W d.f }) ?_).mono (fun e w' ⟨v,he,hf,hv,h⟩=>⟨hf,by rw [he,hv],h⟩)
 have hlt:=h.lt
 have hne:=h.ne
 obtain ⟨u,v,fz,lv,h1,h2,h3,h4⟩:=h
 have hWl:=sl_n hW
 refine dr_mk ⟨[u,v],rfl,h1.cells (fun j x hj=>?_),(ids_calls [u,v] d.F w h2 hb).mono ?_⟩
 ·match j,hj with
  | 0,hj=>exact hj
  | 1,hj=>exact hj
  | j+2,hj=>cases hj
 rintro e w4 ⟨f4,A6,c8,rfl,r6⟩
 have hKa:=ids_asc d.F
 have hKl:(idsF d.F).length<=349526 * 349525:=by
  have hb':d.F.L.length+d.F.P.length<=349525:=hb
  have a1:=norm_len' (idsU d.F (d.F.P.length+1))
  have a2:=idsU_len hb (d.F.P.length+1)
  have a3:(d.F.P.length+1) * 349525<=349526 * 349525:=Nat.mul_le_mul_right _ (by omega)
  unfold idsF
  omega
 have hs6:=r6.sl
 generalize hK:idsF d.F=K at hKa hKl r6 hs6 ⊢
 have h1:=h1.fr f4 (fun h=>h)
 have h2:=h2.fr0 f4
 have h3:=h3.fr f4 (fun h=>h) (fun _ h=>h.elim)
 have hW4:=f4.sl hW (fun _ _ _ h=>h)
 have hs4:=f4.size
 refine ⟨A6,_,c8,rfl,jnC_mk (loop_rule (fun s x=>Fr (fun k=>k=r) w x/\Fr (fun k=>k=r) w4 x/\∃ (i k:Nat),i<=n/\k<=K.length/\s=(some ⟨db,0,none⟩,(A6,K.length,c8),(k:Int),(A,n,c),(n:Int),(i:Int),())/\FilesAt x r (forg K (W.take i) d.f)/\∀ a ∈ K.take k,∀ b ∈ W.drop i,a < b)
  (fun s _=>(n - s.2.2.2.2.2.1).toNat) ?_ _ _ ⟨fr_up f4,Fr.refl _ _,0,0,by omega,by omega,rfl,?_,fun a ha=>by simp at ha⟩)⟩
 ·rintro s x C ⟨hf,hf4,i,k,hi,hk,rfl,hFi,hlo⟩ hC _
  have h1x:=h1.fr hf4 (fun h=>hne h)
  have hWx:Sl x 1 A n (ivs W):=sl_fr_map h3 hf4 hW4 (by omega)
  have hKx:Sl x 1 A6 K.length (ivs K):=sl_fr_map h3 hf4 hs6 (by omega)
  refine vIf_mk (fun hlt2=>?_) (fun hge=>?_)
  ·have hlt2:(i:Int) < (n:Int):=of_decide_eq_true hlt2
   have gi:W[i]?=some (W[i]'(by omega)):=List.getElem?_eq_getElem (by omega)
   generalize W[i]'(by omega)=id at gi
   have hdi:W.drop i=id :: W.drop (i+1):=drop_at gi
   have ms:((n:Int) - IntKind.wrap .i64 ((i:Int)+1)).toNat < ((n:Int) - (i:Int)).toNat:=by rw [ei i (by omega)]; omega
   have eT:W.take (i+1)=W.take i ++ [id]:=by rw [List.take_add_one,gi]; rfl
   refine sl_rd hWx (by omega) gi (jnC_mk (loop_rule (fun s y=>y=x/\∃ (k:Nat),k<=K.length/\s=(some ⟨db,0,none⟩,(A6,K.length,c8),(k:Int),id,(A,n,c),(n:Int),(i:Int),())/\∀ a ∈ K.take k,a < id)
    (fun s _=>(K.length - s.2.2.1).toNat) ?_ _ _ ⟨rfl,k,hk,rfl,fun a ha=>hlo a ha id (by rw [hdi]; exact List.mem_cons_self ..)⟩))
   rintro s y C2 ⟨rfl,k,hk,rfl,hlo2⟩ hC2 _
   have k7:(k < K.length->∀ a,K[k]?=some a->¬ a < id)->jnC (F97.k7 (fun v w'=>Fr (fun k=>k=r) w w'/\v=.tuple #[]/\DkAt w' db r { d with f:=forg K W d.f }) C) (some ⟨db,0,none⟩,(A6,K.length,c8),(k:Int),id,(A,n,c),(n:Int),(i:Int),()) y:=by
    intro hst
    have hlo3:∀ a ∈ K.take k,∀ b ∈ W.drop (i+1),a < b:=fun a ha b hb=>by
     have h1:=hlo2 a ha
     obtain ⟨j,hj,hb⟩:=mem_drop_ge hb
     have h2:=asc_get ‹AscI W› gi hb (by omega)
     omega
    have hin:id ∈ K ↔ K[k]?=some id:=by
     constructor
     ·intro hm
      obtain ⟨j,hj⟩:=List.mem_iff_getElem?.1 hm
      have hjl:=(List.getElem?_eq_some_iff.1 hj).1
      have hjk:k<=j:=by
       by_cases hjk:j < k
       ·have:=hlo2 id (List.mem_iff_getElem?.2 ⟨j,by rw [List.getElem?_take,if_pos hjk]; exact hj⟩)
        omega
       ·omega
      by_cases hjk2:j=k
      ·rw [<- hjk2]; exact hj
      ·have gk:K[k]?=some (K[k]'(by omega)):=List.getElem?_eq_getElem (by omega)
       have h1:=hst (by omega) _ gk
       have h2:=asc_get hKa gk hj (by omega)
       omega
     ·intro h; exact List.mem_of_getElem? h
    have k8:∀ t:Bool,(t=true ↔ id ∉ K)->jnC (F97.k8 (fun v w'=>Fr (fun k=>k=r) w w'/\v=.tuple #[]/\DkAt w' db r { d with f:=forg K W d.f }) C) (some ⟨db,0,none⟩,(A6,K.length,c8),(k:Int),id,(A,n,c),(n:Int),(i:Int),t,()) y:=by
     intro t ht
     refine jnC_mk (fun _=>vIf_mk (fun htt=>?_) (fun htf=>?_))
     ·have hno:=ht.1 htt
      refine dr_mk ⟨some r,h1x.cell (o:=0+4) rfl,files_del hFi (fun w' hF' f'=>jnC_mk (hC _ _ ⟨hf.trans1 f',hf4.trans1 f',i+1,k,by omega,hk,by rw [ei i (by omega)],?_,hlo3⟩ ms))⟩
      have e2:updF (forg K (W.take i) d.f) id zI=forg K (W.take (i+1)) d.f:=by
       funext j
       unfold updF forg
       rw [eT]
       by_cases hj:j=id
       ·subst hj
        rw [if_pos rfl,if_pos ⟨by simp,hno⟩]
       ·rw [if_neg hj]
        have:(j ∈ W.take i ++ [id]/\j ∉ K) ↔ (j ∈ W.take i/\j ∉ K):=by simp [hj]
        simp only [this]
      rw [e2] at hF'
      exact hF'
     ·have hyes:id ∈ K:=by
       by_cases hm:id ∈ K
       ·exact hm
       ·have:=ht.2 hm
        have htf:t=false:=htf
        rw [htf] at this; cases this
      refine jnC_mk (hC _ _ ⟨hf,hf4,i+1,k,by omega,hk,by rw [ei i (by omega)],?_,hlo3⟩ ms)
      have e2:forg K (W.take (i+1)) d.f=forg K (W.take i) d.f:=by
       funext j
       unfold forg
       rw [eT]
       have:(j ∈ W.take i ++ [id]/\j ∉ K) ↔ (j ∈ W.take i/\j ∉ K):=by
        constructor
        ·rintro ⟨h1,h2⟩
         refine ⟨?_,h2⟩
         rcases List.mem_append.1 h1 with h1 | h1
         ·exact h1
         ·rw [List.mem_singleton.1 h1] at h2; exact absurd hyes h2
        ·rintro ⟨h1,h2⟩
         exact ⟨List.mem_append.2 (.inl h1),h2⟩
       simp only [this]
      rw [e2]; exact hFi
    refine jnC_mk (fun _=>vIf_mk (fun hkl=>k8 true ⟨fun _ hm=>?_,fun _=>rfl⟩) (fun hkl=>?_))
    ·have hkl:(k:Int)=(K.length:Int):=by simpa using hkl
     have:=hin.1 hm
     have:=(List.getElem?_eq_some_iff.1 this).1
     omega
    ·have hkl:¬ (k:Int)=(K.length:Int):=by simpa using hkl
     have gk:K[k]?=some (K[k]'(by omega)):=List.getElem?_eq_getElem (by omega)
     generalize K[k]'(by omega)=a at gk
     refine sl_rd hKx (by omega) gk (k8 _ ?_)
     rw [hin,gk]
     constructor
     ·intro ht e
      injection e with e
      subst e
      simp at ht
     ·intro hne2
      have:a ≠ id:=fun e=>hne2 (by rw [e])
      simpa using this
   refine vIf_mk (fun hkl=>?_) (fun hkl=>k7 (fun hk2=>?_))
   ·have hkl:(k:Int) < (K.length:Int):=of_decide_eq_true hkl
    have gk:K[k]?=some (K[k]'(by omega)):=List.getElem?_eq_getElem (by omega)
    generalize K[k]'(by omega)=a at gk
    refine sl_rd hKx (by omega) gk (vIf_mk (fun hal=>jnC_mk (hC2 _ _ ⟨rfl,k+1,by omega,by rw [ei k (by omega)],fun a' ha'=>?_⟩ ?_)) (fun hal=>k7 (fun _ a' ha'=>?_)))
    ·have hal:=of_decide_eq_true hal
     rw [List.take_add_one,gk] at ha'
     rcases List.mem_append.1 ha' with h | h
     ·exact hlo2 a' h
     ·have h:a'=a:=by simpa using h
      rw [h]; exact hal
    ·show ((K.length:Int) - IntKind.wrap .i64 ((k:Int)+1)).toNat < ((K.length:Int) - (k:Int)).toNat
     rw [ei k (by omega)]; omega
    ·have hal:=of_decide_eq_false hal
     rw [gk] at ha'
     injection ha' with ha'
     rw [<- ha']; exact hal
   ·have hkl:¬ (k:Int) < (K.length:Int):=of_decide_eq_false hkl
    omega
  ·have hge:¬ (i:Int) < (n:Int):=of_decide_eq_false hge
   have e:W.take i=W:=List.take_of_length_le (by omega)
   rw [e] at hFi
   have h2x:=fo_fr h2 hf4 (fun k hk=>by have hk:k=r:=hk; rw [hk]; exact h3.alien)
   exact ⟨hf,rfl,u,v,fz,lv,h1x,h2x,hFi,h4⟩
 ·have e:forg K (W.take 0) d.f=d.f:=by
   funext j
   unfold forg
   rw [if_neg (fun h=>by simp at h)]
  rw [e]; exact h3
structure DkB (d:Dk) (N:Nat):Prop where
 fo:d.F.L.length+d.F.P.length<=N
 p:∀ id,(d.f id).p.length<=N
 last:0<=d.last/\d.last<=N
 calls:0<=d.calls/\d.calls<=(N:Int) * 1000000+1000000
 fu:∀ n,d.fu=some n->n<=9223372036854775807
 lb:d.lb<=9223372036854775807
 lf:d.lf<=9223372036854775807
theorem ids_max {F:Fo} (hb:FoB F):(idsF F).length<=122168075150:=by
 have hb':F.L.length+F.P.length<=349525:=hb
 have a1:=norm_len' (idsU F (F.P.length+1))
 have a2:=idsU_len hb (F.P.length+1)
 have a3:(F.P.length+1) * 349525<=349526 * 349525:=Nat.mul_le_mul_right _ (by omega)
 unfold idsF
 omega
theorem fo_cells [Ow] {w:World} {cs:List Value} {F:Fo} (h:FoAt w cs F):∃ u v,cs=[u,v]/\u.oneCell'=true/\v.oneCell'=true:=by
 obtain ⟨A,n,c,A',n',c',e,_⟩:=h
 exact ⟨_,_,e,rfl,rfl⟩
theorem dk_set [Ow] {w:World} {db r:Nat} {d d':Dk} {u v:Value} {fz fz':Bool} {lv lv':Int} {o:Nat} {vs:List Value} {K:World->Prop} (h1:RecAt w db 52 (dkC d u v r fz lv)) (h2:FoAt w [u,v] d.F) (h3:FilesAt w r d.f)
  (e:splice (dkC d u v r fz lv) o vs=dkC d' u v r fz' lv') (hl:o+vs.length<=10) (ho:∀ v ∈ vs,v.oneCell'=true) (hF:d'.F=d.F) (hf:d'.f=d.f) (hne:db ≠ r)
  (hK:∀ w',Fr (fun k=>k=db) w w'->RecAt w' db 52 (dkC d' u v r fz' lv')->FoAt w' [u,v] d'.F->FilesAt w' r d'.f->K w'):st w db o vs K:=by
 have ha:=dk_alien h1 h2
 refine h1.st_mk hl ho (fun r2 f2=>hK _ f2 (by rw [e] at r2; exact r2) ?_ ?_)
 ·rw [hF]; exact fo_fr h2 f2 (fun k hk=>by have hk:k=db:=hk; rw [hk]; exact ha)
 ·rw [hf]; exact h3.fr f2 (fun h=>hne h.symm) (fun k hk=>by have hk:k=db:=hk; rw [hk]; exact ha)
theorem dk_setF [Ow] {w:World} {db r:Nat} {d:Dk} {F':Fo} {cs:List Value} {K:World->Prop} (h:DkAt w db r d) (hF:FoAt w cs F') (hK:∀ w',Fr (fun k=>k=db) w w'->DkAt w' db r { d with F:=F' }->K w'):gd (cs.length == 2) (st w db (0+2) cs K):=by
 have hne:=h.ne
 obtain ⟨u,v,fz,lv,h1,h2,h3,h4⟩:=h
 have ha:=dk_alien h1 h2
 obtain ⟨u',v',rfl,hu,hv⟩:=fo_cells hF
 refine gd_mk rfl (h1.st_mk (by show 0+2+2<=10; omega) (fun x hx=>?_) (fun r2 f2=>hK _ f2 ⟨u',v',fz,lv,r2,?_,?_,h4⟩))
 ·simp only [List.mem_cons,List.not_mem_nil,or_false] at hx
  rcases hx with rfl | rfl
  ·exact hu
  ·exact hv
 ·exact fo_fr hF f2 (fun k hk=>by have hk:k=db:=hk; rw [hk]; exact ha)
 ·exact h3.fr f2 (fun h=>hne h.symm) (fun k hk=>by have hk:k=db:=hk; rw [hk]; exact ha)
theorem dk_getF [Ow] {w:World} {db r:Nat} {d:Dk} (h:DkAt w db r d) {K:List Value->Prop} (hK:∀ cs,FoAt w cs d.F->K cs):ldA 2 w db (0+2) K:=by
 obtain ⟨u,v,fz,lv,h1,h2,h3,h4⟩:=h
 refine ⟨[u,v],rfl,h1.cells (fun j x hj=>?_),hK _ h2⟩
 match j,hj with
 | 0,hj=>exact hj
 | 1,hj=>exact hj
 | j+2,hj=>cases hj
theorem dk_getM [Ow] {w:World} {db r:Nat} {d:Dk} (h:DkAt w db r d) {K:Option Nat->Prop} (hK:K (some r)):ldM w db (0+4) K:=by
 obtain ⟨u,v,fz,lv,h1,h2,h3,h4⟩:=h
 exact ⟨some r,h1.cell rfl,hK⟩
theorem dk_getI [Ow] {w:World} {db r:Nat} {d:Dk} (h:DkAt w db r d) {o:Nat} {x:Int} (hx:(o=0/\x=d.lb)\/(o=1/\x=d.lf)\/(o=5/\x=d.last)\/(o=9/\x=d.calls)) {K:Int->Prop} (hK:K x):ldI .i64 w db (0+o) K:=by
 obtain ⟨u,v,fz,lv,h1,h2,h3,h4⟩:=h
 refine ⟨x,h1.cell ?_,hK⟩
 rw [Nat.zero_add]
 rcases hx with ⟨rfl,rfl⟩ | ⟨rfl,rfl⟩ | ⟨rfl,rfl⟩ | ⟨rfl,rfl⟩ <;> rfl
theorem sum_take {l:List Int} {i:Nat} {x:Int} (h:l[i]?=some x) (g:Int->Int):((l.take (i+1)).map g).sum=((l.take i).map g).sum+g x:=by
 rw [List.take_add_one,h]; simp
theorem sum_rng (g:Int->Int) (M:Int) (h:∀ x,0<=g x/\g x<=M):∀ l:List Int,0<=(l.map g).sum/\(l.map g).sum<=l.length * M
 | []=>by simp
 | x :: l=>by
  obtain ⟨a,b⟩:=sum_rng g M h l
  have:=h x
  simp only [List.map_cons,List.sum_cons,List.length_cons,Int.natCast_add,Int.add_mul]
  omega
set_option maxHeartbeats 1000000 in
theorem taken_calls [Ow] (db r:Nat) (d:Dk) (w:World) (h:DkAt w db r d) (hb:FoB d.F) (hi:∀ id,InoB (d.f id)) (hp:∀ id,(d.f id).p.length<=1099511627775) :
  Calls Tryz.prog 29 #[.pointer (some ⟨db,0,none⟩)] w fun e w'=>e=.returned (.int .i64 (takenF d.F d.f))/\Fr (fun _=>False) w w':=by
 refine (F29.of (some ⟨db,0,none⟩) w (Q:=fun v w'=>v=.int .i64 (takenF d.F d.f)/\Fr (fun _=>False) w w') ?_).mono (fun e w' ⟨v,he,hv,h⟩=>⟨by rw [he,hv],h⟩)
 refine dr_mk (dk_getF h (fun cs hF=>(ids_calls cs d.F w hF hb).mono ?_))
 rintro e w4 ⟨f4,A6,c8,rfl,r6⟩
 have hm:=ids_max hb
 have hs6:=r6.sl
 have hroom:∀ x,0<=roomI (d.f x)/\roomI (d.f x)<=1048576:=fun x=>by have:=room_le (hi x); omega
 unfold takenF
 generalize idsF d.F=K at hm r6 hs6 ⊢
 have h4:=h.fr0 f4
 refine ⟨A6,_,c8,rfl,jnC_mk (loop_rule (fun s x=>Fr (fun _=>False) w x/\Fr (fun _=>False) w4 x/\∃ (i:Nat),i<=K.length/\s=(some ⟨db,0,none⟩,((K.take i).map fun id=>roomI (d.f id)).sum,(A6,K.length,c8),(K.length:Int),(i:Int),()))
  (fun s _=>(K.length - s.2.2.2.2.1).toNat) ?_ _ _ ⟨f4,Fr.refl _ _,0,by omega,rfl⟩)⟩
 rintro s x C ⟨hf,hf4,i,hi2,rfl⟩ hC _
 refine vIf_mk (fun hlt=>?_) (fun hge=>?_)
 ·have hlt:(i:Int) < (K.length:Int):=of_decide_eq_true hlt
  have gi:K[i]?=some (K[i]'(by omega)):=List.getElem?_eq_getElem (by omega)
  generalize K[i]'(by omega)=id at gi
  have hx:=h4.fr0 hf4
  have hx0:=hx
  obtain ⟨u,v,fz,lv,h1,h2,h3,h4'⟩:=hx0
  refine sl_rd (hf4.sl hs6 (fun _ _ _ h=>h)) (by omega) gi (dr_mk (dk_getM hx (files_get h3 (fun cs hI=>(room_calls cs _ x hI (hi id) (hp id)).mono ?_))))
  rintro e w9 ⟨rfl,f9⟩
  have hsum:=sum_rng (fun id=>roomI (d.f id)) 1048576 hroom (K.take i)
  have hti:(K.take i).length=i:=by rw [List.length_take]; omega
  rw [hti] at hsum
  have hr:=hroom id
  have e1:IntKind.wrap .i64 (((K.take i).map fun id=>roomI (d.f id)).sum+roomI (d.f id))=((K.take (i+1)).map fun id=>roomI (d.f id)).sum:=by
   rw [sum_take gi (fun id=>roomI (d.f id))]
   exact i64_id (by omega) (by omega)
  refine ⟨_,rfl,jnC_mk (hC _ _ ⟨hf.trans1 f9,hf4.trans1 f9,i+1,by omega,?_⟩ ?_)⟩
  ·rw [ei i (by omega),e1]
  ·show ((K.length:Int) - IntKind.wrap .i64 ((i:Int)+1)).toNat < ((K.length:Int) - (i:Int)).toNat
   rw [ei i (by omega)]; omega
 ·have hge:¬ (i:Int) < (K.length:Int):=of_decide_eq_false hge
  have e:K.take i=K:=List.take_of_length_le (by omega)
  rw [e]
  exact ⟨rfl,hf⟩
set_option maxHeartbeats 2000000 in
theorem change_calls [Ow] (db r:Nat) (d:Dk) (x:Ch) (w:World) (h:DkAt w db r d) (hx:ChB x) (hb:d.F.L.length+d.F.P.length<=349524) (ho:∀ id,id ∉ idsF d.F->d.f id=zI) :
  Calls Tryz.prog 94 #[.pointer (some ⟨db,0,none⟩),ofL (encC x)] w fun e w'=>Fr (DS db r) w w'/\e=.returned (.int .i64 (chD d x).2)/\DkAt w' db r (chD d x).1:=by
 refine (F94.of (some ⟨db,0,none⟩) (encC x) w (Q:=fun v w'=>Fr (DS db r) w w'/\v=.int .i64 (chD d x).2/\DkAt w' db r (chD d x).1) ?_).mono (fun e w' ⟨v,he,hf,hv,h⟩=>⟨hf,by rw [he,hv],h⟩)
 have hbF:FoB d.F:=by unfold FoB; omega
 have hbF':FoB (doF d.F x):=by
  unfold FoB doF
  split
  ·show d.F.L.length+(d.F.P ++ [x]).length<=_
   rw [List.length_append,List.length_singleton]; omega
  ·omega
 have hlt0:=h.lt
 have hm:=ids_max hbF
 refine rec_new (fun b1 w2 f2 hb1 r1=>dr_mk (dk_getF (h.fr0 f2) (fun cs hF=>(ids_calls cs d.F w2 hF hbF).mono ?_)))
 rintro e w6 ⟨f6,A8,c10,rfl,r8⟩
 have f26:=f2.trans1 f6
 have fd:Fr (fun _=>False) w6 w6.drew:=Fr.drew _ _
 have f0:=f26.trans1 fd
 have h7:=h.fr0 f0
 have hlt1:=r1.lt
 have r1:=(r1.fr f6 (fun h=>h)).fr fd (fun h=>h)
 have r8:=fd.row r8 (fun _ _ h=>h)
 have hs2:=f2.size
 have hs6:=(f6.trans1 fd).size
 have e0:w6.drew.heap.size=w6.heap.size:=rfl
 generalize w6.drew=w7 at fd f0 h7 r1 r8 hs6 e0 ⊢
 have fin:∀ (u:World) (cs':List Value),Fr (fun k=>w7.heap.size<=k) w7 u->DkAt u db r d->FoAt u cs' (doF d.F x)->gd (cs'.length == 2) (st u db (0+2) cs' fun w25 =>
   Calls Tryz.prog 97 #[Value.pointer (some ⟨db,0,none⟩),Value.slice A8 (idsF d.F).length c10] w25 fun e27 w26=>e27=.returned (Value.tuple #[])/\(Fr (DS db r) w w26/\Value.int .i64 (wrongF d.F x)=.int .i64 (chD d x).2/\DkAt w26 db r (chD d x).1)):=by
  intro u cs' fu hu hF'
  refine dk_setF hu hF' (fun w25 f25 h25=>?_)
  have hrow:Sl w25 1 A8 (idsF d.F).length (ivs (idsF d.F)):=by
   refine f25.sl (fu.sl r8.sl (fun h0 k hk h=>?_)) (fun h0 k hk h=>?_)
   ·have:=(r8.blt hk).2; omega
   ·have h:k=db:=h
    have:=(r8.blt hk).1; omega
  refine (keep_calls db r _ A8 _ c10 (idsF d.F) w25 h25 hbF' hrow (ids_asc _) (by omega)).mono ?_
  rintro e w26 ⟨f26',rfl,h26⟩
  refine ⟨rfl,?_,rfl,?_⟩
  ·have g1:Fr (DS db r) w u:=f0.trans fu (fun _ _ h=>h.elim) (fun k hk h=>by omega)
   exact (g1.trans f25 (fun _ _ h=>h) (fun k hk h=>.inl h)).trans f26' (fun _ _ h=>h) (fun k hk h=>.inr h)
  ·have e2:forg (idsF (doF d.F x)) (idsF d.F) d.f=trim (doF d.F x) d.f:=forg_trim ho
   have h26:DkAt w26 db r { d with F:=doF d.F x,f:=forg (idsF (doF d.F x)) (idsF d.F) d.f }:=h26
   rw [e2] at h26
   exact h26
 refine ⟨A8,_,c10,rfl,dr_mk (dk_getF h7 (fun cs hF=>⟨encC x,rfl,rec_rd r1,?_,?_⟩))⟩
 ·refine (do_calls cs d.F x w7 hF hbF hx).mono ?_
  rintro e w15 ⟨f15,a17,rfl,hF'⟩
  refine ⟨_,_,rfl,?_⟩
  refine nw_mk ?_
  have g1:Fr (fun _=>False) w15 (w15.alloc (.cells [Value.slice none 0 0,Value.slice none 0 0].toArray 50)):=Fr.alloc _ _ _
  have q1:=RecAt.new w15 [Value.slice none 0 0,Value.slice none 0 0] 50
  have hb19:w7.heap.size<=w15.heap.size:=f15.size
  generalize w15.heap.size=b19 at q1 hb19 ⊢
  generalize w15.alloc (.cells [Value.slice none 0 0,Value.slice none 0 0].toArray 50)=w20 at g1 q1 ⊢
  have g2:=f15.trans1 g1
  have hF20:=hF'.fr0 g1
  refine kp_mk g2 r1.lt (fun h=>h) (kp_mk g2 h7.lt.1 (fun h=>h) ?_)
  obtain ⟨u',v',rfl,hu,hv⟩:=fo_cells hF20
  refine gd_mk rfl (fo_st (y:=[u',v']) q1 rfl (fun y hy=>?_) (fun w21 f21 r21=>⟨_,rfl,rec_rd r21,dr_mk (fin w21 _ ?_ ?_ ?_)⟩))
  ·simp only [List.mem_cons,List.not_mem_nil,or_false] at hy
   rcases hy with rfl | rfl
   ·exact hu
   ·exact hv
  ·exact g2.trans f21 (fun _ _ h=>h.elim) (fun k hk h=>by have h:k=b19:=h; omega)
  ·have g3:Fr (fun k=>k=b19) w7 w21:=g2.trans f21 (fun _ _ h=>h.elim) (fun _ _ h=>h)
   have:=h7.lt
   exact (h7.fr0 g2).fr f21 (fun h=>by have h:db=b19:=h; omega) (fun h=>by have h:r=b19:=h; omega) (fun k hk=>by have hk:k=b19:=hk; rw [hk]; exact two_alien q1)
  ·exact fo_fr hF20 f21 (fun k hk=>by have hk:k=b19:=hk; rw [hk]; exact two_alien q1)
 ·refine rec_new (fun b28 w29 f29 hb28 r28=>kp_mk f29 r1.lt (fun h=>h) (kp_mk f29 h7.lt.1 (fun h=>h) ((do_calls cs d.F x w29 (hF.fr0 f29) hbF hx).mono ?_)))
  rintro e w30 ⟨f30,a32,rfl,hF'⟩
  have r28:=r28.fr f30 (fun h=>h)
  have g2:=f29.trans1 f30
  refine ⟨_,_,rfl,?_⟩
  obtain ⟨u',v',rfl,hu,hv⟩:=fo_cells hF'
  refine gd_mk rfl (fo_st (y:=[u',v']) r28 rfl (fun y hy=>?_) (fun w34 f34 r34=>⟨_,rfl,rec_rd r34,dr_mk (fin w34 _ ?_ ?_ ?_)⟩))
  ·simp only [List.mem_cons,List.not_mem_nil,or_false] at hy
   rcases hy with rfl | rfl
   ·exact hu
   ·exact hv
  ·exact g2.trans f34 (fun _ _ h=>h.elim) (fun k hk h=>by have h:k=b28:=h; omega)
  ·have:=h7.lt
   exact (h7.fr0 g2).fr f34 (fun h=>by have h:db=b28:=h; omega) (fun h=>by have h:r=b28:=h; omega) (fun k hk=>by have hk:k=b28:=hk; rw [hk]; exact two_alien r28)
  ·exact fo_fr hF' f34 (fun k hk=>by have hk:k=b28:=hk; rw [hk]; exact two_alien r28)
set_option maxHeartbeats 4000000 in
theorem file_callsa [Ow] (db r:Nat) (d:Dk) (s:ByteArray) (p0:Nat) (w:World) (g:Ino->Ino×Int) (h:DkAt w db r d) (hb:FoB d.F) (hi:∀ id,InoB (d.f id)) (hp:∀ id,(d.f id).p.length<=1099511627775) (hg:∀ x,InoB x->InoB (g x).1) (hgp:∀ id,(g (d.f id)).1.p.length<=1099511627775)
  (hcall:∀ (w2:World) (cs:List Value) (id:Int),Fr (fun _=>False) w w2->InoAt w2 cs (d.f id)->Calls Tryz.prog 70 #[ofL cs,.pointer (some ⟨p0,0,none⟩)] w2 fun e w'=>Fr (fun _=>False) w2 w'/\∃ cs',e=.returned (.tuple #[ofL cs',.int .i64 (g (d.f id)).2])/\InoAt w' cs' (g (d.f id)).1) :
  Calls Tryz.prog 69 #[.pointer (some ⟨db,0,none⟩),.string s,.func (.func 70) #[] #[.pointer (some ⟨p0,0,none⟩)]] w fun e w'=>Fr (DS db r) w w'/\e=.returned (.int .i64 (fileD d s g).2)/\DkAt w' db r (fileD d s g).1:=by
 refine (F69a.of (some ⟨db,0,none⟩) s (p0,0) w (Q:=fun v w'=>Fr (DS db r) w w'/\v=.int .i64 (fileD d s g).2/\DkAt w' db r (fileD d s g).1) ?_).mono (fun e w' ⟨v,he,hf,hv,h⟩=>⟨hf,by rw [he,hv],h⟩)
 have hlt:=h.lt
 have hne:=h.ne
 refine dr_mk (dk_getF h (fun cs hF=>(find_calls cs d.F s w hF hb).mono ?_))
 rintro e w4 ⟨rfl,f4⟩
 refine ⟨_,_,rfl,?_⟩
 cases hfn:findN s (nowF d.F) with
 | none =>
  have eD:fileD d s g=(d,6):=by unfold fileD; rw [hfn]
  refine vIf_t rfl ⟨fr_up f4,by rw [eD],by rw [eD]; exact h.fr0 f4⟩
 | some id =>
  refine vIf_f rfl ?_
  show dr (some ⟨db,0,none⟩) _
  have h4:=h.fr0 f4
  have h40:=h4
  obtain ⟨u,v,fz,lv,q1,q2,q3,q4⟩:=h40
  refine dr_mk (dk_getM h4 (files_get q3 (fun a12 hI=>?_)))
  have ho:=ino_one hI
  refine var_new rfl ho.1 ho.2 (fun b14 w16 f16 hb14 r14=>⟨a12,ho.1,rec_all r14,?_⟩)
  have f416:=f4.trans1 f16
  refine (hcall w16 a12 id f416 (hI.fr0 f16)).mono ?_
  rintro e w18 ⟨f18,a20,rfl,hX⟩
  have hoX:=ino_one hX
  refine ⟨a20,_,rfl,var_new rfl hoX.1 hoX.2 (fun b22 w24 f24 hb22 r22=>?_)⟩
  have hs4:=f4.size
  have hs16:=f16.size
  have hs18:=f18.size
  have r14:=(r14.fr f18 (fun h=>h)).fr f24 (fun h=>h)
  have f024:=(f416.trans1 f18).trans1 f24
  have h24:=h.fr0 f024
  have hI24:=((hI.fr0 f16).fr0 f18).fr0 f24
  have hX24:=hX.fr0 f24
  have hlt14:=r14.lt
  refine vIf_mk (fun he=>?_) (fun he=>?_)
  ·have he:¬ (g (d.f id)).2=0:=by simpa using he
   have eD:fileD d s g=(d,(g (d.f id)).2):=by unfold fileD; rw [hfn]; dsimp only; rw [if_pos he]
   exact ⟨fr_up f024,by rw [eD],by rw [eD]; exact h24⟩
  ·have he:(g (d.f id)).2=0:=by simpa using he
   have fd:Fr (fun _=>False) w24 w24.drew:=Fr.drew _ _
   have f0d:=f024.trans1 fd
   have hd:=h24.fr0 fd
   have hsd:=fd.size
   have r14:=r14.fr fd (fun h=>h)
   have r22:=r22.fr fd (fun h=>h)
   have hId:=hI24.fr0 fd
   have hXd:=hX24.fr0 fd
   generalize w24.drew=w25 at fd f0d hd hsd r14 r22 hId hXd ⊢
   have hd0:=hd
   obtain ⟨u',v',fz',lv',p1,p2,p3,p4⟩:=hd0
   refine dr_mk (dk_getM hd ⟨a20,hoX.1,rec_all r22,files_put p3 hXd (fun w29 hF29 f29=>?_)⟩)
   have har:∀ k,k=r->Alien w25 k:=fun k hk=>by rw [hk]; exact p3.alien
   have p1:=p1.fr f29 (fun h=>hne h)
   have p2:=fo_fr p2 f29 har
   have r14:=r14.fr f29 (fun h=>by have h:b14=r:=h; omega)
   have r22:=r22.fr f29 (fun h=>by have h:b22=r:=h; omega)
   have hIr:=hId.fr f29 har
   have hXr:=hXd.fr f29 har
   have f029:Fr (DS db r) w w29:=f0d.trans f29 (fun _ _ h=>h.elim) (fun k hk h=>.inr h)
   have f2d:Fr (fun _=>False) w29 w29.drew:=Fr.drew _ _
   have hDk:DkAt w29 db r { d with f:=updF d.f id (g (d.f id)).1 }:=⟨u',v',fz',lv',p1,p2,hF29,p4⟩
   have hDk:=hDk.fr0 f2d
   have r14:=r14.fr f2d (fun h=>h)
   have r22:=r22.fr f2d (fun h=>h)
   have hIr:=hIr.fr0 f2d
   have hXr:=hXr.fr0 f2d
   have f029:=f029.trans f2d (fun _ _ h=>h) (fun _ _ h=>h.elim)
   generalize w29.drew=w30 at f2d hDk r14 r22 hIr hXr f029 ⊢
   refine ⟨a20,hoX.1,rec_all r22,a12,ho.1,rec_all r14,(room_calls a20 _ w30 hXr (hg _ (hi id)) (hgp id)).mono ?_⟩
   rintro e w33 ⟨rfl,f33⟩
   refine ⟨_,rfl,kp_mk f33 r14.lt (fun h=>h) ((room_calls a12 _ w33 (hIr.fr0 f33) (hi id) (hp id)).mono ?_)⟩
   rintro e w36 ⟨rfl,f36⟩
   have f3336:=f33.trans1 f36
   have h36:=hDk.fr0 f3336
   have r14:=r14.fr f3336 (fun h=>h)
   have hI36:=hIr.fr0 f3336
   have f036:Fr (DS db r) w w36:=f029.trans f3336 (fun _ _ h=>h) (fun _ _ h=>h.elim)
   have k10:∀ (t:Bool) (y:World),Fr (fun _=>False) w36 y->(t=true ↔ (roomI (g (d.f id)).1 > roomI (d.f id)/\takenF d.F (updF d.f id (g (d.f id)).1) > d.lb))->jnC (F69a.k10 (fun v w'=>Fr (DS db r) w w'/\v=.int .i64 (fileD d s g).2/\DkAt w' db r (fileD d s g).1)) (some ⟨db,0,none⟩,id,(b14,0),t,()) y:=by
    intro t y fy ht
    have hy:=h36.fr0 fy
    have f0y:Fr (DS db r) w y:=f036.trans fy (fun _ _ h=>h) (fun _ _ h=>h.elim)
    refine jnC_mk (fun _=>vIf_mk (fun htt=>?_) (fun htf=>?_))
    ·have hc:=ht.1 htt
     have eD:fileD d s g=(d,9):=by unfold fileD; rw [hfn]; dsimp only; rw [if_neg (by rw [he]; simp),if_pos hc]
     have fdy:Fr (fun _=>False) y y.drew:=Fr.drew _ _
     have hyd:=hy.fr0 fdy
     have hyd0:=hyd
     obtain ⟨u2,v2,fz2,lv2,m1,m2,m3,m4⟩:=hyd0
     have hIy:=(hI36.fr0 fy).fr0 fdy
     refine dr_mk (dk_getM hyd ⟨a12,ho.1,rec_all ((r14.fr fy (fun h=>h)).fr fdy (fun h=>h)),files_put m3 hIy (fun w49 hF49 f49=>⟨?_,by rw [eD],?_⟩)⟩)
     ·exact (f0y.trans fdy (fun _ _ h=>h) (fun _ _ h=>h.elim)).trans f49 (fun _ _ h=>h) (fun k hk h=>.inr h)
     ·rw [eD]
      have ha2:∀ k,k=r->Alien y.drew k:=fun k hk=>by rw [hk]; exact m3.alien
      have e3:updF (updF d.f id (g (d.f id)).1) id (d.f id)=d.f:=by
       funext j
       unfold updF
       by_cases hj:j=id
       ·rw [if_pos hj,hj]
       ·rw [if_neg hj,if_neg hj]
      have hF49:FilesAt w49 r (updF (updF d.f id (g (d.f id)).1) id (d.f id)):=hF49
      rw [e3] at hF49
      exact ⟨u2,v2,fz2,lv2,m1.fr f49 (fun h=>hne h),fo_fr m2 f49 ha2,hF49,m4⟩
    ·have htf:t=false:=htf
     have hc:¬ (roomI (g (d.f id)).1 > roomI (d.f id)/\takenF d.F (updF d.f id (g (d.f id)).1) > d.lb):=fun hc=>by have:=ht.2 hc; rw [htf] at this; cases this
     have eD:fileD d s g=({ d with f:=updF d.f id (g (d.f id)).1 },0):=by unfold fileD; rw [hfn]; dsimp only; rw [if_neg (by rw [he]; simp),if_neg hc]
     exact ⟨f0y,by rw [eD],by rw [eD]; exact hy⟩
   refine ⟨_,rfl,vIf_mk (fun hgt=>?_) (fun hgt=>k10 false w36 (Fr.refl _ _) ⟨(fun h=>by cases h),fun h=>absurd h.1 (of_decide_eq_false hgt)⟩)⟩
   have hgt:=of_decide_eq_true hgt
   have hi2:∀ k,InoB (updF d.f id (g (d.f id)).1 k):=updF_B hi (hg _ (hi id))
   have hp2:∀ k,(updF d.f id (g (d.f id)).1 k).p.length<=1099511627775:=fun k=>by
    unfold updF
    split
    ·exact hgp id
    ·exact hp k
   refine dr_mk (dk_getI (o:=0) h36 (.inl ⟨rfl,rfl⟩) ((taken_calls db r _ w36 h36 hb hi2 hp2).mono ?_))
   rintro e w42 ⟨rfl,f42⟩
   refine ⟨_,rfl,kp_mk f42 h36.lt.1 (fun h=>h) (k10 _ w42 f42 ?_)⟩
   show decide (takenF d.F (updF d.f id (g (d.f id)).1) > d.lb)=true ↔ _
   rw [decide_eq_true_iff]
   exact ⟨fun h=>⟨hgt,h⟩,fun h=>h.2⟩
set_option maxHeartbeats 4000000 in
theorem file_callsc [Ow] (db r:Nat) (d:Dk) (s:ByteArray) (w:World) (g:Ino->Ino×Int) (h:DkAt w db r d) (hb:FoB d.F) (hi:∀ id,InoB (d.f id)) (hp:∀ id,(d.f id).p.length<=1099511627775) (hg:∀ x,InoB x->InoB (g x).1) (hgp:∀ id,(g (d.f id)).1.p.length<=1099511627775)
  (hcall:∀ (w2:World) (cs:List Value) (id:Int),Fr (fun _=>False) w w2->InoAt w2 cs (d.f id)->Calls Tryz.prog 73 #[ofL cs] w2 fun e w'=>Fr (fun _=>False) w2 w'/\∃ cs',e=.returned (.tuple #[ofL cs',.int .i64 (g (d.f id)).2])/\InoAt w' cs' (g (d.f id)).1) :
  Calls Tryz.prog 69 #[.pointer (some ⟨db,0,none⟩),.string s,.func (.func 73) #[] #[]] w fun e w'=>Fr (DS db r) w w'/\e=.returned (.int .i64 (fileD d s g).2)/\DkAt w' db r (fileD d s g).1:=by
 refine (F69c.of (some ⟨db,0,none⟩) s  w (Q:=fun v w'=>Fr (DS db r) w w'/\v=.int .i64 (fileD d s g).2/\DkAt w' db r (fileD d s g).1) ?_).mono (fun e w' ⟨v,he,hf,hv,h⟩=>⟨hf,by rw [he,hv],h⟩)
 have hlt:=h.lt
 have hne:=h.ne
 refine dr_mk (dk_getF h (fun cs hF=>(find_calls cs d.F s w hF hb).mono ?_))
 rintro e w4 ⟨rfl,f4⟩
 refine ⟨_,_,rfl,?_⟩
 cases hfn:findN s (nowF d.F) with
 | none =>
  have eD:fileD d s g=(d,6):=by unfold fileD; rw [hfn]
  refine vIf_t rfl ⟨fr_up f4,by rw [eD],by rw [eD]; exact h.fr0 f4⟩
 | some id =>
  refine vIf_f rfl ?_
  show dr (some ⟨db,0,none⟩) _
  have h4:=h.fr0 f4
  have h40:=h4
  obtain ⟨u,v,fz,lv,q1,q2,q3,q4⟩:=h40
  refine dr_mk (dk_getM h4 (files_get q3 (fun a12 hI=>?_)))
  have ho:=ino_one hI
  refine var_new rfl ho.1 ho.2 (fun b14 w16 f16 hb14 r14=>⟨a12,ho.1,rec_all r14,?_⟩)
  have f416:=f4.trans1 f16
  refine (hcall w16 a12 id f416 (hI.fr0 f16)).mono ?_
  rintro e w18 ⟨f18,a20,rfl,hX⟩
  have hoX:=ino_one hX
  refine ⟨a20,_,rfl,var_new rfl hoX.1 hoX.2 (fun b22 w24 f24 hb22 r22=>?_)⟩
  have hs4:=f4.size
  have hs16:=f16.size
  have hs18:=f18.size
  have r14:=(r14.fr f18 (fun h=>h)).fr f24 (fun h=>h)
  have f024:=(f416.trans1 f18).trans1 f24
  have h24:=h.fr0 f024
  have hI24:=((hI.fr0 f16).fr0 f18).fr0 f24
  have hX24:=hX.fr0 f24
  have hlt14:=r14.lt
  refine vIf_mk (fun he=>?_) (fun he=>?_)
  ·have he:¬ (g (d.f id)).2=0:=by simpa using he
   have eD:fileD d s g=(d,(g (d.f id)).2):=by unfold fileD; rw [hfn]; dsimp only; rw [if_pos he]
   exact ⟨fr_up f024,by rw [eD],by rw [eD]; exact h24⟩
  ·have he:(g (d.f id)).2=0:=by simpa using he
   have fd:Fr (fun _=>False) w24 w24.drew:=Fr.drew _ _
   have f0d:=f024.trans1 fd
   have hd:=h24.fr0 fd
   have hsd:=fd.size
   have r14:=r14.fr fd (fun h=>h)
   have r22:=r22.fr fd (fun h=>h)
   have hId:=hI24.fr0 fd
   have hXd:=hX24.fr0 fd
   generalize w24.drew=w25 at fd f0d hd hsd r14 r22 hId hXd ⊢
   have hd0:=hd
   obtain ⟨u',v',fz',lv',p1,p2,p3,p4⟩:=hd0
   refine dr_mk (dk_getM hd ⟨a20,hoX.1,rec_all r22,files_put p3 hXd (fun w29 hF29 f29=>?_)⟩)
   have har:∀ k,k=r->Alien w25 k:=fun k hk=>by rw [hk]; exact p3.alien
   have p1:=p1.fr f29 (fun h=>hne h)
   have p2:=fo_fr p2 f29 har
   have r14:=r14.fr f29 (fun h=>by have h:b14=r:=h; omega)
   have r22:=r22.fr f29 (fun h=>by have h:b22=r:=h; omega)
   have hIr:=hId.fr f29 har
   have hXr:=hXd.fr f29 har
   have f029:Fr (DS db r) w w29:=f0d.trans f29 (fun _ _ h=>h.elim) (fun k hk h=>.inr h)
   have f2d:Fr (fun _=>False) w29 w29.drew:=Fr.drew _ _
   have hDk:DkAt w29 db r { d with f:=updF d.f id (g (d.f id)).1 }:=⟨u',v',fz',lv',p1,p2,hF29,p4⟩
   have hDk:=hDk.fr0 f2d
   have r14:=r14.fr f2d (fun h=>h)
   have r22:=r22.fr f2d (fun h=>h)
   have hIr:=hIr.fr0 f2d
   have hXr:=hXr.fr0 f2d
   have f029:=f029.trans f2d (fun _ _ h=>h) (fun _ _ h=>h.elim)
   generalize w29.drew=w30 at f2d hDk r14 r22 hIr hXr f029 ⊢
   refine ⟨a20,hoX.1,rec_all r22,a12,ho.1,rec_all r14,(room_calls a20 _ w30 hXr (hg _ (hi id)) (hgp id)).mono ?_⟩
   rintro e w33 ⟨rfl,f33⟩
   refine ⟨_,rfl,kp_mk f33 r14.lt (fun h=>h) ((room_calls a12 _ w33 (hIr.fr0 f33) (hi id) (hp id)).mono ?_)⟩
   rintro e w36 ⟨rfl,f36⟩
   have f3336:=f33.trans1 f36
   have h36:=hDk.fr0 f3336
   have r14:=r14.fr f3336 (fun h=>h)
   have hI36:=hIr.fr0 f3336
   have f036:Fr (DS db r) w w36:=f029.trans f3336 (fun _ _ h=>h) (fun _ _ h=>h.elim)
   have k10:∀ (t:Bool) (y:World),Fr (fun _=>False) w36 y->(t=true ↔ (roomI (g (d.f id)).1 > roomI (d.f id)/\takenF d.F (updF d.f id (g (d.f id)).1) > d.lb))->jnC (F69c.k10 (fun v w'=>Fr (DS db r) w w'/\v=.int .i64 (fileD d s g).2/\DkAt w' db r (fileD d s g).1)) (some ⟨db,0,none⟩,id,(b14,0),t,()) y:=by
    intro t y fy ht
    have hy:=h36.fr0 fy
    have f0y:Fr (DS db r) w y:=f036.trans fy (fun _ _ h=>h) (fun _ _ h=>h.elim)
    refine jnC_mk (fun _=>vIf_mk (fun htt=>?_) (fun htf=>?_))
    ·have hc:=ht.1 htt
     have eD:fileD d s g=(d,9):=by unfold fileD; rw [hfn]; dsimp only; rw [if_neg (by rw [he]; simp),if_pos hc]
     have fdy:Fr (fun _=>False) y y.drew:=Fr.drew _ _
     have hyd:=hy.fr0 fdy
     have hyd0:=hyd
     obtain ⟨u2,v2,fz2,lv2,m1,m2,m3,m4⟩:=hyd0
     have hIy:=(hI36.fr0 fy).fr0 fdy
     refine dr_mk (dk_getM hyd ⟨a12,ho.1,rec_all ((r14.fr fy (fun h=>h)).fr fdy (fun h=>h)),files_put m3 hIy (fun w49 hF49 f49=>⟨?_,by rw [eD],?_⟩)⟩)
     ·exact (f0y.trans fdy (fun _ _ h=>h) (fun _ _ h=>h.elim)).trans f49 (fun _ _ h=>h) (fun k hk h=>.inr h)
     ·rw [eD]
      have ha2:∀ k,k=r->Alien y.drew k:=fun k hk=>by rw [hk]; exact m3.alien
      have e3:updF (updF d.f id (g (d.f id)).1) id (d.f id)=d.f:=by
       funext j
       unfold updF
       by_cases hj:j=id
       ·rw [if_pos hj,hj]
       ·rw [if_neg hj,if_neg hj]
      have hF49:FilesAt w49 r (updF (updF d.f id (g (d.f id)).1) id (d.f id)):=hF49
      rw [e3] at hF49
      exact ⟨u2,v2,fz2,lv2,m1.fr f49 (fun h=>hne h),fo_fr m2 f49 ha2,hF49,m4⟩
    ·have htf:t=false:=htf
     have hc:¬ (roomI (g (d.f id)).1 > roomI (d.f id)/\takenF d.F (updF d.f id (g (d.f id)).1) > d.lb):=fun hc=>by have:=ht.2 hc; rw [htf] at this; cases this
     have eD:fileD d s g=({ d with f:=updF d.f id (g (d.f id)).1 },0):=by unfold fileD; rw [hfn]; dsimp only; rw [if_neg (by rw [he]; simp),if_neg hc]
     exact ⟨f0y,by rw [eD],by rw [eD]; exact hy⟩
   refine ⟨_,rfl,vIf_mk (fun hgt=>?_) (fun hgt=>k10 false w36 (Fr.refl _ _) ⟨(fun h=>by cases h),fun h=>absurd h.1 (of_decide_eq_false hgt)⟩)⟩
   have hgt:=of_decide_eq_true hgt
   have hi2:∀ k,InoB (updF d.f id (g (d.f id)).1 k):=updF_B hi (hg _ (hi id))
   have hp2:∀ k,(updF d.f id (g (d.f id)).1 k).p.length<=1099511627775:=fun k=>by
    unfold updF
    split
    ·exact hgp id
    ·exact hp k
   refine dr_mk (dk_getI (o:=0) h36 (.inl ⟨rfl,rfl⟩) ((taken_calls db r _ w36 h36 hb hi2 hp2).mono ?_))
   rintro e w42 ⟨rfl,f42⟩
   refine ⟨_,rfl,kp_mk f42 h36.lt.1 (fun h=>h) (k10 _ w42 f42 ?_)⟩
   show decide (takenF d.F (updF d.f id (g (d.f id)).1) > d.lb)=true ↔ _
   rw [decide_eq_true_iff]
   exact ⟨fun h=>⟨hgt,h⟩,fun h=>h.2⟩
set_option maxHeartbeats 1000000 in
theorem power_callsa [Ow] (db r:Nat) (d:Dk) (p0:Nat) (p1:Nat) (w:World) (N:Nat) (call:Dk->Dk×Int) (h:DkAt w db r d) (hB:DkB d N) (hN:N<=349525)
  (hcall:∀ w2:World,Fr (fun k=>k=db) w w2->offD d=false->DkAt w2 db r { d with fu:=d.fu.map (· - 1),calls:=d.calls+1 }->Calls Tryz.prog 93 #[.pointer (some ⟨p0,0,none⟩),.pointer (some ⟨p1,0,none⟩)] w2 fun e w'=>Fr (DS db r) w2 w'/\e=.returned (.int .i64 (call { d with fu:=d.fu.map (· - 1),calls:=d.calls+1 }).2)/\DkAt w' db r (call { d with fu:=d.fu.map (· - 1),calls:=d.calls+1 }).1) :
  Calls Tryz.prog 67 #[.pointer (some ⟨db,0,none⟩),.func (.func 93) #[] #[.pointer (some ⟨p0,0,none⟩),.pointer (some ⟨p1,0,none⟩)]] w fun e w'=>Fr (DS db r) w w'/\e=.returned (.int .i64 (powD d call).2)/\DkAt w' db r (powD d call).1:=by
 refine (F67a.of (some ⟨db,0,none⟩) ((p0,0),(p1,0),()) w (Q:=fun v w'=>Fr (DS db r) w w'/\v=.int .i64 (powD d call).2/\DkAt w' db r (powD d call).1) ?_).mono (fun e w' ⟨v,he,hf,hv,h⟩=>⟨hf,by rw [he,hv],h⟩)
 have hne:=h.ne
 obtain ⟨u,v,fz,lv,h1,h2,h3,h4⟩:=h
 have hc1:=hB.calls
 have k4:∀ t:Bool,t=offD d->jnC (F67a.k4 (fun v w'=>Fr (DS db r) w w'/\v=.int .i64 (powD d call).2/\DkAt w' db r (powD d call).1)) (some ⟨db,0,none⟩,((p0,0),(p1,0),()),t,()) w:=by
  intro t ht
  refine jnC_mk (fun _=>vIf_mk (fun htt=>dr_mk (dk_set (d':={ d with down:=true }) (fz':=fz) (lv':=lv) h1 h2 h3 rfl (by show 0+6+1<=10; omega) (fun x hx=>by simp at hx; subst hx; rfl) rfl rfl hne (fun w6 f6 g1 g2 g3=>?_))) (fun htf=>jnC_mk (fun _=>?_)))
  ·have ho:offD d=true:=by rw [<- ht]; exact htt
   have eP:powD d call=({ d with down:=true },11):=by unfold powD; rw [if_pos ho]
   rw [eP]
   exact ⟨f6.mono (fun _ _ h=>.inl h),rfl,u,v,fz,lv,g1,g2,g3,h4⟩
  ·have ho:offD d=false:=by rw [<- ht]; exact htf
   have eP:powD d call=call { d with fu:=d.fu.map (· - 1),calls:=d.calls+1 }:=by unfold powD; rw [if_neg (by rw [ho]; simp)]
   refine dr_mk ⟨lv,h1.cell (o:=0+8) rfl,dr_mk (dk_set (d':=d) (fz':=fz) (lv':=IntKind.wrap .i64 (lv - 1)) h1 h2 h3 rfl (by show 0+8+1<=10; omega) (fun x hx=>by simp at hx; subst hx; rfl) rfl rfl hne (fun w12 f12 g1 g2 g3=>?_))⟩
   have ec:IntKind.wrap .i64 (d.calls+1)=d.calls+1:=i64_id (by omega) (by omega)
   refine dr_mk ⟨d.calls,g1.cell (o:=0+9) rfl,dr_mk (dk_set (d':={ d with fu:=d.fu.map (· - 1),calls:=d.calls+1 }) (fz':=fz) (lv':=IntKind.wrap .i64 (lv - 1)) g1 g2 g3 (by rw [ec]; rfl) (by show 0+9+1<=10; omega) (fun x hx=>by simp at hx; subst hx; rfl) rfl rfl hne (fun w18 f18 m1 m2 m3=>?_))⟩
   have hfu:fuR (d.fu.map (· - 1)) fz (IntKind.wrap .i64 (lv - 1)):=by
    unfold fuR at h4 ⊢
    cases hd:d.fu with
    | none=>rw [hd] at h4; exact h4
    | some n =>
     rw [hd] at h4
     have hh:=hB.fu n hd
     have hn1:¬ n<=0:=fun hle=>by
      unfold offD at ho
      rw [hd] at ho
      simp at ho
      omega
     have h4:fz=true/\lv=n:=h4
     refine ⟨h4.1,?_⟩
     rw [h4.2]
     exact i64_id (by omega) (by omega)
   have f018:Fr (fun k=>k=db) w w18:=f12.trans1 f18
   refine (hcall w18 f018 ho ⟨u,v,fz,_,m1,m2,m3,hfu⟩).mono ?_
   rintro e w19 ⟨f19,rfl,h19⟩
   refine ⟨_,rfl,?_⟩
   rw [eP]
   exact ⟨f018.trans f19 (fun k _ h=>.inl h) (fun _ _ h=>h),rfl,h19⟩
 refine vIf_f rfl (dr_mk ⟨d.down,h1.cell (o:=0+6) rfl,vIf_mk (fun hd=>k4 true ?_) (fun hd=>dr_mk ⟨fz,h1.cell (o:=0+7) rfl,vIf_mk (fun hz=>dr_mk ⟨lv,h1.cell (o:=0+8) rfl,k4 _ ?_⟩) (fun hz=>k4 false ?_)⟩)⟩)
 ·have hd:d.down=true:=hd
  unfold offD
  rw [hd]; rfl
 ·have hd:d.down=false:=hd
  have hz:fz=true:=hz
  unfold offD
  rw [hd,Bool.false_or]
  unfold fuR at h4
  cases hf:d.fu with
  | none=>rw [hf] at h4; rw [hz] at h4; cases h4
  | some n =>
   rw [hf] at h4
   have h4:fz=true/\lv=n:=h4
   rw [h4.2]
 ·have hd:d.down=false:=hd
  have hz:fz=false:=hz
  unfold offD
  rw [hd,Bool.false_or]
  unfold fuR at h4
  cases hf:d.fu with
  | none=>rfl
  | some n =>
   rw [hf] at h4
   have h4:fz=true/\lv=n:=h4
   rw [hz] at h4; cases h4.1
set_option maxHeartbeats 1000000 in
theorem power_callsb [Ow] (db r:Nat) (d:Dk) (p0:Nat) (p1:Nat) (p2:Nat) (w:World) (N:Nat) (call:Dk->Dk×Int) (h:DkAt w db r d) (hB:DkB d N) (hN:N<=349525)
  (hcall:∀ w2:World,Fr (fun k=>k=db) w w2->offD d=false->DkAt w2 db r { d with fu:=d.fu.map (· - 1),calls:=d.calls+1 }->Calls Tryz.prog 68 #[.pointer (some ⟨p0,0,none⟩),.pointer (some ⟨p1,0,none⟩),.pointer (some ⟨p2,0,none⟩)] w2 fun e w'=>Fr (DS db r) w2 w'/\e=.returned (.int .i64 (call { d with fu:=d.fu.map (· - 1),calls:=d.calls+1 }).2)/\DkAt w' db r (call { d with fu:=d.fu.map (· - 1),calls:=d.calls+1 }).1) :
  Calls Tryz.prog 67 #[.pointer (some ⟨db,0,none⟩),.func (.func 68) #[] #[.pointer (some ⟨p0,0,none⟩),.pointer (some ⟨p1,0,none⟩),.pointer (some ⟨p2,0,none⟩)]] w fun e w'=>Fr (DS db r) w w'/\e=.returned (.int .i64 (powD d call).2)/\DkAt w' db r (powD d call).1:=by
 refine (F67b.of (some ⟨db,0,none⟩) ((p0,0),(p1,0),(p2,0),()) w (Q:=fun v w'=>Fr (DS db r) w w'/\v=.int .i64 (powD d call).2/\DkAt w' db r (powD d call).1) ?_).mono (fun e w' ⟨v,he,hf,hv,h⟩=>⟨hf,by rw [he,hv],h⟩)
 have hne:=h.ne
 obtain ⟨u,v,fz,lv,h1,h2,h3,h4⟩:=h
 have hc1:=hB.calls
 have k4:∀ t:Bool,t=offD d->jnC (F67b.k4 (fun v w'=>Fr (DS db r) w w'/\v=.int .i64 (powD d call).2/\DkAt w' db r (powD d call).1)) (some ⟨db,0,none⟩,((p0,0),(p1,0),(p2,0),()),t,()) w:=by
  intro t ht
  refine jnC_mk (fun _=>vIf_mk (fun htt=>dr_mk (dk_set (d':={ d with down:=true }) (fz':=fz) (lv':=lv) h1 h2 h3 rfl (by show 0+6+1<=10; omega) (fun x hx=>by simp at hx; subst hx; rfl) rfl rfl hne (fun w6 f6 g1 g2 g3=>?_))) (fun htf=>jnC_mk (fun _=>?_)))
  ·have ho:offD d=true:=by rw [<- ht]; exact htt
   have eP:powD d call=({ d with down:=true },11):=by unfold powD; rw [if_pos ho]
   rw [eP]
   exact ⟨f6.mono (fun _ _ h=>.inl h),rfl,u,v,fz,lv,g1,g2,g3,h4⟩
  ·have ho:offD d=false:=by rw [<- ht]; exact htf
   have eP:powD d call=call { d with fu:=d.fu.map (· - 1),calls:=d.calls+1 }:=by unfold powD; rw [if_neg (by rw [ho]; simp)]
   refine dr_mk ⟨lv,h1.cell (o:=0+8) rfl,dr_mk (dk_set (d':=d) (fz':=fz) (lv':=IntKind.wrap .i64 (lv - 1)) h1 h2 h3 rfl (by show 0+8+1<=10; omega) (fun x hx=>by simp at hx; subst hx; rfl) rfl rfl hne (fun w12 f12 g1 g2 g3=>?_))⟩
   have ec:IntKind.wrap .i64 (d.calls+1)=d.calls+1:=i64_id (by omega) (by omega)
   refine dr_mk ⟨d.calls,g1.cell (o:=0+9) rfl,dr_mk (dk_set (d':={ d with fu:=d.fu.map (· - 1),calls:=d.calls+1 }) (fz':=fz) (lv':=IntKind.wrap .i64 (lv - 1)) g1 g2 g3 (by rw [ec]; rfl) (by show 0+9+1<=10; omega) (fun x hx=>by simp at hx; subst hx; rfl) rfl rfl hne (fun w18 f18 m1 m2 m3=>?_))⟩
   have hfu:fuR (d.fu.map (· - 1)) fz (IntKind.wrap .i64 (lv - 1)):=by
    unfold fuR at h4 ⊢
    cases hd:d.fu with
    | none=>rw [hd] at h4; exact h4
    | some n =>
     rw [hd] at h4
     have hh:=hB.fu n hd
     have hn1:¬ n<=0:=fun hle=>by
      unfold offD at ho
      rw [hd] at ho
      simp at ho
      omega
     have h4:fz=true/\lv=n:=h4
     refine ⟨h4.1,?_⟩
     rw [h4.2]
     exact i64_id (by omega) (by omega)
   have f018:Fr (fun k=>k=db) w w18:=f12.trans1 f18
   refine (hcall w18 f018 ho ⟨u,v,fz,_,m1,m2,m3,hfu⟩).mono ?_
   rintro e w19 ⟨f19,rfl,h19⟩
   refine ⟨_,rfl,?_⟩
   rw [eP]
   exact ⟨f018.trans f19 (fun k _ h=>.inl h) (fun _ _ h=>h),rfl,h19⟩
 refine vIf_f rfl (dr_mk ⟨d.down,h1.cell (o:=0+6) rfl,vIf_mk (fun hd=>k4 true ?_) (fun hd=>dr_mk ⟨fz,h1.cell (o:=0+7) rfl,vIf_mk (fun hz=>dr_mk ⟨lv,h1.cell (o:=0+8) rfl,k4 _ ?_⟩) (fun hz=>k4 false ?_)⟩)⟩)
 ·have hd:d.down=true:=hd
  unfold offD
  rw [hd]; rfl
 ·have hd:d.down=false:=hd
  have hz:fz=true:=hz
  unfold offD
  rw [hd,Bool.false_or]
  unfold fuR at h4
  cases hf:d.fu with
  | none=>rw [hf] at h4; rw [hz] at h4; cases h4
  | some n =>
   rw [hf] at h4
   have h4:fz=true/\lv=n:=h4
   rw [h4.2]
 ·have hd:d.down=false:=hd
  have hz:fz=false:=hz
  unfold offD
  rw [hd,Bool.false_or]
  unfold fuR at h4
  cases hf:d.fu with
  | none=>rfl
  | some n =>
   rw [hf] at h4
   have h4:fz=true/\lv=n:=h4
   rw [hz] at h4; cases h4.1
set_option maxHeartbeats 1000000 in
theorem power_callsd [Ow] (db r:Nat) (d:Dk) (p0:Nat) (p1:Nat) (w:World) (N:Nat) (call:Dk->Dk×Int) (h:DkAt w db r d) (hB:DkB d N) (hN:N<=349525)
  (hcall:∀ w2:World,Fr (fun k=>k=db) w w2->offD d=false->DkAt w2 db r { d with fu:=d.fu.map (· - 1),calls:=d.calls+1 }->Calls Tryz.prog 72 #[.pointer (some ⟨p0,0,none⟩),.pointer (some ⟨p1,0,none⟩)] w2 fun e w'=>Fr (DS db r) w2 w'/\e=.returned (.int .i64 (call { d with fu:=d.fu.map (· - 1),calls:=d.calls+1 }).2)/\DkAt w' db r (call { d with fu:=d.fu.map (· - 1),calls:=d.calls+1 }).1) :
  Calls Tryz.prog 67 #[.pointer (some ⟨db,0,none⟩),.func (.func 72) #[] #[.pointer (some ⟨p0,0,none⟩),.pointer (some ⟨p1,0,none⟩)]] w fun e w'=>Fr (DS db r) w w'/\e=.returned (.int .i64 (powD d call).2)/\DkAt w' db r (powD d call).1:=by
 refine (F67d.of (some ⟨db,0,none⟩) ((p0,0),(p1,0),()) w (Q:=fun v w'=>Fr (DS db r) w w'/\v=.int .i64 (powD d call).2/\DkAt w' db r (powD d call).1) ?_).mono (fun e w' ⟨v,he,hf,hv,h⟩=>⟨hf,by rw [he,hv],h⟩)
 have hne:=h.ne
 obtain ⟨u,v,fz,lv,h1,h2,h3,h4⟩:=h
 have hc1:=hB.calls
 have k4:∀ t:Bool,t=offD d->jnC (F67d.k4 (fun v w'=>Fr (DS db r) w w'/\v=.int .i64 (powD d call).2/\DkAt w' db r (powD d call).1)) (some ⟨db,0,none⟩,((p0,0),(p1,0),()),t,()) w:=by
  intro t ht
  refine jnC_mk (fun _=>vIf_mk (fun htt=>dr_mk (dk_set (d':={ d with down:=true }) (fz':=fz) (lv':=lv) h1 h2 h3 rfl (by show 0+6+1<=10; omega) (fun x hx=>by simp at hx; subst hx; rfl) rfl rfl hne (fun w6 f6 g1 g2 g3=>?_))) (fun htf=>jnC_mk (fun _=>?_)))
  ·have ho:offD d=true:=by rw [<- ht]; exact htt
   have eP:powD d call=({ d with down:=true },11):=by unfold powD; rw [if_pos ho]
   rw [eP]
   exact ⟨f6.mono (fun _ _ h=>.inl h),rfl,u,v,fz,lv,g1,g2,g3,h4⟩
  ·have ho:offD d=false:=by rw [<- ht]; exact htf
   have eP:powD d call=call { d with fu:=d.fu.map (· - 1),calls:=d.calls+1 }:=by unfold powD; rw [if_neg (by rw [ho]; simp)]
   refine dr_mk ⟨lv,h1.cell (o:=0+8) rfl,dr_mk (dk_set (d':=d) (fz':=fz) (lv':=IntKind.wrap .i64 (lv - 1)) h1 h2 h3 rfl (by show 0+8+1<=10; omega) (fun x hx=>by simp at hx; subst hx; rfl) rfl rfl hne (fun w12 f12 g1 g2 g3=>?_))⟩
   have ec:IntKind.wrap .i64 (d.calls+1)=d.calls+1:=i64_id (by omega) (by omega)
   refine dr_mk ⟨d.calls,g1.cell (o:=0+9) rfl,dr_mk (dk_set (d':={ d with fu:=d.fu.map (· - 1),calls:=d.calls+1 }) (fz':=fz) (lv':=IntKind.wrap .i64 (lv - 1)) g1 g2 g3 (by rw [ec]; rfl) (by show 0+9+1<=10; omega) (fun x hx=>by simp at hx; subst hx; rfl) rfl rfl hne (fun w18 f18 m1 m2 m3=>?_))⟩
   have hfu:fuR (d.fu.map (· - 1)) fz (IntKind.wrap .i64 (lv - 1)):=by
    unfold fuR at h4 ⊢
    cases hd:d.fu with
    | none=>rw [hd] at h4; exact h4
    | some n =>
     rw [hd] at h4
     have hh:=hB.fu n hd
     have hn1:¬ n<=0:=fun hle=>by
      unfold offD at ho
      rw [hd] at ho
      simp at ho
      omega
     have h4:fz=true/\lv=n:=h4
     refine ⟨h4.1,?_⟩
     rw [h4.2]
     exact i64_id (by omega) (by omega)
   have f018:Fr (fun k=>k=db) w w18:=f12.trans1 f18
   refine (hcall w18 f018 ho ⟨u,v,fz,_,m1,m2,m3,hfu⟩).mono ?_
   rintro e w19 ⟨f19,rfl,h19⟩
   refine ⟨_,rfl,?_⟩
   rw [eP]
   exact ⟨f018.trans f19 (fun k _ h=>.inl h) (fun _ _ h=>h),rfl,h19⟩
 refine vIf_f rfl (dr_mk ⟨d.down,h1.cell (o:=0+6) rfl,vIf_mk (fun hd=>k4 true ?_) (fun hd=>dr_mk ⟨fz,h1.cell (o:=0+7) rfl,vIf_mk (fun hz=>dr_mk ⟨lv,h1.cell (o:=0+8) rfl,k4 _ ?_⟩) (fun hz=>k4 false ?_)⟩)⟩)
 ·have hd:d.down=true:=hd
  unfold offD
  rw [hd]; rfl
 ·have hd:d.down=false:=hd
  have hz:fz=true:=hz
  unfold offD
  rw [hd,Bool.false_or]
  unfold fuR at h4
  cases hf:d.fu with
  | none=>rw [hf] at h4; rw [hz] at h4; cases h4
  | some n =>
   rw [hf] at h4
   have h4:fz=true/\lv=n:=h4
   rw [h4.2]
 ·have hd:d.down=false:=hd
  have hz:fz=false:=hz
  unfold offD
  rw [hd,Bool.false_or]
  unfold fuR at h4
  cases hf:d.fu with
  | none=>rfl
  | some n =>
   rw [hf] at h4
   have h4:fz=true/\lv=n:=h4
   rw [hz] at h4; cases h4.1
set_option maxHeartbeats 1000000 in
theorem power_callsg [Ow] (db r:Nat) (d:Dk) (p0:Nat) (w:World) (N:Nat) (call:Dk->Dk×Int) (h:DkAt w db r d) (hB:DkB d N) (hN:N<=349525)
  (hcall:∀ w2:World,Fr (fun k=>k=db) w w2->offD d=false->DkAt w2 db r { d with fu:=d.fu.map (· - 1),calls:=d.calls+1 }->Calls Tryz.prog 95 #[.pointer (some ⟨p0,0,none⟩)] w2 fun e w'=>Fr (DS db r) w2 w'/\e=.returned (.int .i64 (call { d with fu:=d.fu.map (· - 1),calls:=d.calls+1 }).2)/\DkAt w' db r (call { d with fu:=d.fu.map (· - 1),calls:=d.calls+1 }).1) :
  Calls Tryz.prog 67 #[.pointer (some ⟨db,0,none⟩),.func (.func 95) #[] #[.pointer (some ⟨p0,0,none⟩)]] w fun e w'=>Fr (DS db r) w w'/\e=.returned (.int .i64 (powD d call).2)/\DkAt w' db r (powD d call).1:=by
 refine (F67g.of (some ⟨db,0,none⟩) (p0,0) w (Q:=fun v w'=>Fr (DS db r) w w'/\v=.int .i64 (powD d call).2/\DkAt w' db r (powD d call).1) ?_).mono (fun e w' ⟨v,he,hf,hv,h⟩=>⟨hf,by rw [he,hv],h⟩)
 have hne:=h.ne
 obtain ⟨u,v,fz,lv,h1,h2,h3,h4⟩:=h
 have hc1:=hB.calls
 have k4:∀ t:Bool,t=offD d->jnC (F67g.k4 (fun v w'=>Fr (DS db r) w w'/\v=.int .i64 (powD d call).2/\DkAt w' db r (powD d call).1)) (some ⟨db,0,none⟩,(p0,0),t,()) w:=by
  intro t ht
  refine jnC_mk (fun _=>vIf_mk (fun htt=>dr_mk (dk_set (d':={ d with down:=true }) (fz':=fz) (lv':=lv) h1 h2 h3 rfl (by show 0+6+1<=10; omega) (fun x hx=>by simp at hx; subst hx; rfl) rfl rfl hne (fun w6 f6 g1 g2 g3=>?_))) (fun htf=>jnC_mk (fun _=>?_)))
  ·have ho:offD d=true:=by rw [<- ht]; exact htt
   have eP:powD d call=({ d with down:=true },11):=by unfold powD; rw [if_pos ho]
   rw [eP]
   exact ⟨f6.mono (fun _ _ h=>.inl h),rfl,u,v,fz,lv,g1,g2,g3,h4⟩
  ·have ho:offD d=false:=by rw [<- ht]; exact htf
   have eP:powD d call=call { d with fu:=d.fu.map (· - 1),calls:=d.calls+1 }:=by unfold powD; rw [if_neg (by rw [ho]; simp)]
   refine dr_mk ⟨lv,h1.cell (o:=0+8) rfl,dr_mk (dk_set (d':=d) (fz':=fz) (lv':=IntKind.wrap .i64 (lv - 1)) h1 h2 h3 rfl (by show 0+8+1<=10; omega) (fun x hx=>by simp at hx; subst hx; rfl) rfl rfl hne (fun w12 f12 g1 g2 g3=>?_))⟩
   have ec:IntKind.wrap .i64 (d.calls+1)=d.calls+1:=i64_id (by omega) (by omega)
   refine dr_mk ⟨d.calls,g1.cell (o:=0+9) rfl,dr_mk (dk_set (d':={ d with fu:=d.fu.map (· - 1),calls:=d.calls+1 }) (fz':=fz) (lv':=IntKind.wrap .i64 (lv - 1)) g1 g2 g3 (by rw [ec]; rfl) (by show 0+9+1<=10; omega) (fun x hx=>by simp at hx; subst hx; rfl) rfl rfl hne (fun w18 f18 m1 m2 m3=>?_))⟩
   have hfu:fuR (d.fu.map (· - 1)) fz (IntKind.wrap .i64 (lv - 1)):=by
    unfold fuR at h4 ⊢
    cases hd:d.fu with
    | none=>rw [hd] at h4; exact h4
    | some n =>
     rw [hd] at h4
     have hh:=hB.fu n hd
     have hn1:¬ n<=0:=fun hle=>by
      unfold offD at ho
      rw [hd] at ho
      simp at ho
      omega
     have h4:fz=true/\lv=n:=h4
     refine ⟨h4.1,?_⟩
     rw [h4.2]
     exact i64_id (by omega) (by omega)
   have f018:Fr (fun k=>k=db) w w18:=f12.trans1 f18
   refine (hcall w18 f018 ho ⟨u,v,fz,_,m1,m2,m3,hfu⟩).mono ?_
   rintro e w19 ⟨f19,rfl,h19⟩
   refine ⟨_,rfl,?_⟩
   rw [eP]
   exact ⟨f018.trans f19 (fun k _ h=>.inl h) (fun _ _ h=>h),rfl,h19⟩
 refine vIf_f rfl (dr_mk ⟨d.down,h1.cell (o:=0+6) rfl,vIf_mk (fun hd=>k4 true ?_) (fun hd=>dr_mk ⟨fz,h1.cell (o:=0+7) rfl,vIf_mk (fun hz=>dr_mk ⟨lv,h1.cell (o:=0+8) rfl,k4 _ ?_⟩) (fun hz=>k4 false ?_)⟩)⟩)
 ·have hd:d.down=true:=hd
  unfold offD
  rw [hd]; rfl
 ·have hd:d.down=false:=hd
  have hz:fz=true:=hz
  unfold offD
  rw [hd,Bool.false_or]
  unfold fuR at h4
  cases hf:d.fu with
  | none=>rw [hf] at h4; rw [hz] at h4; cases h4
  | some n =>
   rw [hf] at h4
   have h4:fz=true/\lv=n:=h4
   rw [h4.2]
 ·have hd:d.down=false:=hd
  have hz:fz=false:=hz
  unfold offD
  rw [hd,Bool.false_or]
  unfold fuR at h4
  cases hf:d.fu with
  | none=>rfl
  | some n =>
   rw [hf] at h4
   have h4:fz=true/\lv=n:=h4
   rw [hz] at h4; cases h4.1
theorem app_p (x:Ino) (b:Bs):(appI x b).1.p.length<=x.p.length+1:=by
 unfold appI
 split
 ·exact Nat.le_succ _
 ·split
  ·exact Nat.le_succ _
  ·show (x.p ++ [_]).length<=_
   simp
theorem cut_p (x:Ino) (n:Int):(cutI x n).1.p.length<=x.p.length+1:=by
 unfold cutI
 split
 ·exact Nat.le_succ _
 ·show (x.p ++ [_]).length<=_
  simp
theorem clApp_calls [Ow] (pb:Nat) (e0:TypeId) (C:Option Addr) (nc cc:Nat) (bb:Bs) (cs:List Value) (x:Ino) (w:World) (hr:RecAt w pb e0 [.slice C nc cc]) (hC:Sl w 1 C nc (bys bb)) (h:InoAt w cs x) (hb:InoB x) (hp:x.p.length<=1099511627774) (hn:nc<=1099511627776) :
  Calls Tryz.prog 70 #[ofL cs,.pointer (some ⟨pb,0,none⟩)] w fun e w'=>Fr (fun _=>False) w w'/\∃ cs',e=.returned (.tuple #[ofL cs',.int .i64 (appI x bb).2])/\InoAt w' cs' (appI x bb).1:=by
 refine (F70.of cs (pb,0) w (Q:=fun v w'=>Fr (fun _=>False) w w'/\∃ cs',v=.tuple #[ofL cs',.int .i64 (appI x bb).2]/\InoAt w' cs' (appI x bb).1) ?_).mono (fun e w' ⟨v,he,hf,cs',hv,h⟩=>⟨hf,cs',by rw [he,hv],h⟩)
 have hone:=ino_one h
 refine rec_new (fun b1 w2 f1 hb1 r1=>rec_new (fun b3 w4 f3 hb3 r3=>⟨cs,hone.1,rec_all (r1.fr f3 (fun h=>h)),?_⟩))
 have f13:=f1.trans1 f3
 have hs1:=f1.size
 refine ⟨_,_,_,(hr.fr f13 (fun h=>h)).cell (o:=0) rfl,(app_calls cs x C nc cc bb w4 (h.fr0 f13) (f13.sl hC (fun _ _ _ h=>h)) hb hp hn).mono ?_⟩
 rintro e w9 ⟨f9,cs',rfl,hX⟩
 have hX1:=ino_one hX
 have r3:=r3.fr f9 (fun h=>h)
 refine ⟨_,_,rfl,ans_mk r3 rfl hX1.1 hX1.2 (fun v fv=>⟨(f13.trans1 f9).trans fv (fun _ _ h=>h) (fun j hj h=>by omega),cs',rfl,hX.fr fv (fun j hj=>by have hj:j=b3:=hj; subst hj; exact two_alien r3)⟩)⟩
theorem clSync_calls [Ow] (cs:List Value) (x:Ino) (w:World) (h:InoAt w cs x) (hb:InoB x) (hp:x.p.length<=1099511627774) :
  Calls Tryz.prog 73 #[ofL cs] w fun e w'=>Fr (fun _=>False) w w'/\∃ cs',e=.returned (.tuple #[ofL cs',.int .i64 0])/\InoAt w' cs' (syncI x):=by
 refine (F73.of cs w (Q:=fun v w'=>Fr (fun _=>False) w w'/\∃ cs',v=.tuple #[ofL cs',.int .i64 0]/\InoAt w' cs' (syncI x)) ?_).mono (fun e w' ⟨v,he,hf,cs',hv,h⟩=>⟨hf,cs',by rw [he,hv],h⟩)
 have hone:=ino_one h
 refine rec_new (fun b1 w2 f1 hb1 r1=>rec_new (fun b3 w4 f3 hb3 r3=>⟨cs,hone.1,rec_all (r1.fr f3 (fun h=>h)),?_⟩))
 have f13:=f1.trans1 f3
 have hs1:=f1.size
 refine (sync_calls' cs x w4 (h.fr0 f13) hb (by omega)).mono ?_
 rintro e w9 ⟨f9,cs',rfl,hX⟩
 have hX1:=ino_one hX
 have r3:=r3.fr f9 (fun h=>h)
 refine ⟨_,rfl,ans_mk r3 rfl hX1.1 hX1.2 (fun v fv=>⟨(f13.trans1 f9).trans fv (fun _ _ h=>h) (fun j hj h=>by omega),cs',rfl,hX.fr fv (fun j hj=>by have hj:j=b3:=hj; subst hj; exact two_alien r3)⟩)⟩
theorem Appendc [Ow] (db r:Nat) (d:Dk) (s:ByteArray) (C:Option Addr) (nc cc:Nat) (bb:Bs) (e0 e1 e2:TypeId) (v0 v1 v2:Nat) (w:World) (h:DkAt w db r d) (hb:FoB d.F) (hi:∀ id,InoB (d.f id)) (hp:∀ id,(d.f id).p.length<=349525) (h0:RecAt w v0 e0 [.pointer (some ⟨db,0,none⟩)]) (h1:RecAt w v1 e1 [.string s]) (h2:RecAt w v2 e2 [.slice C nc cc]) (hC:Sl w 1 C nc (bys bb)) (hn:nc<=1099511627776) :
  Calls Tryz.prog 68 #[.pointer (some ⟨v0,0,none⟩),.pointer (some ⟨v1,0,none⟩),.pointer (some ⟨v2,0,none⟩)] w fun e w'=>Fr (DS db r) w w'/\e=.returned (.int .i64 (fileD d s (fun x=>appI x bb)).2)/\DkAt w' db r (fileD d s (fun x=>appI x bb)).1:=by
 refine (F68.of (v0,0) (v1,0) (v2,0) w (Q:=fun v w'=>Fr (DS db r) w w'/\v=.int .i64 (fileD d s (fun x=>appI x bb)).2/\DkAt w' db r (fileD d s (fun x=>appI x bb)).1) ?_).mono (fun e w' ⟨v,he,hf,hv,h⟩=>⟨hf,by rw [he,hv],h⟩)
 refine ⟨_,h0.cell (o:=0) rfl,_,h1.cell (o:=0) rfl,(file_callsa db r d s v2 w (fun x=>appI x bb) h hb hi (fun id=>by have:=hp id; omega) (fun x hx=>appI_B hx bb) (fun id=>by have:=app_p (d.f id) bb; have:=hp id; omega) (fun w2 cs id f2 hI=>clApp_calls v2 e2 C nc cc bb cs (d.f id) w2 (h2.fr f2 (fun h=>h)) (f2.sl hC (fun _ _ _ h=>h)) hI (hi id) (by have:=hp id; omega) hn)).mono ?_⟩
 rintro e w3 ⟨f3,rfl,h3⟩
 exact ⟨_,rfl,f3,rfl,h3⟩
theorem Append_calls [Ow] (db r:Nat) (d:Dk) (s:ByteArray) (C:Option Addr) (nc cc:Nat) (bb:Bs) (w:World) (N:Nat) (h:DkAt w db r d) (hI:DkI d) (hB:DkB d N) (hN:N<=349524) (hC:Sl w 1 C nc (bys bb)) (hn:nc<=1099511627776) :
  Calls Tryz.prog 44 #[.pointer (some ⟨db,0,none⟩),.string s,.slice C nc cc] w fun e w'=>Fr (DS db r) w w'/\e=.returned (.int .i64 (powD d (fun d=>fileD d s (fun x=>appI x bb))).2)/\DkAt w' db r (powD d (fun d=>fileD d s (fun x=>appI x bb))).1:=by
 refine (F44.of (some ⟨db,0,none⟩) s C nc cc w (Q:=fun v w'=>Fr (DS db r) w w'/\v=.int .i64 (powD d (fun d=>fileD d s (fun x=>appI x bb))).2/\DkAt w' db r (powD d (fun d=>fileD d s (fun x=>appI x bb))).1) ?_).mono (fun e w' ⟨v,he,hf,hv,h⟩=>⟨hf,by rw [he,hv],h⟩)
 have hlt:=h.lt
 have hfo:=hB.fo
 refine rec_new (fun b1 w2 f1 hb1 r1=>rec_new (fun b3 w4 f3 hb3 r3=>rec_new (fun b5 w6 f5 hb5 r5=>⟨_,((r1.fr f3 (fun h=>h)).fr f5 (fun h=>h)).cell (o:=0) rfl,?_⟩)))
 have f0:=(f1.trans1 f3).trans1 f5
 have hs1:=f1.size
 have hs3:=f3.size
 have h6:=h.fr0 f0
 refine (power_callsb db r d b1 b3 b5 w6 N (fun d=>fileD d s (fun x=>appI x bb)) h6 hB (by omega) (fun w8 f8 ho h8=>?_)).mono ?_
 ·exact Appendc db r _ s C nc cc bb _ _ _ b1 b3 b5 w8 h8 (by unfold FoB; show d.F.L.length+d.F.P.length<=349525; omega) hI.ino (fun id=>by have:=hB.p id; show (d.f id).p.length<=349525; omega) (RecAt.fr f8 ((r1.fr f3 (fun h=>h)).fr f5 (fun h=>h)) (fun h=>by have h:b1=db:=h; omega)) (RecAt.fr f8 (r3.fr f5 (fun h=>h)) (fun h=>by have h:b3=db:=h; omega)) (RecAt.fr f8 r5 (fun h=>by have h:b5=db:=h; omega)) (by_fr0 (f0.sl hC (fun _ _ _ h=>h)) f8 (fun k hk=>by have hk:k=db:=hk; rw [hk]; exact h6.alien0.1)) hn
 ·rintro e w9 ⟨f9,rfl,h9⟩
  exact ⟨_,rfl,f0.trans f9 (fun _ _ h=>h.elim) (fun _ _ h=>h),rfl,h9⟩
theorem Syncc [Ow] (db r:Nat) (d:Dk) (s:ByteArray) (e0 e1:TypeId) (v0 v1:Nat) (w:World) (h:DkAt w db r d) (hb:FoB d.F) (hi:∀ id,InoB (d.f id)) (hp:∀ id,(d.f id).p.length<=349525) (h0:RecAt w v0 e0 [.pointer (some ⟨db,0,none⟩)]) (h1:RecAt w v1 e1 [.string s]) :
  Calls Tryz.prog 72 #[.pointer (some ⟨v0,0,none⟩),.pointer (some ⟨v1,0,none⟩)] w fun e w'=>Fr (DS db r) w w'/\e=.returned (.int .i64 (fileD d s (fun x=>(syncI x,0))).2)/\DkAt w' db r (fileD d s (fun x=>(syncI x,0))).1:=by
 refine (F72.of (v0,0) (v1,0)  w (Q:=fun v w'=>Fr (DS db r) w w'/\v=.int .i64 (fileD d s (fun x=>(syncI x,0))).2/\DkAt w' db r (fileD d s (fun x=>(syncI x,0))).1) ?_).mono (fun e w' ⟨v,he,hf,hv,h⟩=>⟨hf,by rw [he,hv],h⟩)
 refine ⟨_,h0.cell (o:=0) rfl,_,h1.cell (o:=0) rfl,(file_callsc db r d s  w (fun x=>(syncI x,0)) h hb hi (fun id=>by have:=hp id; omega) (fun x hx=>syncI_B hx) (fun id=>by show 0<=_; omega) (fun w2 cs id f2 hI=>clSync_calls cs (d.f id) w2 hI (hi id) (by have:=hp id; omega))).mono ?_⟩
 rintro e w3 ⟨f3,rfl,h3⟩
 exact ⟨_,rfl,f3,rfl,h3⟩
theorem Sync_calls [Ow] (db r:Nat) (d:Dk) (s:ByteArray) (w:World) (N:Nat) (h:DkAt w db r d) (hI:DkI d) (hB:DkB d N) (hN:N<=349524) :
  Calls Tryz.prog 46 #[.pointer (some ⟨db,0,none⟩),.string s] w fun e w'=>Fr (DS db r) w w'/\e=.returned (.int .i64 (powD d (fun d=>fileD d s (fun x=>(syncI x,0)))).2)/\DkAt w' db r (powD d (fun d=>fileD d s (fun x=>(syncI x,0)))).1:=by
 refine (F46.of (some ⟨db,0,none⟩) s  w (Q:=fun v w'=>Fr (DS db r) w w'/\v=.int .i64 (powD d (fun d=>fileD d s (fun x=>(syncI x,0)))).2/\DkAt w' db r (powD d (fun d=>fileD d s (fun x=>(syncI x,0)))).1) ?_).mono (fun e w' ⟨v,he,hf,hv,h⟩=>⟨hf,by rw [he,hv],h⟩)
 have hlt:=h.lt
 have hfo:=hB.fo
 refine rec_new (fun b1 w2 f1 hb1 r1=>rec_new (fun b3 w4 f3 hb3 r3=> ⟨_,(r1.fr f3 (fun h=>h)).cell (o:=0) rfl,?_⟩))
 have f0:=f1.trans1 f3
 have hs1:=f1.size
 have hs3:=f3.size
 have h6:=h.fr0 f0
 refine (power_callsd db r d b1 b3  w4 N (fun d=>fileD d s (fun x=>(syncI x,0))) h6 hB (by omega) (fun w8 f8 ho h8=>?_)).mono ?_
 ·exact Syncc db r _ s _ _  b1 b3  w8 h8 (by unfold FoB; show d.F.L.length+d.F.P.length<=349525; omega) hI.ino (fun id=>by have:=hB.p id; show (d.f id).p.length<=349525; omega) (RecAt.fr f8 (r1.fr f3 (fun h=>h)) (fun h=>by have h:b1=db:=h; omega)) (RecAt.fr f8 r3 (fun h=>by have h:b3=db:=h; omega))
 ·rintro e w9 ⟨f9,rfl,h9⟩
  exact ⟨_,rfl,f0.trans f9 (fun _ _ h=>h.elim) (fun _ _ h=>h),rfl,h9⟩
set_option maxHeartbeats 1000000 in
theorem SyncDir_calls [Ow] (db r:Nat) (d:Dk) (w:World) (N:Nat) (h:DkAt w db r d) (hI:DkI d) (hB:DkB d N) (hN:N<=349524) :
  Calls Tryz.prog 66 #[.pointer (some ⟨db,0,none⟩)] w fun e w'=>Fr (DS db r) w w'/\e=.returned (.int .i64 (powD d sdD).2)/\DkAt w' db r (powD d sdD).1:=by
 refine (F66.of (some ⟨db,0,none⟩) w (Q:=fun v w'=>Fr (DS db r) w w'/\v=.int .i64 (powD d sdD).2/\DkAt w' db r (powD d sdD).1) ?_).mono (fun e w' ⟨v,he,hf,hv,h⟩=>⟨hf,by rw [he,hv],h⟩)
 have hlt:=h.lt
 have hfo:=hB.fo
 have hbF:FoB d.F:=by unfold FoB; omega
 have hbF':FoB ⟨nowF d.F,[]⟩:=by
  have:=nowF_len d.F
  unfold FoB
  show (nowF d.F).length+0<=349525
  omega
 have hm:=ids_max hbF
 refine rec_new (fun b1 w2 f1 hb1 r1=>⟨_,r1.cell (o:=0) rfl,?_⟩)
 have h2:=h.fr0 f1
 refine (power_callsg db r d b1 w2 N sdD h2 hB (by omega) (fun w8 f8 ho h8=>?_)).mono ?_
 ·have r1:=r1.fr f8 (fun h=>by have h:b1=db:=h; omega)
  refine (F95.of (b1,0) w8 (Q:=fun v w'=>Fr (DS db r) w8 w'/\v=.int .i64 0/\DkAt w' db r (sdD { d with fu:=d.fu.map (· - 1),calls:=d.calls+1 }).1) ?_).mono (fun e w' ⟨v,he,hf,hv,h⟩=>⟨hf,by rw [he,hv]; rfl,h⟩)
  refine ⟨_,r1.cell (o:=0) rfl,dr_mk (dk_getF h8 (fun cs hF=>(ids_calls cs d.F w8 hF hbF).mono ?_))⟩
  rintro e w5 ⟨f5,A7,c9,rfl,r7⟩
  have fd:Fr (fun _=>False) w5 w5.drew:=Fr.drew _ _
  have f5d:=f5.trans1 fd
  have h5:=h8.fr0 f5d
  have r1:=r1.fr f5d (fun h=>h)
  have r7:=fd.row r7 (fun _ _ h=>h)
  have e0:w5.drew.heap.size=w5.heap.size:=rfl
  have hs5:=f5d.size
  generalize w5.drew=w6 at fd f5d h5 r1 r7 e0 hs5 ⊢
  refine ⟨A7,_,c9,rfl,_,r1.cell (o:=0) rfl,_,r1.cell (o:=0) rfl,dr_mk (dk_getF h5 (fun cs hF=>(sync_calls cs d.F w6 hF hbF).mono ?_))⟩
  rintro e w15 ⟨f15,cs',rfl,hF'⟩
  have hl1:=r1.lt
  have r1:=r1.fr f15 (fun h=>h)
  have hl8:=h8.lt
  refine ⟨cs',rfl,kp_mk f15 hl1 (fun h=>h) (dr_mk (dk_setF (h5.fr0 f15) hF' (fun w20 f20 h20=>?_)))⟩
  have r1':=r1.fr f20 (fun h=>by have h:b1=db:=h; omega)
  have hrow:Sl w20 1 A7 (idsF d.F).length (ivs (idsF d.F)):=by
   refine f20.sl (f15.sl r7.sl (fun _ _ _ h=>h)) (fun h0 k hk h=>?_)
   have h:k=db:=h
   have:=(r7.blt hk).1; omega
  refine ⟨_,r1'.cell (o:=0) rfl,(keep_calls db r _ A7 _ c9 (idsF d.F) w20 h20 hbF' hrow (ids_asc _) (by omega)).mono ?_⟩
  rintro e w22 ⟨f22,rfl,h22⟩
  have e2:forg (idsF ⟨nowF d.F,[]⟩) (idsF d.F) d.f=trim ⟨nowF d.F,[]⟩ d.f:=forg_trim hI.out
  have h22:DkAt w22 db r { d with F:=⟨nowF d.F,[]⟩,f:=forg (idsF ⟨nowF d.F,[]⟩) (idsF d.F) d.f,fu:=d.fu.map (· - 1),calls:=d.calls+1 }:=h22
  rw [e2] at h22
  refine ⟨rfl,?_,rfl,h22⟩
  exact ((f5d.trans1 f15).trans f20 (U:=DS db r) (fun _ _ h=>h.elim) (fun k hk h=>.inl h)).trans f22 (fun _ _ h=>h) (fun k hk h=>.inr h)
 ·rintro e w9 ⟨f9,rfl,h9⟩
  exact ⟨_,rfl,f1.trans f9 (fun _ _ h=>h.elim) (fun _ _ h=>h),rfl,h9⟩
set_option maxHeartbeats 2000000 in
theorem Create_calls [Ow] (db r:Nat) (d:Dk) (s:ByteArray) (w:World) (N:Nat) (h:DkAt w db r d) (hI:DkI d) (hB:DkB d N) (hN:N<=349524) (hs:s.size<=1099511627775) :
  Calls Tryz.prog 63 #[.pointer (some ⟨db,0,none⟩),.string s] w fun e w'=>Fr (DS db r) w w'/\e=.returned (.int .i64 (powD d (fun d=>crD d s)).2)/\DkAt w' db r (powD d (fun d=>crD d s)).1:=by
 refine (F63.of (some ⟨db,0,none⟩) s w (Q:=fun v w'=>Fr (DS db r) w w'/\v=.int .i64 (powD d (fun d=>crD d s)).2/\DkAt w' db r (powD d (fun d=>crD d s)).1) ?_).mono (fun e w' ⟨v,he,hf,hv,h⟩=>⟨hf,by rw [he,hv],h⟩)
 have hlt:=h.lt
 have hfo:=hB.fo
 have hlast:=hB.last
 have hbF:FoB d.F:=by unfold FoB; omega
 refine rec_new (fun b1 w2 f1 hb1 r1=>rec_new (fun b3 w4 f3 hb3 r3=>⟨_,(r1.fr f3 (fun h=>h)).cell (o:=0) rfl,?_⟩))
 have f0:=f1.trans1 f3
 have hs1:=f1.size
 have h6:=h.fr0 f0
 have r1:=r1.fr f3 (fun h=>h)
 refine (power_callsa db r d b1 b3 w4 N (fun d=>crD d s) h6 hB (by omega) (fun w8 f8 ho h8=>?_)).mono ?_
 ·have r1:=r1.fr f8 (fun h=>by have h:b1=db:=h; omega)
  have r3:=r3.fr f8 (fun h=>by have h:b3=db:=h; omega)
  have hl1:=r1.lt
  have hl3:=r3.lt
  have hl8:=h8.lt
  generalize hd':({ d with fu:=d.fu.map (· - 1),calls:=d.calls+1 }:Dk)=d' at h8 ⊢
  have eF:d'.F=d.F:=by rw [<- hd']
  have ef:d'.f=d.f:=by rw [<- hd']
  have el:d'.last=d.last:=by rw [<- hd']
  have elf:d'.lf=d.lf:=by rw [<- hd']
  have hout:∀ id,id ∉ idsF d'.F->d'.f id=zI:=by rw [eF,ef]; exact hI.out
  have hbF':FoB d'.F:=by rw [eF]; exact hbF
  refine (F93.of (b1,0) (b3,0) w8 (Q:=fun v w'=>Fr (DS db r) w8 w'/\v=.int .i64 (crD d' s).2/\DkAt w' db r (crD d' s).1) ?_).mono (fun e w' ⟨v,he,hf,hv,h⟩=>⟨hf,by rw [he,hv],h⟩)
  have fd:Fr (fun _=>False) w8 w8.drew:=Fr.drew _ _
  have h9:=h8.fr0 fd
  have r1d:=r1.fr fd (fun h=>h)
  have r3d:=r3.fr fd (fun h=>h)
  have e8:w8.drew.heap.size=w8.heap.size:=rfl
  unfold F93.vc
  dsimp only
  generalize w8.drew=w9 at fd h9 r1d r3d e8 ⊢
  refine ⟨_,r1d.cell (o:=0) rfl,dr_mk (dk_getF h9 (fun cs hF=>⟨_,r1d.cell (o:=0) rfl,dr_mk (dk_getI (o:=1) h9 (.inr (.inl ⟨rfl,rfl⟩)) ((ids_calls cs d'.F w9 hF hbF').mono ?_))⟩))⟩
  rintro e w10 ⟨f10,A11,c13,rfl,r11⟩
  refine ⟨A11,_,c13,rfl,kp_mk f10 (by omega) (fun h=>h) (kp_mk f10 (by omega) (fun h=>h) (vIf_mk (fun hge=>?_) (fun hlt2=>?_)))⟩
  ·have hge:=of_decide_eq_true hge
   have eC:crD d' s=(d',8):=by unfold crD; rw [if_pos hge]
   rw [eC]
   exact ⟨fr_up (fd.trans1 f10),rfl,h9.fr0 f10⟩
  ·have hlt2:=of_decide_eq_false hlt2
   have fdd:Fr (fun _=>False) w10 w10.drew:=Fr.drew _ _
   have f1011:=f10.trans1 fdd
   have h11:=h9.fr0 f1011
   have r1e:=r1d.fr f1011 (fun h=>h)
   have r3e:=r3d.fr f1011 (fun h=>h)
   have f011:=fd.trans1 f1011
   generalize w10.drew=w11 at fdd f1011 h11 r1e r3e f011 ⊢
   have ew:IntKind.wrap .i64 (d'.last+1)=d'.last+1:=i64_id (by omega) (by omega)
   refine ⟨_,r1e.cell (o:=0) rfl,_,r3e.cell (o:=0) rfl,_,r1e.cell (o:=0) rfl,dr_mk (dk_getI (o:=5) h11 (.inr (.inr (.inl ⟨rfl,rfl⟩))) ?_)⟩
   rw [ew]
   have hchb:ChB ⟨1,s,⟨#[]⟩,d'.last+1⟩:=⟨hs,by show 0<=_; omega⟩
   refine (change_calls db r d' ⟨1,s,⟨#[]⟩,d'.last+1⟩ w11 h11 hchb (by rw [eF]; omega) hout).mono ?_
   rintro e w20 ⟨f20,rfl,h20⟩
   have hne:∀ k,DS db r k->k < w.heap.size:=by
    rintro k (rfl | rfl) <;> omega
   have r1f:=r1e.fr f20 (fun h=>by have:=hne _ h; omega)
   have f020:Fr (DS db r) w8 w20:=f011.trans f20 (fun _ _ h=>h.elim) (fun _ _ h=>h)
   refine ⟨_,rfl,vIf_mk (fun h0=>?_) (fun h0=>?_)⟩
   ·have h0:wrongF d'.F ⟨1,s,⟨#[]⟩,d'.last+1⟩=0:=by simpa [chD] using h0
    have eC:crD d' s=({ (chD d' ⟨1,s,⟨#[]⟩,d'.last+1⟩).1 with last:=d'.last+1 },0):=by unfold crD; rw [if_neg hlt2,if_pos h0]
    have e20:(chD d' ⟨1,s,⟨#[]⟩,d'.last+1⟩).1.last=d'.last:=rfl
    refine ⟨_,r1f.cell (o:=0) rfl,dr_mk (dk_getI (o:=5) h20 (.inr (.inr (.inl ⟨rfl,rfl⟩))) (dr_mk ?_))⟩
    rw [e20,ew]
    have hne2:=h20.ne
    obtain ⟨u,v,fz,lv,q1,q2,q3,q4⟩:=h20
    refine dk_set (d':={ (chD d' ⟨1,s,⟨#[]⟩,d'.last+1⟩).1 with last:=d'.last+1 }) (fz':=fz) (lv':=lv) q1 q2 q3 rfl (by show 0+5+1<=10; omega) (fun x hx=>by simp at hx; subst hx; rfl) rfl rfl hne2 (fun w29 f29 g1 g2 g3=>?_)
    have h29:DkAt w29 db r { (chD d' ⟨1,s,⟨#[]⟩,d'.last+1⟩).1 with last:=d'.last+1 }:=⟨u,v,fz,lv,g1,g2,g3,q4⟩
    have r1g:=r1f.fr f29 (fun h=>by have h:b1=db:=h; omega)
    have fd3:Fr (fun _=>False) w29 w29.drew:=Fr.drew _ _
    have h30:=h29.fr0 fd3
    have r1g:=r1g.fr fd3 (fun h=>h)
    have f030:Fr (DS db r) w8 w29.drew:=(f020.trans f29 (fun _ _ h=>h) (fun k hk h=>.inl h)).trans fd3 (fun _ _ h=>h) (fun _ _ h=>h.elim)
    generalize w29.drew=w30 at fd3 h30 r1g f030 ⊢
    have h300:=h30
    obtain ⟨u',v',fz',lv',m1,m2,m3,m4⟩:=h300
    refine ⟨_,r1g.cell (o:=0) rfl,dr_mk (dk_getM h30 ⟨_,r1g.cell (o:=0) rfl,dr_mk (dk_getI (o:=5) h30 (.inr (.inr (.inl ⟨rfl,rfl⟩))) (files_put m3 (zI_at ((FilesAt.ok m3)))  (fun w38 hF38 f38=>?_)))⟩)⟩
    rw [eC]
    refine ⟨f030.trans f38 (fun _ _ h=>h) (fun k hk h=>.inr h),congrArg (Value.int .i64) h0,u',v',fz',lv',m1.fr f38 (fun h=>hne2 h),fo_fr m2 f38 (fun k hk=>by have hk:k=r:=hk; rw [hk]; exact m3.alien),?_,m4⟩
    have e3:updF (trim (doF d'.F ⟨1,s,⟨#[]⟩,d'.last+1⟩) d'.f) (d'.last+1) zI=trim (doF d'.F ⟨1,s,⟨#[]⟩,d'.last+1⟩) d'.f:=by
     funext j
     unfold updF
     by_cases hj:j=d'.last+1
     ·rw [if_pos hj]
      unfold trim
      split
      ·refine (hout j (fun hm=>?_)).symm
       rw [eF] at hm
       have:=(hI.rng j hm).2
       omega
      ·rfl
     ·rw [if_neg hj]
    have hF38:FilesAt w38 r (updF (trim (doF d'.F ⟨1,s,⟨#[]⟩,d'.last+1⟩) d'.f) (d'.last+1) zI):=hF38
    rw [e3] at hF38
    exact hF38
   ·have h0:¬ wrongF d'.F ⟨1,s,⟨#[]⟩,d'.last+1⟩=0:=by simpa [chD] using h0
    have eC:crD d' s=chD d' ⟨1,s,⟨#[]⟩,d'.last+1⟩:=by unfold crD; rw [if_neg hlt2,if_neg h0]
    rw [eC]
    exact ⟨f020,rfl,h20⟩
 ·rintro e w9 ⟨f9,rfl,h9⟩
  exact ⟨_,rfl,f0.trans f9 (fun _ _ h=>h.elim) (fun _ _ h=>h),rfl,h9⟩
theorem Fuse_calls [Ow] (db r:Nat) (d:Dk) (n:Int) (w:World) (h:DkAt w db r d) :
  Calls Tryz.prog 13 #[.pointer (some ⟨db,0,none⟩),.int .i64 n] w fun e w'=>Fr (DS db r) w w'/\e=.returned (.tuple #[])/\DkAt w' db r (fuseD d n):=by
 refine (F13.of (some ⟨db,0,none⟩) n w (Q:=fun v w'=>Fr (DS db r) w w'/\v=.tuple #[]/\DkAt w' db r (fuseD d n)) ?_).mono (fun e w' ⟨v,he,hf,hv,h⟩=>⟨hf,by rw [he,hv],h⟩)
 have hne:=h.ne
 obtain ⟨u,v,fz,lv,h1,h2,h3,h4⟩:=h
 refine vIf_t rfl (dr_mk (dk_set (d':=d) (fz':=decide (n >= 0)) (lv':=lv) h1 h2 h3 rfl (by show 0+7+1<=10; omega) (fun x hx=>by simp at hx; subst hx; rfl) rfl rfl hne (fun w45 f45 g1 g2 g3=>dr_mk (dk_set (d':=fuseD d n) (fz':=decide (n >= 0)) (lv':=n) g1 g2 g3 rfl (by show 0+8+1<=10; omega) (fun x hx=>by simp at hx; subst hx; rfl) rfl rfl hne (fun w48 f48 k1 k2 k3=>⟨?_,rfl,u,v,_,_,k1,k2,k3,?_⟩)))))
 ·exact (f45.trans1 f48).mono (fun _ _ h=>.inl h)
 ·show fuR (if n >= 0 then some n else none) _ _
  by_cases h0:n >= 0
  ·rw [if_pos h0]
   exact ⟨decide_eq_true h0,rfl⟩
  ·rw [if_neg h0]
   exact decide_eq_false h0
theorem NewO_calls [Ow] (lb lf:Int) (w:World) (ho:∀ k,w.heap.size<=k->Ow.O k) :
  Calls Tryz.prog 4 #[ofL [.int .i64 lb,.int .i64 lf]] w fun e w'=>Fr (fun _=>False) w w'/\∃ db r,e=.returned (.pointer (some ⟨db,0,none⟩))/\DkAt w' db r (newD lb lf)/\w.heap.size<=db/\w.heap.size<=r:=by
 refine (F4.of _ w (Q:=fun v w'=>Fr (fun _=>False) w w'/\∃ db r,v=.pointer (some ⟨db,0,none⟩)/\DkAt w' db r (newD lb lf)/\w.heap.size<=db/\w.heap.size<=r) ?_).mono (fun e w' ⟨v,he,hf,db,r,hv,h⟩=>⟨hf,db,r,by rw [he,hv],h⟩)
 refine rec_new (fun b1 w2 f1 hb1 r1=>⟨_,rfl,rec_all r1,mmk_mk (fun w5 hM f5 hs5=>gd_mk rfl (rec_new (fun b6 w7 f7 hb6 r6=>⟨(f1.trans1 f5).trans1 f7,b6,w2.heap.size,rfl,?_,?_,f1.size⟩)))⟩)
 ·have ho7:OkA w7 none 0:=⟨fun k hk=>ho k (Nat.le_trans ((f1.trans1 f5).trans1 f7).size hk),fun h0=>absurd rfl h0⟩
  refine ⟨.slice none 0 0,.slice none 0 0,false,0,r6,⟨none,0,0,none,0,0,rfl,⟨Sl.nil _ _ _,rfl⟩,⟨Sl.nil _ _ _,rfl⟩,Nat.le_refl _,ho7,ho7⟩,⟨_,hM.fr f7 (fun h=>h),fun id=>⟨ZI,rfl,zI_at ho7⟩⟩,rfl⟩
 ·have:=f1.size
  omega
theorem New_calls (lb lf:Int) (w:World) :
  Calls Tryz.prog 4 #[ofL [.int .i64 lb,.int .i64 lf]] w fun e w'=>Fr (fun _=>False) w w'/\∃ db r,e=.returned (.pointer (some ⟨db,0,none⟩))/\DkAt w' db r (newD lb lf)/\w.heap.size<=db/\w.heap.size<=r :=
 NewO_calls lb lf w (fun _ _=>trivial)
end Go.Proofs.YtadbakmblklncaaGreatDoor
namespace Go.GV
open Go Go.RowKit
structure RowW (w:World) (B:Nat) (e:TypeId) (sz:Nat) (z:List Value) (A:Option Addr) (n c:Nat) (vs:List Value):Prop where
 len:vs.length=n * sz
 le:n<=c
 at_:(A=none/\n=0/\c=0)\/∃ b,A=some ⟨b,0,none⟩/\B<=b/\w.heap[b]?=some (.cells (vs ++ zeros (c - n) z).toArray e (0,0))
end Go.GV
namespace Go.Proofs.YtadbakmblklncaaGreatDoor
open Go.GV Go.RowKit Go.Lib
structure AlienI (w:World) (b:Nat):Prop where
 u:∀ o x,cellAt w b o ≠ some (.int .u8 x)
 t:∀ o t,cellAt w b o ≠ some (.bool t)
def KL (it:ByteArray) (id:Int) (l:List Nm):Prop:=findN it l=some id/\∀ x ∈ l,x.2=id->x.1=it
structure Kp (d:Dk) (it:ByteArray) (id:Int) (b:Bs):Prop where
 all:∀ i:Nat,i<=d.F.P.length->KL it id (behF d.F (i:Nat))
 file:d.f id=⟨b,[]⟩
 old:id<=d.last
theorem DkB.mono {d:Dk} {M N:Nat} (h:DkB d M) (hMN:M<=N):DkB d N :=
 ⟨by have:=h.fo; omega,fun id=>by have:=h.p id; omega,by have:=h.last; omega,by have:=h.calls; omega,h.fu,h.lb,h.lf⟩
theorem trim_p {F:Fo} {f:Int->Ino} {N:Nat} (h:∀ id,(f id).p.length<=N) (id:Int):(trim F f id).p.length<=N:=by
 unfold trim
 split
 ·exact h id
 ·exact Nat.zero_le _
theorem updF_p {f:Int->Ino} {N:Nat} (h:∀ id,(f id).p.length<=N) {k:Int} {x:Ino} (hx:x.p.length<=N) (id:Int):(updF f k x id).p.length<=N:=by
 unfold updF
 split
 ·exact hx
 ·exact h id
theorem crashS_p:∀ (l:List Int) (f:Int->Ino) (c:Bs) (N:Nat),(∀ id,(f id).p.length<=N)->∀ id,(crashS f l c id).p.length<=N
 | [],f,c,N,h,id=>h id
 | k :: l,f,c,N,h,id=>crashS_p l _ _ N (updF_p h (Nat.zero_le _)) id
theorem do_len (F:Fo) (c:Ch):(doF F c).L.length+(doF F c).P.length<=F.L.length+F.P.length+1:=by
 unfold doF
 split
 ·show F.L.length+(F.P ++ [c]).length<=_
  rw [List.length_append,List.length_singleton]; omega
 ·omega
theorem fu_map {o:Option Int} (h:∀ n,o=some n->n<=9223372036854775807):∀ n,o.map (· - 1)=some n->n<=9223372036854775807:=by
 intro n hn
 cases o with
 | none=>cases hn
 | some m =>
  simp only [Option.map_some,Option.some.injEq] at hn
  have:=h m rfl
  omega
structure UpB (d d':Dk):Prop where
 fo:d'.F.L.length+d'.F.P.length<=d.F.L.length+d.F.P.length+1
 p:∀ N,(∀ id,(d.f id).p.length<=N)->∀ id,(d'.f id).p.length<=N+1
 last:d.last<=d'.last/\d'.last<=d.last+1
 calls:d.calls<=d'.calls/\d'.calls<=d.calls+1
 lb:d'.lb=d.lb
 lf:d'.lf=d.lf
theorem UpB.dk {d d':Dk} {N:Nat} (u:UpB d d') (h:DkB d N) (hfu:∀ n,d'.fu=some n->n<=9223372036854775807):DkB d' (N+1) :=
 ⟨by have:=u.fo; have:=h.fo; omega,u.p N h.p,by have:=u.last; have:=h.last; omega,by have:=u.calls; have:=h.calls; omega,hfu,by rw [u.lb]; exact h.lb,by rw [u.lf]; exact h.lf⟩
theorem ch_up (d:Dk) (c:Ch):UpB d (chD d c).1:=⟨do_len _ _,fun N h id=>by have:=trim_p (F:=doF d.F c) h id; show (trim (doF d.F c) d.f id).p.length<=_; omega,⟨Int.le_refl _,by show d.last<=d.last+1; omega⟩,⟨Int.le_refl _,by show d.calls<=d.calls+1; omega⟩,rfl,rfl⟩
theorem up_refl (d:Dk):UpB d d:=⟨by omega,fun N h id=>by have:=h id; omega,⟨Int.le_refl _,by omega⟩,⟨Int.le_refl _,by omega⟩,rfl,rfl⟩
theorem cr_up (d:Dk) (s:ByteArray):UpB d (crD d s).1/\(crD d s).1.fu=d.fu/\(crD d s).1.calls=d.calls:=by
 unfold crD
 split
 ·exact ⟨up_refl d,rfl,rfl⟩
 ·split
  ·have h:=ch_up d ⟨1,s,⟨#[]⟩,d.last+1⟩
   exact ⟨⟨h.fo,h.p,⟨by show d.last<=d.last+1; omega,Int.le_refl _⟩,h.calls,rfl,rfl⟩,rfl,rfl⟩
  ·exact ⟨ch_up _ _,rfl,rfl⟩
theorem file_up (d:Dk) (s:ByteArray) (g:Ino->Ino×Int) (hg:∀ x,(g x).1.p.length<=x.p.length+1):UpB d (fileD d s g).1/\(fileD d s g).1.fu=d.fu/\(fileD d s g).1.calls=d.calls:=by
 unfold fileD
 split
 ·exact ⟨up_refl d,rfl,rfl⟩
 ·rename_i id _
  split
  ·exact ⟨up_refl d,rfl,rfl⟩
  ·split
   ·exact ⟨up_refl d,rfl,rfl⟩
   ·refine ⟨⟨by show d.F.L.length+d.F.P.length<=_; omega,fun N h k=>?_,⟨Int.le_refl _,by show d.last<=d.last+1; omega⟩,⟨Int.le_refl _,by show d.calls<=d.calls+1; omega⟩,rfl,rfl⟩,rfl,rfl⟩
    refine updF_p (fun k=>by have:=h k; omega) ?_ k
    have:=hg (d.f id)
    have:=h id
    omega
theorem sd_up (d:Dk):UpB d (sdD d).1:=by
 refine ⟨?_,fun N h id=>by have:=trim_p (F:=⟨nowF d.F,[]⟩) h id; show (trim ⟨nowF d.F,[]⟩ d.f id).p.length<=_; omega,⟨Int.le_refl _,by show d.last<=d.last+1; omega⟩,⟨Int.le_refl _,by show d.calls<=d.calls+1; omega⟩,rfl,rfl⟩
 have:=nowF_len d.F
 show (nowF d.F).length+0<=_
 omega
theorem crash_up (d:Dk) (c:Bs):UpB d (crashD d c):=by
 refine ⟨?_,fun N h id=>?_,⟨Int.le_refl _,by show d.last<=d.last+1; omega⟩,⟨Int.le_refl _,by show d.calls<=d.calls+1; omega⟩,rfl,rfl⟩
 ·have:=behF_len d.F (headC c)
  show (behF d.F (headC c)).length+0<=_
  omega
 ·have:=trim_p (F:=⟨behF d.F (headC c),[]⟩) (crashS_p (idsF d.F) d.f c.tail N h) id
  show (trim ⟨behF d.F (headC c),[]⟩ (crashS d.f (idsF d.F) c.tail) id).p.length<=_
  omega
theorem pow_B {d:Dk} {N:Nat} {call:Dk->Dk×Int} (h:DkB d N) (hc:∀ d',UpB d' (call d').1/\(call d').1.fu=d'.fu/\(call d').1.calls=d'.calls):DkB (powD d call).1 (N+1):=by
 unfold powD
 split
 ·have h':=h.mono (Nat.le_succ N)
  exact ⟨h'.fo,h'.p,h'.last,h'.calls,h'.fu,h'.lb,h'.lf⟩
 ·obtain ⟨u,e1,e2⟩:=hc { d with fu:=d.fu.map (· - 1),calls:=d.calls+1 }
  have hcl:=h.calls
  refine ⟨Nat.le_trans u.fo (by have:=h.fo; show d.F.L.length+d.F.P.length+1<=_; omega),u.p N h.p,?_,?_,?_,?_,?_⟩
  ·have:=u.last
   have hl:=h.last
   have e3:({ d with fu:=d.fu.map (· - 1),calls:=d.calls+1 }:Dk).last=d.last:=rfl
   rw [e3] at this
   omega
  ·rw [e2]
   show 0<=d.calls+1/\d.calls+1<=_
   omega
  ·rw [e1]; exact fu_map h.fu
  ·rw [u.lb]; exact h.lb
  ·rw [u.lf]; exact h.lf
theorem do_B {d:Dk} {N:Nat} (h:DkB d N) (c:Cl) (hn:c.n<=9223372036854775807):DkB (doD d c).1 (N+1):=by
 unfold doD
 split
 ·exact pow_B h (fun d'=>cr_up d' _)
 split
 ·exact pow_B h (fun d'=>file_up d' _ _ (fun x=>app_p x _))
 split
 ·exact pow_B h (fun d'=>file_up d' _ _ (fun x=>cut_p x _))
 split
 ·exact pow_B h (fun d'=>file_up d' _ _ (fun x=>Nat.zero_le _))
 split
 ·exact pow_B h (fun d'=>⟨ch_up d' _,rfl,rfl⟩)
 split
 ·exact pow_B h (fun d'=>⟨ch_up d' _,rfl,rfl⟩)
 split
 ·exact pow_B h (fun d'=>⟨sd_up d',rfl,rfl⟩)
 split
 ·have h':=h.mono (Nat.le_succ N)
  refine ⟨h'.fo,h'.p,h'.last,h'.calls,fun n hn'=>?_,h'.lb,h'.lf⟩
  have hn':(if c.n >= 0 then some c.n else none)=some n:=hn'
  split at hn'
  ·injection hn' with hn'; omega
  ·cases hn'
 split
 ·exact (crash_up d c.data).dk h (fun n hn=>by cases hn)
 ·exact h.mono (Nat.le_succ N)
theorem new_B (lb lf:Int) (h1:lb<=9223372036854775807) (h2:lf<=9223372036854775807):DkB (newD lb lf) 0 :=
 ⟨Nat.le_refl _,fun id=>Nat.le_refl _,⟨Int.le_refl _,Int.le_refl _⟩,⟨Int.le_refl _,by show (0:Int)<=((0:Nat):Int) * 1000000+1000000; omega⟩,(fun n hn=>by cases hn),h1,h2⟩
def sA:ByteArray:=⟨#[97]⟩
theorem pow_on {d:Dk} (h1:d.down=false) (h2:d.fu=none) (call:Dk->Dk×Int):powD d call=call { d with fu:=none,calls:=d.calls+1 }:=by
 have ho:offD d=false:=by unfold offD; rw [h1,h2]; rfl
 unfold powD
 rw [if_neg (by rw [ho]; simp),h2]; rfl
theorem file_ok {d:Dk} {s:ByteArray} {id:Int} {g:Ino->Ino×Int} (hf:findN s (nowF d.F)=some id) (h0:(g (d.f id)).2=0) (hr:¬ (roomI (g (d.f id)).1 > roomI (d.f id)/\takenF d.F (updF d.f id (g (d.f id)).1) > d.lb)):fileD d s g=({ d with f:=updF d.f id (g (d.f id)).1 },0):=by
 unfold fileD
 rw [hf]
 dsimp only
 rw [if_neg (by rw [h0]; simp),if_neg hr]
def cA:Ch:=⟨1,sA,⟨#[]⟩,1⟩
def FA:Fo:=⟨[],[cA]⟩
def XA:Ino:=⟨[],[⟨false,0,[120,121]⟩]⟩
noncomputable def D1:Dk:={ newD 100 4 with F:=FA,f:=trim FA (newD 100 4).f,last:=1,calls:=1 }
noncomputable def D2:Dk:={ D1 with f:=updF D1.f 1 XA,calls:=2 }
theorem fA:findN sA (nowF FA)=some 1:=by decide
theorem iA:idsF FA=[1]:=by decide
theorem tk1 {F:Fo} (h:idsF F=[1]) (f:Int->Ino):takenF F f=roomI (f 1):=by unfold takenF; rw [h]; simp
theorem D1f:D1.f 1=zI:=by show trim FA (newD 100 4).f 1=_; unfold trim; split <;> rfl
theorem upd1 (f:Int->Ino) (x:Ino):updF f 1 x 1=x:=by unfold updF; rw [if_pos rfl]
theorem lv2:powD D1 (fun d=>fileD d sA (fun x=>appI x [120,121]))=(D2,0):=by
 rw [pow_on rfl rfl]
 have e:appI zI [120,121]=(XA,0):=rfl
 have h:=file_ok (d:={ D1 with fu:=none,calls:=D1.calls+1 }) (s:=sA) (id:=1) (g:=fun x=>appI x [120,121]) fA (by show (appI (D1.f 1) [120,121]).2=0; rw [D1f,e]) (by
  show ¬ (roomI (appI (D1.f 1) [120,121]).1 > roomI (D1.f 1)/\takenF FA (updF D1.f 1 (appI (D1.f 1) [120,121]).1) > 100)
  rw [tk1 iA,upd1,D1f,e]; decide)
 rw [h]
 show (({ D1 with f:=updF D1.f 1 (appI (D1.f 1) [120,121]).1,calls:=1+1 }:Dk),(0:Int))=_
 rw [D1f,e]; rfl
structure ClB (c:Cl):Prop where
 nm:c.nm.size<=1099511627775
 to:c.to.size<=1099511627775
 data:c.data.length<=1099511627775
 n : -9223372036854775808<=c.n/\c.n<=9223372036854775807
theorem doD1 (d:Dk) (s:ByteArray):doD d ⟨1,s,⟨#[]⟩,[],0⟩=powD d (fun d=>crD d s):=by unfold doD; rw [if_pos rfl]
theorem doD2 (d:Dk) (s:ByteArray) (b:Bs):doD d ⟨2,s,⟨#[]⟩,b,0⟩=powD d (fun d=>fileD d s (fun x=>appI x b)):=by unfold doD; rw [if_neg (by show ¬ (2:Int)=1; decide),if_pos rfl]
theorem doD4 (d:Dk) (s:ByteArray):doD d ⟨4,s,⟨#[]⟩,[],0⟩=powD d (fun d=>fileD d s (fun x=>(syncI x,0))):=by
 unfold doD
 rw [if_neg (by show ¬ (4:Int)=1; decide),if_neg (by show ¬ (4:Int)=2; decide),if_neg (by show ¬ (4:Int)=3; decide),if_pos rfl]
theorem doD7 (d:Dk):doD d ⟨7,⟨#[]⟩,⟨#[]⟩,[],0⟩=powD d sdD:=by
 unfold doD
 rw [if_neg (by show ¬ (7:Int)=1; decide),if_neg (by show ¬ (7:Int)=2; decide),if_neg (by show ¬ (7:Int)=3; decide),if_neg (by show ¬ (7:Int)=4; decide),if_neg (by show ¬ (7:Int)=5; decide),if_neg (by show ¬ (7:Int)=6; decide),if_pos rfl]
structure DkG (d:Dk) (N:Nat):Prop where
 i:DkI d
 b:DkB d N
theorem DkG.step {d d':Dk} {N:Nat} {v:Int} {c:Cl} (h:DkG d N) (hn:c.n<=9223372036854775807) (e:doD d c=(d',v)):DkG d' (N+1):=by
 have h1:=(do_I h.i h.b.last.1 c).1
 have h2:=do_B h.b c hn
 rw [e] at h1 h2
 exact ⟨h1,h2⟩
end Go.Proofs.YtadbakmblklncaaGreatDoor
namespace Go.Proofs.YtadbakmblklncaaGreatDoor
open Go.GV
def leB (n:Nat):Nat->List UInt8
 | 0=>[]
 | k+1=>UInt8.ofNat (n % 256) :: leB (n / 256) k
def leT:List UInt8->Nat
 | []=>0
 | c :: r=>c.toNat+256 * leT r
theorem leB_len:∀ (k n:Nat),(leB n k).length=k
 | 0,n=>rfl
 | k+1,n=>by rw [leB,List.length_cons,leB_len k]
theorem u8n' {n:Nat} (h:n < 256):(UInt8.ofNat n).toNat=n:=by simp; omega
theorem leB_snoc:∀ (k n:Nat),leB n (k+1)=leB n k ++ [UInt8.ofNat (n / 256 ^ k % 256)]
 | 0,n=>by simp [leB]
 | k+1,n=>by
  rw [leB,leB_snoc k,leB]
  rw [List.cons_append,Nat.div_div_eq_div_mul,Nat.pow_succ,Nat.mul_comm (256 ^ k)]
def crP:BitVec 32:=0x82f63b78#32
def crF (x:BitVec 32):BitVec 32:=(x >>> 1) ^^^ (if x.getLsbD 0 then crP else 0#32)
def crF4 (x:BitVec 32):BitVec 32:=crF (crF (crF (crF x)))
def nibS (x n:BitVec 32):BitVec 32:=((x >>> 4) ^^^ crF4 ((x ^^^ n) &&& 15#32))
def byteS (x:BitVec 32) (c:UInt8):BitVec 32:=nibS (nibS x (BitVec.ofNat 32 (c.toNat % 16))) (BitVec.ofNat 32 (c.toNat / 16))
def crcS (b:List UInt8):BitVec 32 := ~~~ (b.foldl byteS (~~~ 0#32))
end Go.Proofs.YtadbakmblklncaaGreatDoor
namespace Go.Proofs.YtadbakmblklncaaGreatDoor
open Go.GV Go.RowKit
theorem le_e1 (i:Nat) (h:i < 1099511627776):IntKind.wrap .i64 ((i:Int)+1)=((i+1:Nat):Int):=by rw [i64_id (by omega) (by omega)]; rfl
theorem u64_id {n:Int} (h1:0<=n) (h2:n < 18446744073709551616):IntKind.wrap .u64 n=n:=by
 rw [IntKind.wrap_u64]; omega
theorem le_get {w:World} {A:Option Addr} {n:Nat} {l:List UInt8} (h:Sl w 1 A n (l.map bv)) {i:Nat} (hi:i < n) (hl:i < l.length):∃ b o,A=some ⟨b,o,none⟩/\cellAt w b (o+i * 1)=some (.int .u8 (l[i].toNat:Int)) :=
 h.get hi (v:=bv l[i]) (by rw [List.getElem?_map,List.getElem?_eq_getElem hl]; rfl)
theorem sl_len {w:World} {A:Option Addr} {n:Nat} {l:List UInt8} (h:Sl w 1 A n (l.map bv)):l.length=n:=by simpa using h.1
abbrev RB (w0 w:World) (A:Option Addr) (n c:Nat) (l:List UInt8):Prop:=Fr (fun _=>False) w0 w/\Row w w0.heap.size 5 1 A n c (l.map bv)
theorem RB.nil (w:World):RB w w none 0 0 []:=⟨Fr.refl _ _,Row.nil _ _ _ _⟩
theorem RB.len {w0 w:World} {A:Option Addr} {n c:Nat} {l:List UInt8} (h:RB w0 w A n c l):l.length=n:=by have:=h.2.len; simpa using this
theorem RB.sl {w0 w:World} {A:Option Addr} {n c:Nat} {l:List UInt8} (h:RB w0 w A n c l):Sl w 1 A n (l.map bv):=h.2.sl
theorem RB.fr {w0 w w':World} {A:Option Addr} {n c:Nat} {l:List UInt8} (h:RB w0 w A n c l) (f:Fr (fun _=>False) w w'):RB w0 w' A n c l:=⟨h.1.trans1 f,f.row h.2 (fun _ _ h=>h)⟩
theorem RB.le {w0 w w1:World} {A:Option Addr} {n c:Nat} {l:List UInt8} (h:RB w w1 A n c l) (f:Fr (fun _=>False) w0 w):RB w0 w1 A n c l:=by
 refine ⟨f.trans1 h.1,h.2.len,h.2.le,h.2.at_.elim .inl (fun ⟨b,cs,h1,h2,h3⟩=>.inr ⟨b,cs,h1,?_,h3⟩)⟩
 have:=f.size; omega
theorem appB_mk {w0 w:World} {A A2:Option Addr} {n c m c2:Nat} {l l2:List UInt8} {K:Option Addr->Nat->Nat->World->Prop} (h:RB w0 w A n c l) (hx:Sl w 1 A2 m (l2.map bv)) (hm:n+m<=1099511627776)
  (hK:∀ A' c' w',RB w0 w' A' (n+m) c' (l ++ l2)->K A' (n+m) c' w'):app w 1 1 [Value.int .u8 0] 5 A n c (.slice A2 m c2) K:=by
 refine app_row h.2 hx.src (bvs_one l2) rfl (by show (n+m) * 1<=_; omega) (by omega) h.1.size (fun A' c' w' hr f=>hK A' c' w' ⟨h.1.trans f (fun _ _ h=>h) (fun k hk hb=>by have:=(h.2.blt hb).1; omega),?_⟩)
 rw [List.map_append]; exact hr
theorem RB.alloc {w0 w:World} {A:Option Addr} {n c:Nat} {l:List UInt8} (h:RB w0 w A n c l) (o:Obj):RB w0 (w.alloc o) A n c l:=h.fr (Fr.alloc _ _ _)
theorem push_mk {w0 w:World} {A:Option Addr} {n c:Nat} {l:List UInt8} {x:UInt8} {K:Option Addr->Nat->Nat->World->Prop} (h:RB w0 w A n c l) (hm:n < 1099511627776)
  (hK:∀ A' c' w',RB w0 w' A' (n+1) c' (l ++ [x])->K A' (n+1) c' w'):nw w ([bv x] ++ []) 5 fun b w1=>app w1 1 1 [Value.int .u8 0] 5 A n c (.slice (some ⟨b,0,none⟩) 1 1) K:=by
 refine nw_mk (appB_mk (l2:=[x]) (h.alloc _) ?_ (by omega) hK)
 exact (Row.new (sz:=1) (n:=1) (B:=0) (Nat.zero_le _) rfl).sl
theorem leB_take (n:Nat):∀ k,leB n (k+1)=leB n k ++ [UInt8.ofNat (n / 256 ^ k % 256)]:=fun k=>leB_snoc k n
theorem bv_nat {n:Nat} (h:n < 256):Value.int .u8 (n:Int)=bv (UInt8.ofNat n):=by unfold bv; rw [u8n' h]
def cv (x:BitVec 32):Value:=.int .u32 (x.toNat:Int)
theorem u32_id {n:Int} (h1:0<=n) (h2:n < 4294967296):IntKind.wrap .u32 n=n:=by
 rw [IntKind.wrap_u32]; omega
theorem cofInt (x:BitVec 32):BitVec.ofInt 32 (x.toNat:Int)=x:=by
 apply BitVec.eq_of_toNat_eq
 have:=x.isLt
 simp
theorem c_xor (a b:BitVec 32):iXor .u32 (a.toNat:Int) (b.toNat:Int)=((a ^^^ b).toNat:Int):=by
 unfold iXor
 show IntKind.wrap .u32 (((BitVec.ofInt 32 (a.toNat:Int) ^^^ BitVec.ofInt 32 (b.toNat:Int)).toNat:Nat):Int)=_
 rw [cofInt,cofInt]
 have:=(a ^^^ b).isLt
 exact u32_id (by omega) (by omega)
theorem c_not (a:BitVec 32):iXor .u32 4294967295 (a.toNat:Int)=((~~~a).toNat:Int):=by
 have h:=c_xor (BitVec.allOnes 32) a
 rw [BitVec.allOnes_xor] at h
 exact h
theorem c_shr (a:BitVec 32) (k:Nat):Int.fdiv (a.toNat:Int) (2 ^ k)=((a >>> k).toNat:Int):=by
 rw [BitVec.toNat_ushiftRight,Nat.shiftRight_eq_div_pow,Int.fdiv_eq_ediv_of_nonneg _ (by exact_mod_cast Nat.zero_le (2 ^ k))]
 push_cast
 rfl
theorem c_low (a:BitVec 32):(iAnd .u32 (a.toNat:Int) 1 == 1)=a.getLsbD 0:=by
 unfold iAnd
 show (IntKind.wrap .u32 (((BitVec.ofInt 32 (a.toNat:Int) &&& BitVec.ofInt 32 1).toNat:Nat):Int) == 1)=_
 have e:BitVec.ofInt 32 1=1#32:=rfl
 rw [cofInt,e]
 have h:(a &&& 1#32).toNat=a.toNat % 2:=by
  rw [BitVec.toNat_and]
  exact Nat.and_one_is_mod _
 rw [h,u32_id (by omega) (by omega),BitVec.getLsbD,Nat.testBit_zero]
 by_cases h2:a.toNat % 2=1
 ·rw [h2]; rfl
 ·have h3:a.toNat % 2=0:=by omega
  rw [h3]; rfl
theorem and15:∀ v:Fin 256,iAnd .u8 (v.val:Int) 15=((v.val % 16:Nat):Int):=by decide +kernel
theorem and15n {v:Nat} (h:v < 256):iAnd .u8 (v:Int) 15=((v % 16:Nat):Int):=and15 ⟨v,h⟩
theorem xor16:∀ a b:Fin 16,iXor .u8 (a.val:Int) (b.val:Int)=((a.val ^^^ b.val:Nat):Int):=by decide +kernel
theorem xor16n {a b:Nat} (ha:a < 16) (hb:b < 16):iXor .u8 (a:Int) (b:Int)=((a ^^^ b:Nat):Int):=xor16 ⟨a,ha⟩ ⟨b,hb⟩
theorem u8_of (x:BitVec 32):IntKind.wrap .u8 (x.toNat:Int)=((x.toNat % 256:Nat):Int):=by rw [IntKind.wrap_u8]; omega
theorem idx_nat (x:BitVec 32) (m:Nat) (hm:m < 16):((x ^^^ BitVec.ofNat 32 m) &&& 15#32).toNat=(x.toNat % 16) ^^^ m:=by
 rw [BitVec.toNat_and,BitVec.toNat_xor,BitVec.toNat_ofNat,Nat.mod_eq_of_lt (show m < 2 ^ 32 by omega)]
 have:(15#32).toNat=2 ^ 4 - 1:=rfl
 rw [this,Nat.and_two_pow_sub_one_eq_mod,Nat.xor_mod_two_pow]
 rw [show 2 ^ 4=16 from rfl,Nat.mod_eq_of_lt hm]
theorem idx_lo (x:BitVec 32) (c:UInt8):iXor .u8 (iAnd .u8 (IntKind.wrap .u8 (x.toNat:Int)) 15) (iAnd .u8 (c.toNat:Int) 15)=(((x ^^^ BitVec.ofNat 32 (c.toNat % 16)) &&& 15#32).toNat:Int):=by
 have hc:c.toNat < 256:=c.toNat_lt
 rw [u8_of,and15n (Nat.mod_lt _ (by omega)),and15n hc,xor16n (by omega) (by omega),idx_nat x _ (by omega),show x.toNat % 256 % 16=x.toNat % 16 by omega]
theorem idx_hi (x:BitVec 32) (c:UInt8):iXor .u8 (iAnd .u8 (IntKind.wrap .u8 (x.toNat:Int)) 15) (Int.fdiv (c.toNat:Int) (2 ^ 4))=(((x ^^^ BitVec.ofNat 32 (c.toNat / 16)) &&& 15#32).toNat:Int):=by
 have hc:c.toNat < 256:=c.toNat_lt
 have e:Int.fdiv (c.toNat:Int) (2 ^ 4)=((c.toNat / 16:Nat):Int):=by
  rw [Int.fdiv_eq_ediv_of_nonneg _ (by decide)]; rfl
 rw [u8_of,and15n (Nat.mod_lt _ (by omega)),e,xor16n (by omega) (by omega),idx_nat x _ (by omega),show x.toNat % 256 % 16=x.toNat % 16 by omega]
theorem idx_lt (y:BitVec 32):(y &&& 15#32).toNat < 16:=by
 rw [BitVec.toNat_and]
 have:y.toNat &&& (15#32).toNat<=(15#32).toNat:=Nat.and_le_right
 have e:(15#32).toNat=15:=rfl
 omega
def tabN (i:Nat):List Value:=(List.range 16).map fun j=>if j < i then cv (crF4 (BitVec.ofNat 32 j)) else .int .u32 0
theorem tabN_len (i:Nat):(tabN i).length=16:=by simp [tabN]
theorem tabN_get (i j:Nat) (hj:j < 16):(tabN i)[j]?=some (if j < i then cv (crF4 (BitVec.ofNat 32 j)) else .int .u32 0):=by
 unfold tabN
 rw [List.getElem?_map,List.getElem?_range hj]; rfl
theorem tabN_one (i:Nat):∀ v ∈ tabN i,v.oneCell'=true:=by
 intro v hv
 obtain ⟨j,_,rfl⟩:=List.mem_map.1 hv
 show Value.oneCell' (if j < i then cv (crF4 (BitVec.ofNat 32 j)) else .int .u32 0)=true
 split <;> rfl
theorem tabN_zero:tabN 0=Z226:=rfl
theorem tabN_next (i:Nat) (hi:i < 16):splice (tabN i) i [cv (crF4 (BitVec.ofNat 32 i))]=tabN (i+1):=by
 apply List.ext_getElem?
 intro j
 rw [splice_get (by rw [tabN_len]; show i+1<=16; omega)]
 by_cases h1:j < i
 ·rw [if_pos h1,tabN_get _ _ (by omega),tabN_get _ _ (by omega),if_pos h1,if_pos (by omega)]
 ·rw [if_neg h1]
  by_cases h2:j=i
  ·subst h2
   rw [if_pos (by show j < j+1; omega),tabN_get _ _ (by omega),if_pos (by omega),Nat.sub_self]; rfl
  ·rw [if_neg (by show ¬ j < i+1; omega)]
   by_cases h3:j < 16
   ·rw [tabN_get _ _ h3,tabN_get _ _ h3,if_neg h1,if_neg (by omega)]
   ·rw [List.getElem?_eq_none (by rw [tabN_len]; omega),List.getElem?_eq_none (by rw [tabN_len]; omega)]
set_option maxHeartbeats 1000000 in
theorem nibbles_calls (w:World):Calls Tryz.prog 165 #[] w fun e w'=>e=.returned (ofL (tabN 16))/\Fr (fun _=>False) w w':=by
 refine (F165.of w (Q:=fun v w'=>v=ofL (tabN 16)/\Fr (fun _=>False) w w') ?_).mono (fun e w' ⟨v,he,hv,h⟩=>⟨by rw [he,hv],h⟩)
 refine nw_mk (nw_mk ?_)
 have r1:=RecAt.new w Z226 226
 have f1:Fr (fun _=>False) w (w.alloc (.cells Z226.toArray 226)):=Fr.alloc _ _ _
 have s1:=f1.size
 have e1:(w.alloc (.cells Z226.toArray 226)).heap.size=w.heap.size+1:=alloc_size _ _
 generalize hw1:w.alloc (.cells Z226.toArray 226)=w1 at r1 f1 s1 e1 ⊢
 have r2:=RecAt.new w1 Z226 226
 have f2:Fr (fun _=>False) w1 (w1.alloc (.cells Z226.toArray 226)):=Fr.alloc _ _ _
 have r1:=r1.fr f2 (fun h=>h)
 have f12:=f1.trans1 f2
 generalize hw2:w1.alloc (.cells Z226.toArray 226)=w2 at r1 r2 f2 f12 ⊢
 rw [<- tabN_zero] at r2
 refine jnC_mk (loop_rule (fun s u=>∃ i:Nat,i<=16/\s=((w.heap.size,0),(w1.heap.size,0),(i:Int),())/\Fr (fun _=>False) w u/\RecAt u w.heap.size 226 Z226/\RecAt u w1.heap.size 226 (tabN i)) (fun s _=>(16 - s.2.2.1).toNat) ?_ _ _ ⟨0,by omega,rfl,f12,r1,r2⟩)
 rintro s u C ⟨i,hi,rfl,hf,q1,q2⟩ hC _
 refine vIf_mk (fun hlt=>?_) (fun hge=>?_)
 ·have hlt:(i:Int) < 16:=of_decide_eq_true hlt
  have ei:IntKind.wrap .u32 (i:Int)=(((BitVec.ofNat 32 i).toNat:Nat):Int):=by
   rw [u32_id (by omega) (by omega),BitVec.toNat_ofNat,Nat.mod_eq_of_lt (by omega)]
  refine jnC_mk (loop_rule (fun s v=>v=u/\∃ k:Nat,k<=4/\s=((w.heap.size,0),(w1.heap.size,0),(i:Int),(((Nat.repeat crF k (BitVec.ofNat 32 i)).toNat:Nat):Int),(i:Int),(k:Int),())) (fun s _=>(4 - s.2.2.2.2.2.1).toNat) ?_ _ _ ⟨rfl,0,by omega,?_⟩)
  ·rintro s v C' ⟨rfl,k,hk,rfl⟩ hC' _
   refine vIf_mk (fun hk4=>?_) (fun hk4=>?_)
   ·have hk4:(k:Int) < 4:=of_decide_eq_true hk4
    generalize hx:Nat.repeat crF k (BitVec.ofNat 32 i)=x
    have hnext:Nat.repeat crF (k+1) (BitVec.ofNat 32 i)=crF x:=by rw [<- hx]; rfl
    have eP:(2197175160:Int)=(crP.toNat:Int):=rfl
    dsimp only
    rw [c_low,c_shr,eP,c_xor,le_e1 k (by omega)]
    refine vIf_mk (fun hb=>jnC_mk (hC' _ _ ⟨rfl,k+1,by omega,?_⟩ ?_)) (fun hb=>jnC_mk (hC' _ _ ⟨rfl,k+1,by omega,?_⟩ ?_))
    ·rw [hnext]; unfold crF; rw [if_pos hb]
    ·show (4 - ((k+1:Nat):Int)).toNat < (4 - (k:Int)).toNat
     omega
    ·rw [hnext]; unfold crF; rw [if_neg (by rw [hb]; decide),BitVec.xor_zero]
    ·show (4 - ((k+1:Nat):Int)).toNat < (4 - (k:Int)).toNat
     omega
   ·have hk4:¬ (k:Int) < 4:=of_decide_eq_false hk4
    obtain rfl:k=4:=by omega
    refine gd_mk (decide_eq_true (by show (0:Int)<=(i:Int); omega)) (gd_mk (decide_eq_true hlt) ?_)
    dsimp only
    rw [Int.toNat_natCast,show 0+i * 1=i by omega]
    have hv:Nat.repeat crF 4 (BitVec.ofNat 32 i)=crF4 (BitVec.ofNat 32 i):=rfl
    rw [hv]
    refine q2.st_mk (vs:=[cv (crF4 (BitVec.ofNat 32 i))]) (by rw [tabN_len]; show i+1<=16; omega) (fun v hv=>by simp at hv; subst hv; rfl) (fun q3 f3=>?_)
    rw [tabN_next i (by omega)] at q3
    rw [le_e1 i (by omega)]
    refine jnC_mk (hC _ _ ⟨i+1,by omega,rfl,hf.trans f3 (fun _ _ h=>h) (fun k hk h=>by omega),q1.fr f3 (fun h=>by omega),q3⟩ ?_)
    show (16 - ((i+1:Nat):Int)).toNat < (16 - (i:Int)).toNat
    omega
  ·rw [ei]; rfl
 ·have hge:¬ (i:Int) < 16:=of_decide_eq_false hge
  obtain rfl:i=16:=by omega
  refine ⟨tabN 16,rfl,q2.cells (o:=0) (fun j v hj=>by rw [Nat.zero_add]; exact hj),gd_mk rfl ?_⟩
  refine q1.st_mk (o:=0) (vs:=tabN 16) (by rw [tabN_len]; decide) (tabN_one 16) (fun q3 f3=>?_)
  rw [splice_full (by rw [tabN_len]; rfl)] at q3
  exact ⟨tabN 16,rfl,q3.cells (o:=0) (fun j v hj=>by rw [Nat.zero_add]; exact hj),rfl,hf.trans f3 (fun _ _ h=>h) (fun k hk h=>by omega)⟩
set_option maxHeartbeats 1000000 in
theorem crc_calls (A:Option Addr) (n c:Nat) (b:List UInt8) (w:World) (h:Sl w 1 A n (b.map bv)) (hn:n<=1099511627776) :
  Calls Tryz.prog 129 #[.slice A n c] w fun e w'=>e=.returned (.int .u32 ((crcS b).toNat:Int))/\Fr (fun _=>False) w w':=by
 have hl:=sl_len h
 refine (F129.of A n c w (Q:=fun v w'=>v=.int .u32 ((crcS b).toNat:Int)/\Fr (fun _=>False) w w') ?_).mono (fun e w' ⟨v,he,hv,h⟩=>⟨by rw [he,hv],h⟩)
 have more:Calls Tryz.prog 150 #[.int .u32 0,.slice A n c] w fun e w'=>e=.returned (.int .u32 ((crcS b).toNat:Int))/\Fr (fun _=>False) w w':=by
  refine (F150.of 0 A n c w (Q:=fun v w'=>v=.int .u32 ((crcS b).toNat:Int)/\Fr (fun _=>False) w w') ?_).mono (fun e w' ⟨v,he,hv,h⟩=>⟨by rw [he,hv],h⟩)
  refine (nibbles_calls w).mono ?_
  rintro e w1 ⟨rfl,f1⟩
  refine ⟨_,rfl,nw_mk (gd_mk (by rw [tabN_len]; rfl) ?_)⟩
  have r1:=RecAt.new w1 Z226 226
  have f2:Fr (fun _=>False) w1 (w1.alloc (.cells Z226.toArray 226)):=Fr.alloc _ _ _
  generalize hw2:w1.alloc (.cells Z226.toArray 226)=w2 at r1 f2 ⊢
  refine r1.st_mk (o:=0) (vs:=tabN 16) (by rw [tabN_len]; decide) (tabN_one 16) (fun r2 f3=>?_)
  rw [splice_full (by rw [tabN_len]; rfl)] at r2
  have f:=(f1.trans1 f2).trans f3 (U:=fun _=>False) (fun _ _ h=>h) (fun k hk h=>by have:=f1.size; omega)
  generalize stB w2 w1.heap.size 0 (tabN 16)=w3 at r2 f ⊢
  have hb:=f.sl h (fun _ _ _ h=>h)
  refine jnC_mk (loop_rule (fun s u=>u=w3/\∃ i:Nat,i<=n/\s=((w1.heap.size,0),((((b.take i).foldl byteS (~~~ 0#32)).toNat:Nat):Int),(A,n,c),(n:Int),(i:Int),())) (fun s _=>(n - s.2.2.2.2.1).toNat) ?_ _ _ ⟨rfl,0,by omega,?_⟩)
  ·rintro s u C ⟨rfl,i,hi,rfl⟩ hC _
   have tb:∀ (y:BitVec 32) (K:Int->Prop),K ((crF4 (y &&& 15#32)).toNat:Int)->gd (decide (0<=(((y &&& 15#32).toNat:Nat):Int))) (gd (decide ((((y &&& 15#32).toNat:Nat):Int) < 16)) (ldI .u32 u w1.heap.size (0+(((y &&& 15#32).toNat:Nat):Int).toNat * 1) K)):=by
    intro y K hK
    have hy:=idx_lt y
    refine gd_mk (decide_eq_true (by omega)) (gd_mk (decide_eq_true (by omega)) ⟨_,?_,hK⟩)
    rw [Int.toNat_natCast,show 0+(y &&& 15#32).toNat * 1=(y &&& 15#32).toNat by omega]
    refine r2.cell ?_
    rw [tabN_get _ _ hy,if_pos hy,BitVec.ofNat_toNat,BitVec.setWidth_eq]; rfl
   refine vIf_mk (fun hlt=>?_) (fun hge=>⟨?_,f⟩)
   ·have hlt:(i:Int) < (n:Int):=of_decide_eq_true hlt
    obtain ⟨b',o',hA,hcl⟩:=le_get hb (i:=i) (by omega) (by omega)
    have hnext:b.take (i+1)=b.take i ++ [b[i]]:=by rw [List.take_add_one,List.getElem?_eq_getElem (by omega)]; rfl
    generalize hx:b[i]=x at hcl hnext
    generalize hq:(b.take i).foldl byteS (~~~ 0#32)=q
    have hq':(b.take (i+1)).foldl byteS (~~~ 0#32)=byteS q x:=by rw [hnext,List.foldl_append,hq]; rfl
    rw [hA]
    refine dr_mk (gd_mk (decide_eq_true (by show (0:Int)<=(i:Int); omega)) (gd_mk (decide_eq_true hlt) ⟨_,hcl,?_⟩))
    dsimp only
    rw [idx_lo]
    refine tb _ _ ?_
    rw [c_shr,c_xor]
    rw [idx_hi]
    refine tb _ _ ?_
    rw [c_shr,c_xor,le_e1 i (by omega),<- hA]
    refine jnC_mk (hC _ _ ⟨rfl,i+1,by omega,?_⟩ ?_)
    ·rw [hq']; rfl
    ·show ((n:Int) - ((i+1:Nat):Int)).toNat < ((n:Int) - (i:Int)).toNat
     omega
   ·have hge:¬ (i:Int) < (n:Int):=of_decide_eq_false hge
    obtain rfl:i=n:=by omega
    dsimp only
    rw [c_not,List.take_of_length_le (by omega)]; rfl
  ·rfl
 refine more.mono ?_
 rintro e u ⟨rfl,f⟩
 exact ⟨_,rfl,rfl,f⟩
end Go.Proofs.YtadbakmblklncaaGreatDoor
namespace Go.Proofs.YtadbakmblklncaaGreatDoor
open Go.GV
def kF (b:List UInt8):Nat:=leT (b.take 1)
structure Frm where
 e:Int
 k:Nat
 sq:Nat
 d:List UInt8
 z:Int
def hdF (k sq n:Nat):List UInt8:=[UInt8.ofNat (k % 256)] ++ leB sq 8 ++ leB n 4
def bdF (k sq:Nat) (d:List UInt8):List UInt8:=hdF k sq d.length ++ leB (crcS (hdF k sq d.length)).toNat 4 ++ d
def mkF (k sq:Nat) (d:List UInt8):List UInt8:=bdF k sq d ++ leB (crcS (bdF k sq d)).toNat 4
theorem mkF_len (k sq:Nat) (d:List UInt8):(mkF k sq d).length=21+d.length:=by
 unfold mkF bdF hdF
 simp only [List.length_append,leB_len,List.length_cons,List.length_nil]
 omega
end Go.Proofs.YtadbakmblklncaaGreatDoor
namespace Go.Proofs.YtadbakmblklncaaGreatDoor
open Go.GV Go.RowKit Go.Lib
theorem ansN_mk {w:World} {b:Nat} {e:TypeId} {old cs:List Value} {N:Nat} (r:RecAt w b e old) (ho:old.length=N) (hc:cs.length=N) (h1:∀ v ∈ cs,v.oneCell'=true) {K:List Value->World->Prop} (hK:∀ w',Fr (fun k=>k=b) w w'->K cs w') :
  gd (cs.length == N) (st w b 0 cs fun w1=>ldA N w1 b 0 fun a=>K a w1):=by
 refine gd_mk (by rw [hc]; simp) (r.st_mk (o:=0) (by rw [hc,ho]; omega) h1 (fun r1 f1=>?_))
 rw [splice_full (by rw [hc,ho])] at r1
 exact ⟨cs,hc,rec_all r1,hK _ f1⟩
theorem fr_var {w0 w w':World} {b:Nat} (f:Fr (fun _=>False) w0 w) (hb:w0.heap.size<=b) (g:Fr (fun k=>k=b) w w'):Fr (fun _=>False) w0 w':=f.trans g (fun _ _ h=>h) (fun k hk h=>by omega)
theorem ndec_t {p:Prop} [Decidable p] (h:(!decide p)=true):¬ p:=by simpa using h
theorem ndec_f {p:Prop} [Decidable p] (h:(!decide p)=false):p:=by simpa using h
abbrev plainI (c:Int):Prop:=(97<=c/\c<=122)\/(48<=c/\c<=57)
abbrev extraI (c:Int):Prop:=c=46\/c=95\/c=45
theorem plain_calls (c:Int) (w:World):Calls Tryz.prog 90 #[.int .u8 c] w fun e w'=>e=.returned (.bool (decide (plainI c)))/\w'=w:=by
 refine (F90.of c w (Q:=fun v w'=>v=.bool (decide (plainI c))/\w'=w) ?_).mono (fun e w' ⟨v,he,hv,h⟩=>⟨by rw [he,hv],h⟩)
 refine vIf_mk (fun h1=>vIf_mk (fun h2=>⟨?_,rfl⟩) (fun h2=>vIf_mk (fun h3=>⟨?_,rfl⟩) (fun h3=>⟨?_,rfl⟩))) (fun h1=>vIf_mk (fun h3=>⟨?_,rfl⟩) (fun h3=>⟨?_,rfl⟩))
 ·have h1:=of_decide_eq_true h1; have h2:=of_decide_eq_true h2
  rw [decide_eq_true (p:=plainI c) (.inl ⟨h1,h2⟩)]
 ·have h1:=of_decide_eq_true h1; have h2:=of_decide_eq_false h2
  have h3:=of_decide_eq_true h3
  congr 1
  exact decide_eq_decide.2 ⟨fun h=>.inr ⟨h3,h⟩,fun h=>h.elim (fun h=>absurd h.2 h2) (fun h=>h.2)⟩
 ·have h1:=of_decide_eq_true h1; have h2:=of_decide_eq_false h2
  have h3:=of_decide_eq_false h3
  exact absurd (show c >= 48 by omega) h3
 ·have h1:=of_decide_eq_false h1
  have h3:=of_decide_eq_true h3
  congr 1
  exact decide_eq_decide.2 ⟨fun h=>.inr ⟨h3,h⟩,fun h=>h.elim (fun h=>absurd h.1 h1) (fun h=>h.2)⟩
 ·have h1:=of_decide_eq_false h1
  have h3:=of_decide_eq_false h3
  rw [decide_eq_false (p:=plainI c) (fun h=>h.elim (fun h=>h1 h.1) (fun h=>h3 h.1))]
def tagOk (s:ByteArray) (i:Nat):Prop:=plainI (byteAt s i)\/(i ≠ 0/\extraI (byteAt s i))
def TagP (s:ByteArray):Prop:=(∀ i,i < s.size->tagOk s i)/\1<=s.size/\s.size<=32
theorem tag_calls (s:ByteArray) (w:World) (hs:s.size<=1099511627775) :
  Calls Tryz.prog 57 #[.string s] w fun e w'=>(∃ t,e=.returned (.bool t)/\(t=true ↔ TagP s))/\w'=w:=by
 refine (F57.of s w (Q:=fun v w'=>(∃ t,v=.bool t/\(t=true ↔ TagP s))/\w'=w) ?_).mono (fun e w' ⟨v,he,⟨t,hv,h⟩,h'⟩=>⟨⟨t,by rw [he,hv],h⟩,h'⟩)
 have no:∀ u:World,u=w->¬ TagP s->(∃ t,Value.bool false=.bool t/\(t=true ↔ TagP s))/\u=w:=fun u hu h=>⟨⟨false,rfl,⟨(fun h=>by cases h),fun h'=>absurd h' h⟩⟩,hu⟩
 refine vIf_mk (fun h0=>no w rfl ?_) (fun h0=>vIf_mk (fun h32=>no w rfl ?_) (fun h32=>?_))
 ·rw [nil_iff] at h0
  have:=of_decide_eq_true h0
  intro h
  have:=h.2.1
  omega
 ·have h32:=of_decide_eq_true h32
  intro h
  have:=h.2.2
  omega
 ·rw [nil_iff] at h0
  have h0:=of_decide_eq_false h0
  have h32:=of_decide_eq_false h32
  refine gd_mk (decide_eq_true (by omega)) ((plain_calls _ w).mono ?_)
  rintro e u ⟨rfl,rfl⟩
  refine ⟨_,rfl,vIf_mk (fun hp=>no u rfl ?_) (fun hp=>jnC_mk (fun _=>jnC_mk ?_))⟩
  ·have hp:¬ plainI (byteAt s 0):=ndec_t hp
   intro h
   rcases h.1 0 (by omega) with h' | h'
   ·exact hp h'
   ·exact h'.1 rfl
  ·have hp:plainI (byteAt s 0):=ndec_f hp
   refine loop_rule (fun p v=>v=u/\∃ i:Nat,i<=s.size/\p=(s,(s.size:Int),(i:Int),())/\∀ j,j < i->tagOk s j) (fun p _=>(s.size - p.2.2.1).toNat) ?_ _ _ ⟨rfl,0,by omega,rfl,fun j hj=>by omega⟩
   rintro p v C ⟨rfl,i,hi,rfl,hall⟩ hC _
   refine vIf_mk (fun hlt=>?_) (fun hge=>?_)
   ·have hlt2:(i:Int) < (s.size:Int):=of_decide_eq_true hlt
    refine gd_mk (decide_eq_true (by show (0:Int)<=(i:Int); omega)) (gd_mk hlt ((plain_calls _ v).mono ?_))
    rintro e v2 ⟨rfl,rfl⟩
    have next:tagOk s i->jnC C (s,(s.size:Int),IntKind.wrap .i64 ((i:Int)+1),()) v2:=fun hok=>by
     refine jnC_mk (hC _ _ ⟨rfl,i+1,by omega,by rw [ei i (by omega)],fun j hj=>?_⟩ ?_)
     ·by_cases hji:j=i
      ·subst hji; exact hok
      ·exact hall j (by omega)
     ·show ((s.size:Int) - IntKind.wrap .i64 ((i:Int)+1)).toNat < ((s.size:Int) - (i:Int)).toNat
      rw [ei i (by omega)]; omega
    refine ⟨_,rfl,vIf_mk (fun hn=>?_) (fun hy=>next (.inl (ndec_f hy)))⟩
    have hn:¬ plainI (byteAt s i):=ndec_t hn
    have hi0:i ≠ 0:=fun h=>by subst h; exact hn hp
    refine vIf_mk (fun h1=>vIf_mk (fun h2=>vIf_mk (fun h3=>no v2 rfl ?_) (fun h3=>next (.inr ⟨hi0,.inr (.inr (by simpa using h3))⟩))) (fun h2=>next (.inr ⟨hi0,.inr (.inl (by simpa using h2))⟩))) (fun h1=>next (.inr ⟨hi0,.inl (by simpa using h1)⟩))
    have h1:byteAt s i ≠ 46:=by simpa using h1
    have h2:byteAt s i ≠ 95:=by simpa using h2
    have h3:byteAt s i ≠ 45:=by simpa using h3
    intro h
    rcases h.1 i (by omega) with h' | ⟨_,h' | h' | h'⟩
    ·exact hn h'
    ·exact h1 h'
    ·exact h2 h'
    ·exact h3 h'
   ·have hge2:¬ (i:Int) < (s.size:Int):=of_decide_eq_false hge
    exact ⟨⟨true,rfl,⟨fun _=>⟨fun j hj=>hall j (by omega),by omega,by omega⟩,fun _=>rfl⟩⟩,rfl⟩
instance (s:ByteArray):Decidable (TagP s):=by
 unfold TagP tagOk
 infer_instance
end Go.Proofs.YtadbakmblklncaaGreatDoor
namespace Go.Proofs.YtadbakmblklncaaGreatDoor
open Go.GV
structure Rc where
 k:Int
 sq:Nat
 d:List UInt8
 nm:List UInt8
 dat:List UInt8
 n:Int
 z:Int
def z32:List UInt8:=List.replicate 32 0
def stil:List UInt8:=[115,116,105,108,108,97,103,101]
def rgR (x:Rc):Int :=
 if x.k < 1\/x.k > 8 then 2
 else if x.k<=2/\x.dat.length > 65504 then 18
 else if (x.k=3\/x.k=4)/\¬ TagP ⟨x.nm.toArray⟩ then 12
 else if (x.k=6\/x.k=8)/\(x.n < 0\/x.n > 4294967295\/x.z < 0\/x.z > 4294967295) then 20
 else if x.k=7/\(x.n < 1\/x.n > 99999999) then 20
 else 0
theorem z32_len:z32.length=32:=by simp [z32]
def rcC (x:Rc) (A:Option Addr) (n c:Nat):List Value:=[.int .i64 x.k,.int .u64 (x.sq:Nat)] ++ (x.d.map bv ++ [.string ⟨x.nm.toArray⟩,.slice A n c,.int .i64 x.n,.int .i64 x.z])
theorem rcC_len {x:Rc} (h:x.d.length=32) (A:Option Addr) (n c:Nat):(rcC x A n c).length=38:=by
 simp [rcC,h]
theorem rcC_one (x:Rc) (A:Option Addr) (n c:Nat):∀ v ∈ rcC x A n c,v.oneCell'=true:=by
 intro v hv
 unfold rcC at hv
 rcases List.mem_append.1 hv with h | h
 ·simp only [List.mem_cons,List.not_mem_nil,or_false] at h
  rcases h with rfl | rfl <;> rfl
 ·rcases List.mem_append.1 h with h | h
  ·exact bvs_one _ v h
  ·simp only [List.mem_cons,List.not_mem_nil,or_false] at h
   rcases h with rfl | rfl | rfl | rfl <;> rfl
theorem rcC_end {x:Rc} (h:x.d.length=32) (A:Option Addr) (n c j:Nat):(rcC x A n c)[34+j]?=([Value.string ⟨x.nm.toArray⟩,.slice A n c,.int .i64 x.n,.int .i64 x.z]:List Value)[j]?:=by
 unfold rcC
 rw [List.getElem?_append_right (show 2<=34+j by omega),List.getElem?_append_right (by simp [h]; omega)]
 congr 1
 simp [h]; omega
theorem rcC_d {x:Rc} (h:x.d.length=32) (A:Option Addr) (n c j:Nat) (v:Value) (hv:(x.d.map bv)[j]?=some v):(rcC x A n c)[2+j]?=some v:=by
 have hj:=(List.getElem?_eq_some_iff.1 hv).1
 unfold rcC
 rw [List.getElem?_append_right (by simp),List.getElem?_append_left (by simpa using hj)]
 rw [<- hv]; congr 1; simp
theorem splice_app {a b c vs:List Value} {o:Nat} (ha:a.length=o) (hb:vs.length=b.length):splice (a ++ (b ++ c)) o vs=a ++ (vs ++ c):=by
 unfold splice
 subst ha
 rw [List.take_left,<- List.drop_drop,List.drop_left,hb,List.drop_left,List.append_assoc]
theorem rcC_sta {x:Rc} (h:x.d.length=32) (A:Option Addr) (n c:Nat) (A':Option Addr) (n' c':Nat):splice (rcC x A n c) 35 [.slice A' n' c']=rcC x A' n' c':=by
 have e:rcC x A n c=([.int .i64 x.k,.int .u64 (x.sq:Nat)] ++ x.d.map bv ++ [.string ⟨x.nm.toArray⟩]) ++ ([.slice A n c] ++ [.int .i64 x.n,.int .i64 x.z]):=by unfold rcC; simp
 rw [e,splice_app (by simp [h]) (by simp)]
 unfold rcC; simp
end Go.Proofs.YtadbakmblklncaaGreatDoor
namespace Go.Proofs.YtadbakmblklncaaGreatDoor
open Go.GV Go.RowKit Go.Lib
theorem cp_mk {w:World} {b1 b3:Nat} {e e':TypeId} {cs old:List Value} {N:Nat} (r1:RecAt w b1 e cs) (hc:cs.length=N) (r3:RecAt w b3 e' old) (ho:old.length=N) (h1:∀ v ∈ cs,v.oneCell'=true) {K:List Value->World->Prop} (hK:∀ w',Fr (fun k=>k=b3) w w'->K cs w') :
  ldA N w b1 0 fun a=>gd (a.length == N) (st w b3 0 a fun w1=>ldA N w1 b3 0 fun a'=>K a' w1) :=
 ⟨cs,hc,rec_all r1,ansN_mk r3 ho hc h1 hK⟩
theorem rc_name {x:Rc} (h:x.d.length=32) (A:Option Addr) (n c:Nat):(rcC x A n c)[34]?=some (.string ⟨x.nm.toArray⟩):=rcC_end h A n c 0
theorem rc_data {x:Rc} (h:x.d.length=32) (A:Option Addr) (n c:Nat):(rcC x A n c)[35]?=some (.slice A n c):=rcC_end h A n c 1
theorem rc_n {x:Rc} (h:x.d.length=32) (A:Option Addr) (n c:Nat):(rcC x A n c)[36]?=some (.int .i64 x.n):=rcC_end h A n c 2
theorem rc_z {x:Rc} (h:x.d.length=32) (A:Option Addr) (n c:Nat):(rcC x A n c)[37]?=some (.int .i64 x.z):=rcC_end h A n c 3
set_option maxHeartbeats 2000000 in
theorem rgt_calls (x:Rc) (A:Option Addr) (n c:Nat) (w:World) (hd:x.d.length=32) (hn:n=x.dat.length) (hm:x.nm.length<=1099511627775) :
  Calls Tryz.prog 35 #[ofL (rcC x A n c)] w fun e w'=>e=.returned (.int .i64 (rgR x))/\Fr (fun _=>False) w w':=by
 refine (F35.of _ w (Q:=fun v w'=>v=.int .i64 (rgR x)/\Fr (fun _=>False) w w') ?_).mono (fun e w' ⟨v,he,hv,h⟩=>⟨by rw [he,hv],h⟩)
 refine rec_new (fun b1 w2 f1 hb1 r1=>⟨_,r1.cell (o:=0) (v:=.int .i64 x.k) rfl,?_⟩)
 have ans:∀ e:Int,rgR x=e->Value.int .i64 e=.int .i64 (rgR x)/\Fr (fun _=>False) w w2:=fun e he=>⟨by rw [he],f1⟩
 have c36:=r1.cell (o:=36) (rc_n hd A n c)
 have c37:=r1.cell (o:=37) (rc_z hd A n c)
 have k14:∀ t:Bool,t=decide (x.k=6\/x.k=8)->¬ (x.k=1\/x.k=2)->¬ (x.k=3\/x.k=4)->jnC (F35.k14 (fun v w'=>v=.int .i64 (rgR x)/\Fr (fun _=>False) w w')) ((b1,0),4294967295,x.k,t,()) w2:=by
  rintro t rfl h12 h34
  have u1:¬ (x.k < 1\/x.k > 8)->rgR x=if (x.k=6\/x.k=8)/\(x.n < 0\/x.n > 4294967295\/x.z < 0\/x.z > 4294967295) then 20 else if x.k=7/\(x.n < 1\/x.n > 99999999) then 20 else 0:=fun h=>by
   unfold rgR
   rw [if_neg h,if_neg (by omega),if_neg (fun h=>h34 h.1)]
  refine jnC_mk (fun _=>vIf_mk (fun h68=>?_) (fun h68=>?_))
  ·have h68:=of_decide_eq_true h68
   have u1:=u1 (by omega)
   refine ⟨_,c36,vIf_mk (fun h1=>ans 20 ?_) (fun h1=>⟨_,c36,vIf_mk (fun h2=>ans 20 ?_) (fun h2=>⟨_,c37,vIf_mk (fun h3=>ans 20 ?_) (fun h3=>⟨_,c37,vIf_mk (fun h4=>ans 20 ?_) (fun h4=>ans 0 ?_)⟩)⟩)⟩)⟩
   ·have h1:x.n < 0:=of_decide_eq_true h1
    rw [u1,if_pos ⟨h68,.inl h1⟩]
   ·have h2:x.n > 4294967295:=of_decide_eq_true h2
    rw [u1,if_pos ⟨h68,.inr (.inl h2)⟩]
   ·have h3:x.z < 0:=of_decide_eq_true h3
    rw [u1,if_pos ⟨h68,.inr (.inr (.inl h3))⟩]
   ·have h4:x.z > 4294967295:=of_decide_eq_true h4
    rw [u1,if_pos ⟨h68,.inr (.inr (.inr h4))⟩]
   ·have h1:¬ x.n < 0:=of_decide_eq_false h1
    have h2:¬ x.n > 4294967295:=of_decide_eq_false h2
    have h3:¬ x.z < 0:=of_decide_eq_false h3
    have h4:¬ x.z > 4294967295:=of_decide_eq_false h4
    rw [u1,if_neg (fun h=>h.2.elim h1 (fun h=>h.elim h2 (fun h=>h.elim h3 h4))),if_neg (by omega)]
  ·have h68:=of_decide_eq_false h68
   refine vIf_mk (fun h7=>?_) (fun h7=>vIf_mk (fun h5=>ans 0 ?_) (fun h5=>ans 2 ?_))
   ·have h7:x.k=7:=by simpa using h7
    have u1:=u1 (by omega)
    rw [if_neg (fun h=>h68 h.1)] at u1
    refine ⟨_,c36,vIf_mk (fun h1=>ans 20 ?_) (fun h1=>⟨_,c36,vIf_mk (fun h2=>ans 20 ?_) (fun h2=>ans 0 ?_)⟩)⟩
    ·have h1:x.n < 1:=of_decide_eq_true h1
     rw [u1,if_pos ⟨h7,.inl h1⟩]
    ·have h2:x.n > 99999999:=of_decide_eq_true h2
     rw [u1,if_pos ⟨h7,.inr h2⟩]
    ·have h1:¬ x.n < 1:=of_decide_eq_false h1
     have h2:¬ x.n > 99999999:=of_decide_eq_false h2
     rw [u1,if_neg (fun h=>h.2.elim h1 h2)]
   ·have h5:x.k=5:=by simpa using h5
    rw [u1 (by omega),if_neg (fun h=>h68 h.1),if_neg (by omega)]
   ·have h5:¬ x.k=5:=by simpa using h5
    have h7:¬ x.k=7:=by simpa using h7
    unfold rgR
    rw [if_pos (by omega)]
 have k10:∀ t:Bool,t=decide (x.k=3\/x.k=4)->¬ (x.k=1\/x.k=2)->jnC (F35.k10 (fun v w'=>v=.int .i64 (rgR x)/\Fr (fun _=>False) w w')) ((b1,0),4294967295,x.k,t,()) w2:=by
  rintro t rfl h12
  refine jnC_mk (fun _=>vIf_mk (fun h34=>?_) (fun h34=>?_))
  ·have h34:=of_decide_eq_true h34
   refine ⟨_,r1.cell (o:=34) (rc_name hd A n c),(tag_calls _ w2 (by show (⟨x.nm.toArray⟩:ByteArray).size<=_; show x.nm.toArray.size<=_; rw [List.size_toArray]; omega)).mono ?_⟩
   rintro e u ⟨⟨t,rfl,ht⟩,rfl⟩
   refine ⟨t,rfl,vIf_mk (fun h=>ans 12 ?_) (fun h=>ans 0 ?_)⟩
   ·have hno:¬ TagP ⟨x.nm.toArray⟩:=fun hp=>by rw [ht.2 hp] at h; cases h
    unfold rgR
    rw [if_neg (by omega),if_neg (by omega),if_pos ⟨h34,hno⟩]
   ·have hyes:TagP ⟨x.nm.toArray⟩:=ht.1 (by cases t <;> simp_all)
    unfold rgR
    rw [if_neg (by omega),if_neg (by omega),if_neg (fun h=>h.2 hyes),if_neg (by omega),if_neg (by omega)]
  ·have h34:=of_decide_eq_false h34
   refine vIf_mk (fun h6=>k14 _ ?_ h12 h34) (fun h6=>k14 _ ?_ h12 h34)
   ·have h6':x.k=6:=by simpa using h6
    show (x.k == 6)=_
    rw [h6']; rfl
   ·have h6':¬ x.k=6:=by simpa using h6
    show (x.k == 8)=_
    by_cases h8:x.k=8
    ·rw [h8]; rfl
    ·rw [decide_eq_false (by omega),beq_eq_false_iff_ne]; exact h8
 have k6:∀ t:Bool,t=decide (x.k=1\/x.k=2)->jnC (F35.k6 (fun v w'=>v=.int .i64 (rgR x)/\Fr (fun _=>False) w w')) ((b1,0),4294967295,x.k,t,()) w2:=by
  rintro t rfl
  refine jnC_mk (fun _=>vIf_mk (fun h12=>?_) (fun h12=>?_))
  ·have h12:=of_decide_eq_true h12
   refine ⟨A,n,c,r1.cell (o:=35) (rc_data hd A n c),vIf_mk (fun h=>ans 18 ?_) (fun h=>ans 0 ?_)⟩
   ·have h:(n:Int) > 65504:=of_decide_eq_true h
    unfold rgR
    rw [if_neg (by omega),if_pos ⟨by omega,by omega⟩]
   ·have h:¬ (n:Int) > 65504:=of_decide_eq_false h
    unfold rgR
    rw [if_neg (by omega),if_neg (by omega),if_neg (by omega),if_neg (by omega),if_neg (by omega)]
  ·have h12:=of_decide_eq_false h12
   refine vIf_mk (fun h3=>k10 _ ?_ h12) (fun h3=>k10 _ ?_ h12)
   ·have h3':x.k=3:=by simpa using h3
    show (x.k == 3)=_
    rw [h3']; rfl
   ·have h3':¬ x.k=3:=by simpa using h3
    show (x.k == 4)=_
    by_cases h4:x.k=4
    ·rw [h4]; rfl
    ·rw [decide_eq_false (by omega),beq_eq_false_iff_ne]; exact h4
 refine vIf_mk (fun h1=>k6 _ ?_) (fun h1=>k6 _ ?_)
 ·have h1':x.k=1:=by simpa using h1
  show (x.k == 1)=_
  rw [h1']; rfl
 ·have h1':¬ x.k=1:=by simpa using h1
  show (x.k == 2)=_
  by_cases h2:x.k=2
  ·rw [h2]; rfl
  ·rw [decide_eq_false (by omega),beq_eq_false_iff_ne]; exact h2
end Go.Proofs.YtadbakmblklncaaGreatDoor
namespace Go.Proofs.YtadbakmblklncaaGreatDoor
open Go.GV
structure Wo where
 k:Int
 sq:Nat
 d:List UInt8
 nm:List UInt8
 z:Int
 s:Int
 o:Int
 q:Int
def wdR (x:Rc) (s o q:Int):Wo :=
 if x.k=1\/x.k=2 then ⟨x.k,x.sq,x.d,[],(x.dat.length:Int),s,o,q⟩
 else if x.k=5 then ⟨x.k,x.sq,x.d,[],0,s,o,q⟩
 else if x.k=3 then ⟨x.k,x.sq,x.d,x.nm,0,s,o,q⟩
 else if x.k=4 then ⟨x.k,x.sq,z32,x.nm,0,s,o,q⟩
 else if x.k=6\/x.k=8 then ⟨x.k,x.sq,z32,[],x.z,s,o,q⟩
 else ⟨x.k,x.sq,z32,[],0,s,o,q⟩
def woC (x:Wo):List Value:=[.int .i64 x.k,.int .u64 (x.sq:Nat)] ++ (x.d.map bv ++ [.string ⟨x.nm.toArray⟩,.int .i64 x.z,.int .i64 x.s,.int .i64 x.o,.int .i64 x.q])
theorem woC_len {x:Wo} (h:x.d.length=32):(woC x).length=39:=by simp [woC,h]
theorem woC_one (x:Wo):∀ v ∈ woC x,v.oneCell'=true:=by
 intro v hv
 unfold woC at hv
 rcases List.mem_append.1 hv with h | h
 ·simp only [List.mem_cons,List.not_mem_nil,or_false] at h
  rcases h with rfl | rfl <;> rfl
 ·rcases List.mem_append.1 h with h | h
  ·exact bvs_one _ v h
  ·simp only [List.mem_cons,List.not_mem_nil,or_false] at h
   rcases h with rfl | rfl | rfl | rfl | rfl <;> rfl
theorem wdR_len {x:Rc} (h:x.d.length=32) (s o q:Int):(wdR x s o q).d.length=32:=by
 unfold wdR
 split
 ·exact h
 ·split
  ·exact h
  ·split
   ·exact h
   ·split
    ·exact z32_len
    ·split <;> exact z32_len
theorem woC_std {x:Wo} (h:x.d.length=32) {d:List UInt8} (hd:d.length=32):splice (woC x) 2 (d.map bv)=woC { x with d:=d }:=by
 unfold woC
 exact splice_app rfl (by simp [h,hd])
theorem woC_stn {x:Wo} (h:x.d.length=32) (s:List UInt8):splice (woC x) 34 [.string ⟨s.toArray⟩]=woC { x with nm:=s }:=by
 have e:woC x=([.int .i64 x.k,.int .u64 (x.sq:Nat)] ++ x.d.map bv) ++ ([.string ⟨x.nm.toArray⟩] ++ [.int .i64 x.z,.int .i64 x.s,.int .i64 x.o,.int .i64 x.q]):=by unfold woC; simp
 rw [e,splice_app (by simp [h]) (by simp)]
 unfold woC; simp
theorem woC_stz {x:Wo} (h:x.d.length=32) (m:Int):splice (woC x) 35 [.int .i64 m]=woC { x with z:=m }:=by
 have e:woC x=([.int .i64 x.k,.int .u64 (x.sq:Nat)] ++ x.d.map bv ++ [.string ⟨x.nm.toArray⟩]) ++ ([.int .i64 x.z] ++ [.int .i64 x.s,.int .i64 x.o,.int .i64 x.q]):=by unfold woC; simp
 rw [e,splice_app (by simp [h]) (by simp)]
 unfold woC; simp
end Go.Proofs.YtadbakmblklncaaGreatDoor
namespace Go.Proofs.YtadbakmblklncaaGreatDoor
open Go.GV Go.RowKit Go.Lib
set_option maxHeartbeats 2000000 in
theorem word39_calls (x:Rc) (A:Option Addr) (n c:Nat) (s o q:Int) (w:World) (hd:x.d.length=32) (hn:n=x.dat.length) :
  Calls Tryz.prog 41 #[ofL (rcC x A n c),ofL [.int .i64 s,.int .i64 o,.int .i64 q]] w fun e w'=>e=.returned (ofL (woC (wdR x s o q)))/\Fr (fun _=>False) w w':=by
 refine (F41.of _ _ w (Q:=fun v w'=>v=ofL (woC (wdR x s o q))/\Fr (fun _=>False) w w') ?_).mono (fun e w' ⟨v,he,hv,h⟩=>⟨by rw [he,hv],h⟩)
 refine rec_new (fun b1 w2 f1 hb1 r1=>rec_new (fun b3 w4 f3 hb3 r3=>rec_new (fun b5 w6 f5 hb5 r5=>?_)))
 have r1:=(r1.fr f3 (fun h=>h)).fr f5 (fun h=>h)
 have r3:=r3.fr f5 (fun h=>h)
 have f16:=(f1.trans1 f3).trans1 f5
 have hb5':w.heap.size<=b5:=by have:=(f1.trans1 f3).size; omega
 have Z39:Z73.length=39:=rfl
 refine ⟨_,r1.cell (o:=0) (v:=.int .i64 x.k) rfl,_,r1.cell (o:=1) (v:=.int .u64 (x.sq:Nat)) rfl,[.int .i64 s,.int .i64 o,.int .i64 q],rfl,rec_all r3,gd_mk rfl ?_⟩
 generalize hy:(⟨x.k,x.sq,z32,[],0,s,o,q⟩:Wo)=y
 have dy:y.d.length=32:=by rw [<- hy]; exact z32_len
 have lay:∀ (u:World) (K:Nat->World->Prop),(∀ b w',Fr (fun _=>False) u w'->u.heap.size<=b->RecAt w' b 73 (woC ⟨x.k,x.sq,z32,[],0,s,o,q⟩)->K b w')->nw u Z73 73 fun b w1=>gd ((woC ⟨x.k,x.sq,z32,[],0,s,o,q⟩).length == 39) (st w1 b 0 (woC ⟨x.k,x.sq,z32,[],0,s,o,q⟩) fun w2=>K b w2) :=
  fun u K hK=>var_new (sz:=39) Z39 (woC_len z32_len) (woC_one _) hK
 refine lay w6 _ (fun b10 w12 f10 hb10 r10=>?_)
 rw [hy] at r10
 have r1:=r1.fr f10 (fun h=>h)
 have r5:=r5.fr f10 (fun h=>h)
 have f1c:=f16.trans1 f10
 have l5:=(RecAt.lt (w:=w6) (by assumption:RecAt w6 b5 _ _))
 have l1:=(RecAt.lt (w:=w6) (by assumption:RecAt w6 b1 _ _))
 have n5:b5 ≠ b10:=by omega
 have n1:b1 ≠ b10:=by omega
 have hb10':w.heap.size<=b10:=by have:=f16.size; omega
 have cD:cellsAt w12 b1 2 (x.d.map bv):=r1.cells (o:=2) (fun j v hj=>rcC_d hd A n c j v hj)
 have fin:∀ (u:World) (z:Wo),z=wdR x s o q->Fr (fun k=>k=b10) w12 u->RecAt u b10 73 (woC z) ->
   ldA 39 u b10 0 fun a=>gd (a.length == 39) (st u b5 0 a fun w1=>ldA 39 w1 b5 0 fun a'=>ofL a'=ofL (woC (wdR x s o q))/\Fr (fun _=>False) w w1):=by
  rintro u z rfl g q10
  exact cp_mk (N:=39) (K:=fun a' w1=>ofL a'=ofL (woC (wdR x s o q))/\Fr (fun _=>False) w w1) q10 (woC_len (wdR_len hd _ _ _)) (r5.fr g (fun h=>n5 h)) Z39 (woC_one _) (fun w' g2=>⟨rfl,fr_var (fr_var f1c hb10' g) hb5' g2⟩)
 have stD:∀ (u:World) (z:Wo) (K:World->Prop),z.d.length=32->Fr (fun k=>k=b10) w12 u->RecAt u b10 73 (woC z)->(∀ u',Fr (fun k=>k=b10) w12 u'->RecAt u' b10 73 (woC { z with d:=x.d })->K u')->ldA 32 u b1 (0+2) fun a=>gd (a.length == 32) (st u b10 (0+2) a fun u'=>K u'):=by
  intro u z K hz g q10 hK
  refine ⟨x.d.map bv,by rw [List.length_map,hd],g.cells cD (fun h=>n1 h),gd_mk (by rw [List.length_map,hd]; rfl) (q10.st_mk (o:=2) (by rw [woC_len hz,List.length_map,hd]; omega) (bvs_one _) (fun q11 g2=>hK _ (g.trans1 g2) ?_))⟩
  rw [woC_std hz hd] at q11
  exact q11
 have stN:∀ (u:World) (z:Wo) (K:World->Prop),z.d.length=32->Fr (fun k=>k=b10) w12 u->RecAt u b10 73 (woC z)->(∀ u',Fr (fun k=>k=b10) w12 u'->RecAt u' b10 73 (woC { z with nm:=x.nm })->K u')->ldS u b1 (0+34) fun t=>st u b10 (0+34) [Value.string t] fun u'=>K u':=by
  intro u z K hz g q10 hK
  refine ⟨_,g.cell (r1.cell (o:=34) (rc_name hd A n c)) (fun h=>n1 h),q10.st_mk (o:=34) (by rw [woC_len hz]; show 34+1<=39; omega) (fun v hv=>by simp at hv; subst hv; rfl) (fun q11 g2=>hK _ (g.trans1 g2) ?_)⟩
  rw [woC_stn hz] at q11
  exact q11
 have stZ:∀ (m:Int) (K:World->Prop),(∀ u',Fr (fun k=>k=b10) w12 u'->RecAt u' b10 73 (woC { y with z:=m })->K u')->st w12 b10 (0+35) [Value.int .i64 m] fun u'=>K u':=by
  intro m K hK
  refine r10.st_mk (o:=35) (by rw [woC_len dy]; show 35+1<=39; omega) (fun v hv=>by simp at hv; subst hv; rfl) (fun q11 g2=>hK _ g2 ?_)
  rw [woC_stz dy] at q11
  exact q11
 have F0:Fr (fun k=>k=b10) w12 w12:=Fr.refl _ _
 have b12:(x.k=1\/x.k=2)->ldSl w12 b1 (0+35) fun A14 n15 c16=>st w12 b10 (0+35) [Value.int .i64 ((n15:Nat):Int)] fun w17=>ldA 32 w17 b1 (0+2) fun a18=>gd (a18.length == 32) (st w17 b10 (0+2) a18 fun w19=>ldA 39 w19 b10 0 fun a=>gd (a.length == 39) (st w19 b5 0 a fun w1=>ldA 39 w1 b5 0 fun a'=>ofL a'=ofL (woC (wdR x s o q))/\Fr (fun _=>False) w w1)):=by
  intro h12
  refine ⟨A,n,c,r1.cell (o:=35) (rc_data hd A n c),stZ _ _ (fun u g q1=>stD u { y with z:=(n:Int) } _ dy g q1 (fun u' g' q2=>fin u' _ ?_ g' q2))⟩
  unfold wdR
  rw [if_pos h12,<- hy,hn]
 have k5:¬ (x.k=1\/x.k=2)->jnC (F41.k5 (fun v w'=>v=ofL (woC (wdR x s o q))/\Fr (fun _=>False) w w')) ((b1,0),(b5,0),(b10,0),x.k,()) w12:=by
  intro h12
  refine jnC_mk (fun _=>vIf_mk (fun h5=>stD w12 y _ dy F0 r10 (fun u g q1=>fin u _ ?_ g q1)) (fun h5=>vIf_mk (fun h3=>stD w12 y _ dy F0 r10 (fun u g q1=>stN u { y with d:=x.d } _ hd g q1 (fun u' g' q2=>fin u' _ ?_ g' q2))) (fun h3=>vIf_mk (fun h4=>stN w12 y _ dy F0 r10 (fun u g q1=>fin u _ ?_ g q1)) (fun h4=>vIf_mk (fun h6=>vIf_mk (fun h6'=>⟨_,r1.cell (o:=37) (rc_z hd A n c),stZ _ _ (fun u g q1=>fin u _ ?_ g q1)⟩) (fun h6'=>?_)) (fun h6=>vIf_mk (fun h8=>⟨_,r1.cell (o:=37) (rc_z hd A n c),stZ _ _ (fun u g q1=>fin u _ ?_ g q1)⟩) (fun h8=>fin w12 y ?_ F0 r10))))))
  ·have h5:x.k=5:=by simpa using h5
   unfold wdR
   rw [if_neg h12,if_pos h5,<- hy]
  ·have h5:¬ x.k=5:=by simpa using h5
   have h3:x.k=3:=by simpa using h3
   unfold wdR
   rw [if_neg h12,if_neg h5,if_pos h3,<- hy]
  ·have h5:¬ x.k=5:=by simpa using h5
   have h3:¬ x.k=3:=by simpa using h3
   have h4:x.k=4:=by simpa using h4
   unfold wdR
   rw [if_neg h12,if_neg h5,if_neg h3,if_pos h4,<- hy]
  ·have h5:¬ x.k=5:=by simpa using h5
   have h3:¬ x.k=3:=by simpa using h3
   have h4:¬ x.k=4:=by simpa using h4
   have h6:x.k=6:=by simpa using h6
   unfold wdR
   rw [if_neg h12,if_neg h5,if_neg h3,if_neg h4,if_pos (.inl h6),<- hy]
  ·rw [h6] at h6'; cases h6'
  ·have h5:¬ x.k=5:=by simpa using h5
   have h3:¬ x.k=3:=by simpa using h3
   have h4:¬ x.k=4:=by simpa using h4
   have h8:x.k=8:=by simpa using h8
   unfold wdR
   rw [if_neg h12,if_neg h5,if_neg h3,if_neg h4,if_pos (.inr h8),<- hy]
  ·have h5:¬ x.k=5:=by simpa using h5
   have h3:¬ x.k=3:=by simpa using h3
   have h4:¬ x.k=4:=by simpa using h4
   have h6:¬ x.k=6:=by simpa using h6
   have h8:¬ x.k=8:=by simpa using h8
   unfold wdR
   rw [if_neg h12,if_neg h5,if_neg h3,if_neg h4,if_neg (fun h=>h.elim h6 h8),<- hy]
 refine ⟨_,r1.cell (o:=0) (v:=.int .i64 x.k) rfl,vIf_mk (fun h1=>vIf_mk (fun h1'=>b12 (.inl (by simpa using h1))) (fun h1'=>?_)) (fun h1=>vIf_mk (fun h2=>b12 (.inr (by simpa using h2))) (fun h2=>k5 ?_))⟩
 ·rw [h1] at h1'; cases h1'
 ·have h1:¬ x.k=1:=by simpa using h1
  have h2:¬ x.k=2:=by simpa using h2
  exact fun h=>h.elim h1 h2
end Go.Proofs.YtadbakmblklncaaGreatDoor
namespace Go.Proofs.YtadbakmblklncaaGreatDoor
open Go.GV
structure RokP (b:List UInt8) (at_:Int) (x:Rc) (e:Int):Prop where
 at0:0<=at_
 lt:at_+21<=e
 le:e<=(b.length:Int)
 sq:x.sq < 18446744073709551616
 k1:1<=x.k
 k8:x.k<=8
 z0:0<=x.z
 z1:x.z < 4294967296
 d:x.d.length=32
 n:x.dat.length<=b.length
 rg:rgR x=0
abbrev BaR:=List Wo×Int×Nat×Int
end Go.Proofs.YtadbakmblklncaaGreatDoor
namespace Go.Proofs.YtadbakmblklncaaGreatDoor
open Go.GV Go.RowKit Go.Lib
def wsC (l:List Wo):List Value:=(l.map woC).flatten
abbrev W39 (l:List Wo):Prop:=∀ x ∈ l,x.d.length=32
theorem wsC_app (a b:List Wo):wsC (a ++ b)=wsC a ++ wsC b:=by unfold wsC; rw [List.map_append,List.flatten_append]
theorem wsC_one (x:Wo):wsC [x]=woC x:=by unfold wsC; simp
structure SW (w:World) (A:Option Addr) (n:Nat) (l:List Wo):Prop where
 sl:Sl w 39 A n (wsC l)
 len:l.length=n
 d:W39 l
structure RW (w0 w:World) (A:Option Addr) (n c:Nat) (l:List Wo):Prop where
 f:Fr (fun _=>False) w0 w
 row:Row w w0.heap.size 73 39 A n c (wsC l)
 len:l.length=n
 d:W39 l
theorem may_calls (k:Int) (w:World):Calls Tryz.prog 55 #[.int .i64 k] w fun e w'=>e=.returned (.bool (decide (1<=k/\k<=5)))/\w=w':=by
 refine (F55.of k w (Q:=fun v w'=>v=.bool (decide (1<=k/\k<=5))/\w=w') ?_).mono (fun e w' ⟨v,he,hv,h⟩=>⟨by rw [he,hv],h⟩)
 refine vIf_mk (fun h=>⟨?_,rfl⟩) (fun h=>⟨?_,rfl⟩)
 ·have h:k >= 1:=of_decide_eq_true h
  congr 1
  by_cases h5:k<=5
  ·rw [decide_eq_true h5,decide_eq_true (show 1<=k/\k<=5 from ⟨h,h5⟩)]
  ·rw [decide_eq_false h5,decide_eq_false (fun g=>h5 g.2)]
 ·have h:¬ k >= 1:=of_decide_eq_false h
  rw [decide_eq_false (fun g=>h g.1)]
theorem rc_sq {x:Rc} (A:Option Addr) (n c:Nat):(rcC x A n c)[1]?=some (.int .u64 (x.sq:Nat)):=rfl
theorem rc_k {x:Rc} (A:Option Addr) (n c:Nat):(rcC x A n c)[0]?=some (.int .i64 x.k):=rfl
theorem fitL_app:∀ {ks ks':List LK} {xs ys:List Value},ks.length=xs.length->fitL ks xs=true->fitL ks' ys=true->fitL (ks ++ ks') (xs ++ ys)=true
 | [],_,[],_,_,_,h=>h
 | [],_,_ :: _,_,h,_,_=>by cases h
 | _ :: _,_,[],_,h,_,_=>by cases h
 | k :: ks,ks',x :: xs,ys,hl,h1,h2=>by
  have h1:(fitV k x && fitL ks xs)=true:=h1
  rw [Bool.and_eq_true] at h1
  show (fitV k x && fitL (ks ++ ks') (xs ++ ys))=true
  rw [h1.1,fitL_app (Nat.succ.inj hl) h1.2 h2]; rfl
end Go.Proofs.YtadbakmblklncaaGreatDoor
namespace Go.Proofs.YtadbakmblklncaaGreatDoor
open Go.GV
structure Sn where
 ws:List Wo
 sq:Nat
 e:Int
 s:Bool
 a:Int
 r:Int
structure BokP (b:List UInt8) (at_:Int) (k:Nat) (r:BaR):Prop where
 at0:0<=at_
 lt:at_ < r.2.1
 le:r.2.1<=(b.length:Int)
 len:(r.1.length:Int)<=(k:Int)+(r.2.1 - at_)
 ne:r.1 ≠ []
 sq:r.2.2.1 < 18446744073709551616
end Go.Proofs.YtadbakmblklncaaGreatDoor
