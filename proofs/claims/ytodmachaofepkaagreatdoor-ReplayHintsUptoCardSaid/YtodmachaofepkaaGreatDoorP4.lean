import Derived.Test.YtodmachaofepkaaGreatDoorP3
set_option linter.unusedVariables false
set_option linter.unusedSimpArgs false
namespace Go.Proofs.YtodmachaofepkaaGreatDoor
open Go.GV Go.RowKit Go.Lib
def frC (x:Frm) (A:Option Addr) (n c:Nat):List Value:=[.int .i64 (x.k:Nat),.int .u64 (x.sq:Nat),.slice A n c,.int .i64 x.z]
theorem frC_one (x:Frm) (A:Option Addr) (n c:Nat):∀ v ∈ frC x A n c,v.oneCell'=true:=by
 intro v hv
 simp only [frC,List.mem_cons,List.not_mem_nil,or_false] at hv
 rcases hv with rfl | rfl | rfl | rfl <;> rfl
theorem beg_err {b:List UInt8} (h:begP b ≠ 0):frG b=(begP b,0,0,[]):=by
 unfold begP at h ⊢
 split
 ·rename_i h1; exact frG_4 h1
 ·rename_i h1
  split
  ·rename_i h2; exact frG_5 h1 h2
  ·rename_i h2
   split
   ·rename_i h3; exact frG_3 h1 (Decidable.not_not.1 h2) h3
   ·rename_i h3; rw [if_neg h1,if_neg h2,if_neg h3] at h; exact absurd rfl h
theorem beg_ok {b:List UInt8} (h:begP b=0):¬ b.length < 17/\whF b 13/\¬ (kF b < 1\/kF b > 8\/zF b > 65536):=by
 unfold begP at h
 split at h
 ·omega
 ·rename_i h1
  split at h
  ·omega
  ·rename_i h2
   split at h
   ·omega
   ·rename_i h3; exact ⟨h1,Decidable.not_not.1 h2,h3⟩
abbrev FrA (w w':World) (v:Value) (x:Frm):Prop:=Fr (fun _=>False) w w'/\∃ (A:Option Addr) (n c:Nat),v=.tuple #[ofL (frC x A n c),.int .i64 x.e]/\Sl w' 1 A n (x.d.map bv)/\n<=c
set_option maxHeartbeats 2000000 in
theorem fparse_calls (A:Option Addr) (n c:Nat) (b:List UInt8) (at_:Int) (w:World) (h:Sl w 1 A n (b.map bv)) (hc:n<=c) (hn:n<=1099511627776) :
  Calls Tryz.prog 113 #[.slice A n c,.int .i64 at_] w fun e w'=>∃ v,e=.returned v/\FrA w w' v (frP b at_):=by
 have hl:=sl_len h
 refine (F113.of A n c at_ w (Q:=fun v w'=>FrA w w' v (frP b at_)) ?_)
 have err:∀ (k:Int) (w':World),frP b at_=⟨k,0,0,[],0⟩->Fr (fun _=>False) w w'->FrA w w' (.tuple #[ofL [.int .i64 0,.int .u64 0,.slice none 0 0,.int .i64 0],.int .i64 k]) (frP b at_):=by
  intro k w' hk f
  rw [hk]
  exact ⟨f,none,0,0,rfl,Sl.nil _ _ _,Nat.le_refl _⟩
 have z1:∀ v ∈ [Value.int .i64 0,.int .u64 0,.slice none 0 0,.int .i64 0],v.oneCell'=true:=frC_one ⟨0,0,0,[],0⟩ none 0 0
 refine rec_new (fun b1 w2 f1 hb1 r1=>?_)
 have two:∀ t:Bool,(t=true->frP b at_=⟨2,0,0,[],0⟩)->(t=false->jnC (F113.k3 (fun v w'=>FrA w w' v (frP b at_))) ((A,n,c),at_,(b1,0),()) w2)->jnC (F113.k2 (fun v w'=>FrA w w' v (frP b at_))) ((A,n,c),at_,(b1,0),t,()) w2:=by
  intro t h1 h2
  refine jnC_mk (fun _=>vIf_mk (fun ht=>?_) (fun ht=>h2 ht))
  exact ansN_mk (N:=4) (cs:=[.int .i64 0,.int .u64 0,.slice none 0 0,.int .i64 0]) r1 rfl rfl z1 (fun w' g=>err 2 w' (h1 ht) (fr_var f1 hb1 g))
 refine vIf_mk (fun hlt=>two true (fun _=>frP_out (.inl (of_decide_eq_true hlt))) (fun h=>by cases h)) (fun hlt=>two _ (fun h=>frP_out (.inr (by have:=of_decide_eq_true h; omega))) (fun hgt=>jnC_mk (fun _=>?_)))
 have hlt:¬ at_ < 0:=of_decide_eq_false hlt
 have hgt:¬ at_ > (n:Int):=of_decide_eq_false hgt
 obtain ⟨a,rfl⟩:∃ a:Nat,at_=(a:Int):=⟨at_.toNat,by omega⟩
 clear two
 have han:a<=n:=by omega
 refine gd_mk (decide_eq_true (by show (0:Int)<=(a:Int); omega)) (gd_mk (decide_eq_true (by show (a:Int)<=(n:Int); omega)) ?_)
 dsimp only
 rw [Int.toNat_natCast]
 have hs:=f1.sl h (fun _ _ _ h=>h)
 have hr:=sl_drop hs han hc
 have hrl:(b.drop a).length=n - a:=by rw [List.length_drop,hl]
 have ferr:∀ e:Int,frG (b.drop a)=(e,0,0,[])->e ≠ 0->frP b (a:Int)=⟨e,0,0,[],0⟩:=fun e he h0=>frP_err (by omega) he h0
 have fok:∀ k sq d,frG (b.drop a)=(0,k,sq,d)->frP b (a:Int)=⟨0,k,sq,d,(a:Int)+21+(d.length:Int)⟩:=fun k sq d he=>frP_ok (by omega) he
 generalize hrd:b.drop a=r at hr hrl ferr fok
 generalize hR:slA A c a 1=R at hr ⊢
 refine (begin_calls R (n - a) (c - a) r w2 hr (by omega) (by omega)).mono ?_
 rintro e w3 ⟨rfl,f3⟩
 have r1:=r1.fr f3 (fun h=>h)
 have f13:=f1.trans1 f3
 have hr:=f3.sl hr (fun _ _ _ h=>h)
 refine ⟨_,_,rfl,?_⟩
 by_cases hb:begP r=0
 ·rw [hb,if_pos rfl]
  obtain ⟨g1,g2,g3⟩:=beg_ok hb
  have k3:=zF_lt r
  refine var_new (sz:=5) rfl rfl (stC_one _ _ _) (fun b2 w4 f4 hb2 r2=>?_)
  have r1:=r1.fr f4 (fun h=>h)
  have f14:=f13.trans1 f4
  have hr:=f4.sl hr (fun _ _ _ h=>h)
  have hb12:b1 ≠ b2:=by
   have:=r1.lt
   have:=r2.lt
   have h3:=f3.size
   intro e; subst e
   have:=(RecAt.lt (w:=w3) (by assumption)); omega
  have size:∀ (u:World) (K:Int->World->Prop),K (21+(zF r:Int)) u->Calls Tryz.prog 134 #[.int .i64 (zF r:Nat)] u fun e x=>∃ i:Int,e=.returned (.int .i64 i)/\K i x:=by
   intro u K hK
   refine (F134.of (zF r:Nat) u (Q:=fun v x=>v=.int .i64 (21+(zF r:Int))/\x=u) ⟨?_,rfl⟩).mono (fun e x ⟨v,he,hv,hx⟩=>⟨21+(zF r:Int),by rw [he,hv],by rw [hx]; exact hK⟩)
   rw [i64_id (n:=17+(zF r:Int)) (by omega) (by omega),i64_id (by omega) (by omega)]
   congr 1; omega
  refine vIf_f (by rfl) ⟨_,r2.cell (o:=4) rfl,size _ _ (vIf_mk (fun h4=>?_) (fun h4=>⟨_,r2.cell (o:=4) rfl,size _ _ ?_⟩))⟩
  ·have h4:((n - a:Nat):Int) < 21+(zF r:Int):=of_decide_eq_true h4
   exact ansN_mk (N:=4) (cs:=[.int .i64 0,.int .u64 0,.slice none 0 0,.int .i64 0]) r1 rfl rfl z1 (fun w' g=>err 4 w' (ferr 4 (frG_4' g1 g2 g3 (by omega)) (by decide)) (fr_var f14 hb1 g))
  ·have h4:¬ ((n - a:Nat):Int) < 21+(zF r:Int):=of_decide_eq_false h4
   have e21:(21+(zF r:Int))=((21+zF r:Nat):Int):=by omega
   have e17:IntKind.wrap .i64 (17+(zF r:Int))=((17+zF r:Nat):Int):=by rw [i64_id (by omega) (by omega)]; omega
   rw [e21,Int.toNat_natCast]
   have h0:=sl_zero hr (show n - a<=c - a by omega)
   refine gd_mk (decide_eq_true (by omega)) (gd_mk (decide_eq_true (by omega)) ((whole_calls _ (21+zF r) (c - a) (r.take (21+zF r)) w4 (sl_take h0 (by omega)) (by omega) (by omega) (by omega)).mono ?_))
   rintro e w5 ⟨rfl,f5⟩
   have r1:=r1.fr f5 (fun h=>h)
   have r2:=r2.fr f5 (fun h=>h)
   have f15:=f14.trans1 f5
   have h0:=f5.sl h0 (fun _ _ _ h=>h)
   have hwh:whF (r.take (21+zF r)) (21+zF r - 4) ↔ whF r (17+zF r):=by
    show leT (((r.take (21+zF r)).drop (21+zF r - 4)).take 4)=(crcS ((r.take (21+zF r)).take (21+zF r - 4))).toNat ↔ _
    rw [List.take_take,List.drop_take,List.take_take,show 21+zF r - 4=17+zF r by omega,show min 4 (21+zF r - (17+zF r))=4 by omega,Nat.min_eq_left (show 17+zF r<=21+zF r by omega)]
   refine ⟨_,rfl,vIf_mk (fun hw=>?_) (fun hw=>⟨_,r2.cell (o:=4) rfl,?_⟩)⟩
   ·have hw:¬ whF r (17+zF r):=fun h=>ndt hw (hwh.2 h)
    exact ansN_mk (N:=4) (cs:=[.int .i64 0,.int .u64 0,.slice none 0 0,.int .i64 0]) r1 rfl rfl z1 (fun w' g=>err 5 w' (ferr 5 (frG_5' g1 g2 g3 (by omega) hw) (by decide)) (fr_var f15 hb1 g))
   ·have hw:whF r (17+zF r):=hwh.1 (ndf hw)
    have hok:=fok _ _ _ (frG_0 g1 g2 g3 (by omega) hw)
    have hdl:((r.drop 17).take (zF r)).length=zF r:=by rw [List.length_take,List.length_drop]; omega
    dsimp only
    rw [e17,Int.toNat_natCast,show 17+zF r - 17=zF r by omega]
    refine gd_mk (decide_eq_true (by omega)) (gd_mk (decide_eq_true (by omega)) (gd_mk (decide_eq_true (by omega)) ?_))
    have h17:Sl w5 1 (slA (slA R (c - a) 0 1) (c - a) 17 1) (zF r) (((r.drop 17).take (zF r)).map bv):=sl_take (sl_drop h0 (by omega) (by omega)) (by omega)
    refine (clone_by _ (zF r) (c - a - 17) ((r.drop 17).take (zF r)) w5 h17 (by omega)).mono ?_
    rintro e w6 ⟨f6,A',c',rfl,hrow⟩
    have r1:=r1.fr f6 (fun h=>h)
    have r2:=r2.fr f6 (fun h=>h)
    have f16:=f15.trans1 f6
    have hA'b:∀ k,blkOf A'=some k->k ≠ b1/\k ≠ b2:=fun k hk=>by
     have:=(hrow.blt hk).1
     have l1:=RecAt.lt (w:=w5) (by assumption:RecAt w5 b1 _ _)
     have l2:=RecAt.lt (w:=w5) (by assumption:RecAt w5 b2 _ _)
     exact ⟨by omega,by omega⟩
    refine ⟨_,_,_,rfl,r2.st_mk (o:=2) (vs:=[Value.slice A' (zF r) c']) (show 2+1<=5 by omega) (fun v hv=>by simp at hv; subst hv; rfl) (fun r3 f7=>?_)⟩
    have r3:RecAt _ b2 _ [.int .i64 (kF r:Nat),.int .u64 (sF r:Nat),.slice A' (zF r) c',.int .i64 0,.int .i64 (zF r:Nat)]:=r3
    have r1:=r1.fr f7 (fun h=>hb12 h)
    have ez:IntKind.wrap .i64 ((a:Int)+((21+zF r:Nat):Int))=(a:Int)+21+(((r.drop 17).take (zF r)).length:Int):=by rw [hdl,i64_id (by omega) (by omega)]; omega
    rw [ez]
    refine r3.st_mk (o:=3) (vs:=[Value.int .i64 ((a:Int)+21+(((r.drop 17).take (zF r)).length:Int))]) (show 3+1<=5 by omega) (fun v hv=>by simp at hv; subst hv; rfl) (fun r4 f8=>?_)
    have r4:RecAt _ b2 _ [.int .i64 (kF r:Nat),.int .u64 (sF r:Nat),.slice A' (zF r) c',.int .i64 ((a:Int)+21+(((r.drop 17).take (zF r)).length:Int)),.int .i64 (zF r:Nat)]:=r4
    have r1:=r1.fr f8 (fun h=>hb12 h)
    refine ⟨frC (frP b (a:Int)) A' (zF r) c',rfl,?_,ansN_mk (N:=4) r1 rfl rfl (frC_one _ _ _ _) (fun w' g=>?_)⟩
    ·rw [hok]
     exact r4.cells (o:=0) (fun j v hj=>by
      match j,hj with
      | 0,hj=>exact hj
      | 1,hj=>exact hj
      | 2,hj=>exact hj
      | 3,hj=>exact hj)
    ·have ff:=fr_var (fr_var (fr_var f16 (by have:=f13.size; omega) f7) (by have:=f13.size; omega) f8) hb1 g
     refine ⟨ff,A',zF r,c',by rw [hok],?_,?_⟩
     ·rw [hok]
      exact g.sl (f8.sl (f7.sl hrow.sl (fun _ k hk=>(hA'b k hk).2)) (fun _ k hk=>(hA'b k hk).2)) (fun _ k hk=>(hA'b k hk).1)
     ·exact hrow.le
 ·rw [if_neg hb]
  refine var_new (sz:=5) rfl rfl (stC_one _ _ _) (fun b2 w4 f4 hb2 r2=>vIf_t ?_ ?_)
  ·simpa using hb
  ·have r1:=r1.fr f4 (fun h=>h)
   exact ansN_mk (N:=4) (cs:=[.int .i64 0,.int .u64 0,.slice none 0 0,.int .i64 0]) r1 rfl rfl z1 (fun w' g=>err _ w' (ferr _ (beg_err hb) hb) (fr_var (f13.trans1 f4) hb1 g))
theorem u8_nat (k:Nat):Value.int .u8 (IntKind.wrap .u8 (k:Int))=bv (UInt8.ofNat (k % 256)):=by
 rw [IntKind.wrap_u8,show (k:Int) % 256=((k % 256:Nat):Int) by omega]
 exact bv_nat (Nat.mod_lt _ (by omega))
theorem crc_u64 (b:List UInt8):IntKind.wrap .u64 ((crcS b).toNat:Int)=(((crcS b).toNat:Nat):Int):=by
 have:=(crcS b).isLt
 exact u64_id (by omega) (by omega)
set_option maxHeartbeats 1000000 in
theorem rmake_calls (k sq:Nat) (A:Option Addr) (n c:Nat) (d:List UInt8) (w:World) (h:Sl w 1 A n (d.map bv)) (hn:n<=4294967295) (hk:k < 9223372036854775808) (hs:sq < 18446744073709551616) :
  Calls Tryz.prog 63 #[.int .i64 (k:Nat),.int .u64 (sq:Nat),.slice A n c] w fun e w'=>∃ A' c',e=.returned (.slice A' (21+n) c')/\RB w w' A' (21+n) c' (mkF k sq d):=by
 have hl:=sl_len h
 refine (F63.of (k:Nat) (sq:Nat) A n c w (Q:=fun v w'=>∃ A' c',v=.slice A' (21+n) c'/\RB w w' A' (21+n) c' (mkF k sq d)) ?_).mono (fun e w' ⟨v,he,A',c',hv,h⟩=>⟨A',c',by rw [he,hv],h⟩)
 unfold F63.vc
 rw [u8_nat]
 refine push_mk (RB.nil w) (by omega) (fun A1 c1 w1 h1=>?_)
 rw [List.nil_append] at h1
 refine (rputB_calls A1 _ c1 _ sq 8 w1 h1.sl (by omega) hs (by omega)).mono ?_
 rintro e w2 ⟨A2,c2,rfl,h2⟩
 have h2:=h2.le h1.1
 refine ⟨A2,_,c2,rfl,?_⟩
 have en:IntKind.wrap .u64 ((n:Nat):Int)=((n:Nat):Int):=u64_id (by omega) (by omega)
 rw [en]
 refine (rputB_calls A2 _ c2 _ n 4 w2 h2.sl (by omega) (by omega) (by omega)).mono ?_
 rintro e w3 ⟨A3,c3,rfl,h3⟩
 have h3:=h3.le h2.1
 have eh:[UInt8.ofNat (k % 256)] ++ leB sq 8 ++ leB n 4=hdF k sq d.length:=by rw [hl]; rfl
 rw [eh] at h3
 refine ⟨A3,_,c3,rfl,(rcrc_calls A3 _ c3 _ w3 h3.sl (by omega)).mono ?_⟩
 rintro e w4 ⟨rfl,f4⟩
 have h4:=h3.fr f4
 refine ⟨_,rfl,?_⟩
 rw [crc_u64]
 refine (rputB_calls A3 _ c3 _ _ 4 w4 h4.sl (by omega) (by have:=(crcS (hdF k sq d.length)).isLt; omega) (by omega)).mono ?_
 rintro e w5 ⟨A5,c5,rfl,h5⟩
 have h5:=h5.le h4.1
 refine ⟨A5,_,c5,rfl,appB_mk h5 (h5.1.sl h (fun _ _ _ h=>h)) (by omega) (fun A6 c6 w6 h6=>?_)⟩
 have eb:hdF k sq d.length ++ leB (crcS (hdF k sq d.length)).toNat 4 ++ d=bdF k sq d:=rfl
 rw [eb] at h6
 refine (rcrc_calls A6 _ c6 _ w6 h6.sl (by omega)).mono ?_
 rintro e w7 ⟨rfl,f7⟩
 have h7:=h6.fr f7
 refine ⟨_,rfl,?_⟩
 rw [crc_u64]
 refine (rputB_calls A6 _ c6 _ _ 4 w7 h7.sl (by omega) (by have:=(crcS (bdF k sq d)).isLt; omega) (by omega)).mono ?_
 rintro e w8 ⟨A8,c8,rfl,h8⟩
 have h8:=h8.le h7.1
 have e:0+1+8+4+4+n+4=21+n:=by omega
 rw [e] at h8 ⊢
 exact ⟨A8,_,c8,rfl,A8,c8,rfl,h8⟩
set_option maxHeartbeats 2000000 in
theorem rfparse_calls (A:Option Addr) (n c:Nat) (b:List UInt8) (at_:Int) (w:World) (h:Sl w 1 A n (b.map bv)) (hc:n<=c) (hn:n<=1099511627776) :
  Calls Tryz.prog 31 #[.slice A n c,.int .i64 at_] w fun e w'=>∃ v,e=.returned v/\FrA w w' v (frP b at_):=by
 have hl:=sl_len h
 refine (F31.of A n c at_ w (Q:=fun v w'=>FrA w w' v (frP b at_)) ?_)
 have err:∀ (k:Int) (w':World),frP b at_=⟨k,0,0,[],0⟩->Fr (fun _=>False) w w'->FrA w w' (.tuple #[ofL [.int .i64 0,.int .u64 0,.slice none 0 0,.int .i64 0],.int .i64 k]) (frP b at_):=by
  intro k w' hk f
  rw [hk]
  exact ⟨f,none,0,0,rfl,Sl.nil _ _ _,Nat.le_refl _⟩
 have z1:∀ v ∈ [Value.int .i64 0,.int .u64 0,.slice none 0 0,.int .i64 0],v.oneCell'=true:=frC_one ⟨0,0,0,[],0⟩ none 0 0
 refine rec_new (fun b1 w2 f1 hb1 r1=>?_)
 have two:∀ t:Bool,(t=true->frP b at_=⟨2,0,0,[],0⟩)->(t=false->jnC (F31.k3 (fun v w'=>FrA w w' v (frP b at_))) ((A,n,c),at_,(b1,0),()) w2)->jnC (F31.k2 (fun v w'=>FrA w w' v (frP b at_))) ((A,n,c),at_,(b1,0),t,()) w2:=by
  intro t h1 h2
  refine jnC_mk (fun _=>vIf_mk (fun ht=>?_) (fun ht=>h2 ht))
  exact ansN_mk (N:=4) (cs:=[.int .i64 0,.int .u64 0,.slice none 0 0,.int .i64 0]) r1 rfl rfl z1 (fun w' g=>err 2 w' (h1 ht) (fr_var f1 hb1 g))
 refine vIf_mk (fun hlt=>two true (fun _=>frP_out (.inl (of_decide_eq_true hlt))) (fun h=>by cases h)) (fun hlt=>two _ (fun h=>frP_out (.inr (by have:=of_decide_eq_true h; omega))) (fun hgt=>jnC_mk (fun _=>?_)))
 have hlt:¬ at_ < 0:=of_decide_eq_false hlt
 have hgt:¬ at_ > (n:Int):=of_decide_eq_false hgt
 obtain ⟨a,rfl⟩:∃ a:Nat,at_=(a:Int):=⟨at_.toNat,by omega⟩
 clear two
 have han:a<=n:=by omega
 refine gd_mk (decide_eq_true (by show (0:Int)<=(a:Int); omega)) (gd_mk (decide_eq_true (by show (a:Int)<=(n:Int); omega)) ?_)
 dsimp only
 rw [Int.toNat_natCast]
 have hs:=f1.sl h (fun _ _ _ h=>h)
 have hr:=sl_drop hs han hc
 have hrl:(b.drop a).length=n - a:=by rw [List.length_drop,hl]
 have ferr:∀ e:Int,frG (b.drop a)=(e,0,0,[])->e ≠ 0->frP b (a:Int)=⟨e,0,0,[],0⟩:=fun e he h0=>frP_err (by omega) he h0
 have fok:∀ k sq d,frG (b.drop a)=(0,k,sq,d)->frP b (a:Int)=⟨0,k,sq,d,(a:Int)+21+(d.length:Int)⟩:=fun k sq d he=>frP_ok (by omega) he
 have hsub:∀ w',Fr (fun _=>False) w w'->Sl w' 1 (slA A c a 1) (n - a) ((b.drop a).map bv):=fun w' f=>sl_drop (f.sl h (fun _ _ _ h=>h)) han hc
 generalize hrd:b.drop a=r at hr hrl ferr fok hsub
 generalize hR:slA A c a 1=R at hr hsub ⊢
 refine vIf_mk (fun h17=>?_) (fun h17=>?_)
 ·have h17:((n - a:Nat):Int) < 17:=of_decide_eq_true h17
  exact ansN_mk (N:=4) (cs:=[.int .i64 0,.int .u64 0,.slice none 0 0,.int .i64 0]) r1 rfl rfl z1 (fun w' g=>err 4 w' (ferr 4 (frG_4 (by omega)) (by decide)) (fr_var f1 hb1 g))
 have h17:¬ ((n - a:Nat):Int) < 17:=of_decide_eq_false h17
 have g1:¬ r.length < 17:=by omega
 refine (rtake_calls R (n - a) (c - a) r 1 8 w2 hr (by omega)).mono ?_
 rintro e u ⟨rfl,rfl⟩
 refine ⟨_,_,rfl,(rtake_calls R (n - a) (c - a) r 9 4 u hr (by omega)).mono ?_⟩
 rintro e u ⟨rfl,rfl⟩
 refine ⟨_,_,rfl,(rtake_calls R (n - a) (c - a) r 13 4 u hr (by omega)).mono ?_⟩
 rintro e u ⟨rfl,rfl⟩
 refine ⟨_,_,rfl,gd_mk (decide_eq_true (by omega)) ?_⟩
 have t2:tkN r 1 8=sF r:=tk_eq (b:=r) (a:=1) (z:=8) (by omega)
 have t3:tkN r 9 4=zF r:=tk_eq (b:=r) (a:=9) (z:=4) (by omega)
 have t4:tkN r 13 4=leT ((r.drop 13).take 4):=tk_eq (b:=r) (a:=13) (z:=4) (by omega)
 rw [t2,t3,t4]
 have h0:=sl_zero hr (show n - a<=c - a by omega)
 refine (rcrc_calls _ 13 (c - a) (r.take 13) u (sl_take h0 (by omega)) (by omega)).mono ?_
 rintro e w3 ⟨rfl,f3⟩
 have r1:=r1.fr f3 (fun h=>h)
 have f13:=f1.trans1 f3
 refine ⟨_,rfl,?_⟩
 rw [crc_u64]
 refine vIf_mk (fun h5=>?_) (fun h5=>?_)
 ·have h5:¬ whF r 13:=by
   intro hw
   rw [hw] at h5; simp at h5
  exact ansN_mk (N:=4) (cs:=[.int .i64 0,.int .u64 0,.slice none 0 0,.int .i64 0]) r1 rfl rfl z1 (fun w' g=>err 5 w' (ferr 5 (frG_5 g1 h5) (by decide)) (fr_var f13 hb1 g))
 have g2:whF r 13:=by
  have:((leT ((r.drop 13).take 4):Nat):Int)=(((crcS (r.take 13)).toNat:Nat):Int):=by simpa using h5
  show leT ((r.drop 13).take 4)=_
  omega
 have k3:=zF_lt r
 have k1:=kF_lt r
 have hk0:kF r=(r[0]'(by omega)).toNat:=by
  show leT (r.take 1)=_
  have hc0:r.take 1=[r[0]'(by omega)]:=by
   have h0:r=r[0]'(by omega) :: r.drop 1:=by
    have:=List.drop_eq_getElem_cons (l:=r) (i:=0) (by omega)
    rwa [List.drop_zero] at this
   conv=>lhs; rw [h0]
   rfl
  rw [hc0]
  show _+256 * 0=_
  omega
 have ez:IntKind.wrap .i64 ((zF r:Nat):Int)=((zF r:Nat):Int):=i64_id (by omega) (by omega)
 obtain ⟨b',o',hA,hcl⟩:=le_get (hsub w3 f13) (i:=0) (by omega) (by omega)
 rw [<- hk0] at hcl
 have ek:IntKind.wrap .i64 ((kF r:Nat):Int)=((kF r:Nat):Int):=i64_id (by omega) (by omega)
 rw [hA]
 refine dr_mk (gd_mk (decide_eq_true (by omega)) ⟨_,by rw [show o'=o'+0 * 1 by omega]; exact hcl,?_⟩)
 dsimp only
 rw [ek,<- hA]
 have fin:∀ t:Bool,t=decide (kF r < 1\/kF r > 8\/zF r > 65536)->jnC (F31.k13 (fun v w'=>FrA w w' v (frP b (a:Int)))) ((a:Int),(b1,0),(R,n - a,c - a),((sF r:Nat):Int),((zF r:Nat):Int),((kF r:Nat):Int),t,()) w3:=by
  rintro t rfl
  refine jnC_mk (fun _=>vIf_mk (fun h3=>?_) (fun h3=>jnC_mk (fun _=>?_)))
  ·have h3:=of_decide_eq_true h3
   exact ansN_mk (N:=4) (cs:=[.int .i64 0,.int .u64 0,.slice none 0 0,.int .i64 0]) r1 rfl rfl z1 (fun w' g=>err 3 w' (ferr 3 (frG_3 g1 g2 h3) (by decide)) (fr_var f13 hb1 g))
  have g3:=of_decide_eq_false h3
  have e21:IntKind.wrap .i64 (((n - a:Nat):Int) - 21)=((n - a:Nat):Int) - 21:=i64_id (by omega) (by omega)
  have e17:IntKind.wrap .i64 (17+((zF r:Nat):Int))=((17+zF r:Nat):Int):=by rw [i64_id (by omega) (by omega)]; omega
  have e21':IntKind.wrap .i64 (21+((zF r:Nat):Int))=((21+zF r:Nat):Int):=by rw [i64_id (by omega) (by omega)]; omega
  unfold F31.k14c
  dsimp only
  rw [ez,e21,e17,e21',Int.toNat_natCast,Int.toNat_natCast,show 17+zF r - 17=zF r by omega]
  refine vIf_mk (fun h4=>?_) (fun h4=>?_)
  ·have h4:((n - a:Nat):Int) - 21 < ((zF r:Nat):Int):=of_decide_eq_true h4
   exact ansN_mk (N:=4) (cs:=[.int .i64 0,.int .u64 0,.slice none 0 0,.int .i64 0]) r1 rfl rfl z1 (fun w' g=>err 4 w' (ferr 4 (frG_4' g1 g2 g3 (by omega)) (by decide)) (fr_var f13 hb1 g))
  have h4:¬ ((n - a:Nat):Int) - 21 < ((zF r:Nat):Int):=of_decide_eq_false h4
  refine gd_mk (decide_eq_true (by omega)) (gd_mk (decide_eq_true (by omega)) (gd_mk (decide_eq_true (by omega)) (gd_mk (decide_eq_true (by omega)) (gd_mk (decide_eq_true (by omega)) ?_))))
  have fd:Fr (fun _=>False) w3 w3.drew:=Fr.drew _ _
  have f1d:=f13.trans1 fd
  have r1:=r1.fr fd (fun h=>h)
  have hdat:∀ w',Fr (fun _=>False) w w'->Sl w' 1 (slA R (c - a) 17 1) (zF r) (((r.drop 17).take (zF r)).map bv):=fun w' f=>sl_take (sl_drop (hsub w' f) (by omega) (by omega)) (by omega)
  have hdl:((r.drop 17).take (zF r)).length=zF r:=by rw [List.length_take,List.length_drop]; omega
  refine (rmake_calls (kF r) (sF r) _ (zF r) (c - a - 17) _ w3.drew (hdat _ f1d) (by omega) (by omega) (sF_lt r)).mono ?_
  rintro e w4 ⟨A4,c4,rfl,h4'⟩
  have r1:=r1.fr h4'.1 (fun h=>h)
  have f14:=f1d.trans1 h4'.1
  refine ⟨A4,_,c4,rfl,(same_calls A4 (21+zF r) c4 _ _ (21+zF r) (c - a) (r.take (21+zF r)) w4 h4'.sl (sl_take (sl_zero (hsub w4 f14) (by omega)) (by omega)) (by omega)).mono ?_⟩
  rintro e w5 ⟨rfl,f5⟩
  have r1:=r1.fr f5 (fun h=>h)
  have f15:=f14.trans1 f5
  refine ⟨_,rfl,vIf_mk (fun hw=>?_) (fun hw=>?_)⟩
  ·have hw:¬ whF r (17+zF r):=by
    intro hw'
    rw [(mkF_iff (by omega) g2).2 hw'] at hw
    simp at hw
   exact ansN_mk (N:=4) (cs:=[.int .i64 0,.int .u64 0,.slice none 0 0,.int .i64 0]) r1 rfl rfl z1 (fun w' g=>err 5 w' (ferr 5 (frG_5' g1 g2 g3 (by omega) hw) (by decide)) (fr_var f15 hb1 g))
  ·have hw:whF r (17+zF r):=by
    refine (mkF_iff (by omega) g2).1 ?_
    have:(mkF (kF r) (sF r) ((r.drop 17).take (zF r)) == r.take (21+zF r))=true:=by simpa using hw
    exact eq_of_beq this
   have hok:=fok _ _ _ (frG_0 g1 g2 g3 (by omega) hw)
   have ea:IntKind.wrap .i64 ((a:Int)+21)=(a:Int)+21:=i64_id (by omega) (by omega)
   have ez':IntKind.wrap .i64 ((a:Int)+21+((zF r:Nat):Int))=(a:Int)+21+(((r.drop 17).take (zF r)).length:Int):=by rw [hdl,i64_id (by omega) (by omega)]
   rw [ea,ez']
   refine gd_mk (decide_eq_true (by omega)) (gd_mk (decide_eq_true (by omega)) (gd_mk (decide_eq_true (by omega)) ?_))
   refine ansN_mk (N:=4) (cs:=frC ⟨0,kF r,sF r,(r.drop 17).take (zF r),(a:Int)+21+(((r.drop 17).take (zF r)).length:Int)⟩ (slA R (c - a) 17 1) (zF r) (c - a - 17)) r1 rfl rfl (frC_one _ _ _ _) (fun w' g=>?_)
   have ff:=fr_var f15 hb1 g
   rw [hok]
   exact ⟨ff,_,_,_,rfl,hdat _ ff,by omega⟩
 refine vIf_mk (fun h6=>fin _ ?_) (fun h6=>vIf_mk (fun h7=>fin _ ?_) (fun h7=>fin _ ?_))
 ·have h6:((kF r:Nat):Int)=0:=by simpa using h6
  exact (decide_eq_true (.inl (by omega))).symm
 ·have h7:((kF r:Nat):Int) > 8:=of_decide_eq_true h7
  exact (decide_eq_true (.inr (.inl (by omega)))).symm
 ·have h6:¬ ((kF r:Nat):Int)=0:=by simpa using h6
  have h7:¬ ((kF r:Nat):Int) > 8:=of_decide_eq_false h7
  exact decide_eq_decide.2 (by omega)
theorem ndec_t {p:Prop} [Decidable p] (h:(!decide p)=true):¬ p:=by simpa using h
theorem ndec_f {p:Prop} [Decidable p] (h:(!decide p)=false):p:=by simpa using h
abbrev plainI (c:Int):Prop:=(97<=c/\c<=122)\/(48<=c/\c<=57)
abbrev extraI (c:Int):Prop:=c=46\/c=95\/c=45
theorem plain_calls (c:Int) (w:World):Calls Tryz.prog 132 #[.int .u8 c] w fun e w'=>e=.returned (.bool (decide (plainI c)))/\w'=w:=by
 refine (F132.of c w (Q:=fun v w'=>v=.bool (decide (plainI c))/\w'=w) ?_).mono (fun e w' ⟨v,he,hv,h⟩=>⟨by rw [he,hv],h⟩)
 refine vIf_mk (fun h1=>vIf_mk (fun h2=>⟨?_,rfl⟩) (fun h2=>vIf_mk (fun h3=>⟨?_,rfl⟩) (fun h3=>⟨?_,rfl⟩))) (fun h1=>vIf_mk (fun h3=>⟨?_,rfl⟩) (fun h3=>⟨?_,rfl⟩))
 ·have h1:=of_decide_eq_true h1; have h2:=of_decide_eq_true h2
  rw [decide_eq_true (p:=plainI c) (.inl ⟨h1,h2⟩)]
 ·have h1:=of_decide_eq_true h1; have h2:=of_decide_eq_false h2
  have h3:=of_decide_eq_true h3
  congr 1
  exact decide_eq_decide.2 ⟨fun h=>.inr ⟨h3,h⟩,fun h=>h.elim (fun h=>absurd h.2 h2) (fun h=>h.2)⟩
 ·have h1:=of_decide_eq_true h1; have h2:=of_decide_eq_false h2
  have h3:=of_decide_eq_false h3
  exact absurd (show c >= 48 by omega) h3
 ·have h1:=of_decide_eq_false h1
  have h3:=of_decide_eq_true h3
  congr 1
  exact decide_eq_decide.2 ⟨fun h=>.inr ⟨h3,h⟩,fun h=>h.elim (fun h=>absurd h.1 h1) (fun h=>h.2)⟩
 ·have h1:=of_decide_eq_false h1
  have h3:=of_decide_eq_false h3
  rw [decide_eq_false (p:=plainI c) (fun h=>h.elim (fun h=>h1 h.1) (fun h=>h3 h.1))]
theorem one_calls (c:Int) (s:ByteArray) (w:World) (hs:s.size<=1099511627775) :
  Calls Tryz.prog 66 #[.int .u8 c,.string s] w fun e w'=>(∃ t,e=.returned (.bool t)/\(t=true ↔ ∃ i,i < s.size/\byteAt s i=c))/\w'=w:=by
 refine (F66.of c s w (Q:=fun v w'=>(∃ t,v=.bool t/\(t=true ↔ ∃ i,i < s.size/\byteAt s i=c))/\w'=w) ?_).mono (fun e w' ⟨v,he,⟨t,hv,h⟩,h'⟩=>⟨⟨t,by rw [he,hv],h⟩,h'⟩)
 refine jnC_mk (loop_rule (fun p u=>u=w/\∃ i:Nat,i<=s.size/\p=(c,s,(i:Int),())/\∀ j,j < i->byteAt s j ≠ c) (fun p _=>(s.size - p.2.2.1).toNat) ?_ _ _ ⟨rfl,0,by omega,rfl,fun j hj=>by omega⟩)
 rintro p u C ⟨rfl,i,hi,rfl,hno⟩ hC _
 refine vIf_mk (fun hlt=>?_) (fun hge=>?_)
 ·have hlt2:(i:Int) < (s.size:Int):=of_decide_eq_true hlt
  refine gd_mk (decide_eq_true (by show (0:Int)<=(i:Int); omega)) (gd_mk hlt (vIf_mk (fun he=>?_) (fun he=>?_)))
  ·have he:byteAt s i=c:=by simpa using he
   exact ⟨⟨true,rfl,⟨fun _=>⟨i,by omega,he⟩,fun _=>rfl⟩⟩,rfl⟩
  ·have he:byteAt s i ≠ c:=by simpa using he
   refine jnC_mk (hC _ _ ⟨rfl,i+1,by omega,by rw [ei i (by omega)],fun j hj=>?_⟩ ?_)
   ·by_cases hji:j=i
    ·subst hji; exact he
    ·exact hno j (by omega)
   ·show ((s.size:Int) - IntKind.wrap .i64 ((i:Int)+1)).toNat < ((s.size:Int) - (i:Int)).toNat
    rw [ei i (by omega)]; omega
 ·have hge2:¬ (i:Int) < (s.size:Int):=of_decide_eq_false hge
  exact ⟨⟨false,rfl,⟨(fun h=>by cases h),fun ⟨j,hj,hje⟩=>absurd hje (hno j (by omega))⟩⟩,rfl⟩
def firstS:ByteArray:=⟨#[97,98,99,100,101,102,103,104,105,106,107,108,109,110,111,112,113,114,115,116,117,118,119,120,121,122,48,49,50,51,52,53,54,55,56,57]⟩
theorem first_at:∀ i,i < 36->byteAt firstS i=if i < 26 then 97+(i:Int) else 48+((i - 26:Nat):Int):=by decide
theorem first_iff (c:Int):(∃ i,i < firstS.size/\byteAt firstS i=c) ↔ plainI c:=by
 have hs:firstS.size=36:=rfl
 rw [hs]
 constructor
 ·rintro ⟨i,hi,he⟩
  rw [first_at i hi] at he
  split at he
  ·left; omega
  ·right; omega
 ·rintro (h | h)
  ·exact ⟨(c - 97).toNat,by omega,by rw [first_at _ (by omega),if_pos (by omega)]; omega⟩
  ·exact ⟨26+(c - 48).toNat,by omega,by rw [first_at _ (by omega),if_neg (by omega)]; omega⟩
def extraS:ByteArray:=⟨#[46,95,45]⟩
theorem extra_iff (c:Int):(∃ i,i < extraS.size/\byteAt extraS i=c) ↔ extraI c:=by
 have hs:extraS.size=3:=rfl
 have h0:byteAt extraS 0=46:=by decide
 have h1:byteAt extraS 1=95:=by decide
 have h2:byteAt extraS 2=45:=by decide
 rw [hs]
 constructor
 ·rintro ⟨i,hi,he⟩
  match i,hi with
  | 0,_=>left; rw [<- he,h0]
  | 1,_=>right; left; rw [<- he,h1]
  | 2,_=>right; right; rw [<- he,h2]
 ·rintro (h | h | h)
  ·exact ⟨0,by omega,by rw [h0,h]⟩
  ·exact ⟨1,by omega,by rw [h1,h]⟩
  ·exact ⟨2,by omega,by rw [h2,h]⟩
def tagOk (s:ByteArray) (i:Nat):Prop:=plainI (byteAt s i)\/(i ≠ 0/\extraI (byteAt s i))
def TagP (s:ByteArray):Prop:=(∀ i,i < s.size->tagOk s i)/\1<=s.size/\s.size<=32
theorem tag_calls (s:ByteArray) (w:World) (hs:s.size<=1099511627775) :
  Calls Tryz.prog 112 #[.string s] w fun e w'=>(∃ t,e=.returned (.bool t)/\(t=true ↔ TagP s))/\w'=w:=by
 refine (F112.of s w (Q:=fun v w'=>(∃ t,v=.bool t/\(t=true ↔ TagP s))/\w'=w) ?_).mono (fun e w' ⟨v,he,⟨t,hv,h⟩,h'⟩=>⟨⟨t,by rw [he,hv],h⟩,h'⟩)
 have no:∀ u:World,u=w->¬ TagP s->(∃ t,Value.bool false=.bool t/\(t=true ↔ TagP s))/\u=w:=fun u hu h=>⟨⟨false,rfl,⟨(fun h=>by cases h),fun h'=>absurd h' h⟩⟩,hu⟩
 refine vIf_mk (fun h0=>no w rfl ?_) (fun h0=>vIf_mk (fun h32=>no w rfl ?_) (fun h32=>?_))
 ·rw [nil_iff] at h0
  have:=of_decide_eq_true h0
  intro h
  have:=h.2.1
  omega
 ·have h32:=of_decide_eq_true h32
  intro h
  have:=h.2.2
  omega
 ·rw [nil_iff] at h0
  have h0:=of_decide_eq_false h0
  have h32:=of_decide_eq_false h32
  refine gd_mk (decide_eq_true (by omega)) ((plain_calls _ w).mono ?_)
  rintro e u ⟨rfl,rfl⟩
  refine ⟨_,rfl,vIf_mk (fun hp=>no u rfl ?_) (fun hp=>jnC_mk (fun _=>jnC_mk ?_))⟩
  ·have hp:¬ plainI (byteAt s 0):=ndec_t hp
   intro h
   rcases h.1 0 (by omega) with h' | h'
   ·exact hp h'
   ·exact h'.1 rfl
  ·have hp:plainI (byteAt s 0):=ndec_f hp
   refine loop_rule (fun p v=>v=u/\∃ i:Nat,i<=s.size/\p=(s,(s.size:Int),(i:Int),())/\∀ j,j < i->tagOk s j) (fun p _=>(s.size - p.2.2.1).toNat) ?_ _ _ ⟨rfl,0,by omega,rfl,fun j hj=>by omega⟩
   rintro p v C ⟨rfl,i,hi,rfl,hall⟩ hC _
   refine vIf_mk (fun hlt=>?_) (fun hge=>?_)
   ·have hlt2:(i:Int) < (s.size:Int):=of_decide_eq_true hlt
    refine gd_mk (decide_eq_true (by show (0:Int)<=(i:Int); omega)) (gd_mk hlt ((plain_calls _ v).mono ?_))
    rintro e v2 ⟨rfl,rfl⟩
    have next:tagOk s i->jnC C (s,(s.size:Int),IntKind.wrap .i64 ((i:Int)+1),()) v2:=fun hok=>by
     refine jnC_mk (hC _ _ ⟨rfl,i+1,by omega,by rw [ei i (by omega)],fun j hj=>?_⟩ ?_)
     ·by_cases hji:j=i
      ·subst hji; exact hok
      ·exact hall j (by omega)
     ·show ((s.size:Int) - IntKind.wrap .i64 ((i:Int)+1)).toNat < ((s.size:Int) - (i:Int)).toNat
      rw [ei i (by omega)]; omega
    refine ⟨_,rfl,vIf_mk (fun hn=>?_) (fun hy=>next (.inl (ndec_f hy)))⟩
    have hn:¬ plainI (byteAt s i):=ndec_t hn
    have hi0:i ≠ 0:=fun h=>by subst h; exact hn hp
    refine vIf_mk (fun h1=>vIf_mk (fun h2=>vIf_mk (fun h3=>no v2 rfl ?_) (fun h3=>next (.inr ⟨hi0,.inr (.inr (by simpa using h3))⟩))) (fun h2=>next (.inr ⟨hi0,.inr (.inl (by simpa using h2))⟩))) (fun h1=>next (.inr ⟨hi0,.inl (by simpa using h1)⟩))
    have h1:byteAt s i ≠ 46:=by simpa using h1
    have h2:byteAt s i ≠ 95:=by simpa using h2
    have h3:byteAt s i ≠ 45:=by simpa using h3
    intro h
    rcases h.1 i (by omega) with h' | ⟨_,h' | h' | h'⟩
    ·exact hn h'
    ·exact h1 h'
    ·exact h2 h'
    ·exact h3 h'
   ·have hge2:¬ (i:Int) < (s.size:Int):=of_decide_eq_false hge
    exact ⟨⟨true,rfl,⟨fun _=>⟨fun j hj=>hall j (by omega),by omega,by omega⟩,fun _=>rfl⟩⟩,rfl⟩
theorem rtag_calls (s:ByteArray) (w:World) (hs:s.size<=1099511627775) :
  Calls Tryz.prog 35 #[.string s] w fun e w'=>(∃ t,e=.returned (.bool t)/\(t=true ↔ TagP s))/\w'=w:=by
 refine (F35.of s w (Q:=fun v w'=>(∃ t,v=.bool t/\(t=true ↔ TagP s))/\w'=w) ?_).mono (fun e w' ⟨v,he,⟨t,hv,h⟩,h'⟩=>⟨⟨t,by rw [he,hv],h⟩,h'⟩)
 have no:∀ u:World,u=w->¬ TagP s->(∃ t,Value.bool false=.bool t/\(t=true ↔ TagP s))/\u=w:=fun u hu h=>⟨⟨false,rfl,⟨(fun h=>by cases h),fun h'=>absurd h' h⟩⟩,hu⟩
 refine jnC_mk (loop_rule (fun p v=>v=w/\∃ i:Nat,i<=s.size/\p=(s,firstS,(i:Int),())/\∀ j,j < i->tagOk s j) (fun p _=>(s.size - p.2.2.1).toNat) ?_ _ _ ⟨rfl,0,by omega,rfl,fun j hj=>by omega⟩)
 rintro p v C ⟨rfl,i,hi,rfl,hall⟩ hC _
 refine vIf_mk (fun hlt=>?_) (fun hge=>?_)
 ·have hlt2:(i:Int) < (s.size:Int):=of_decide_eq_true hlt
  have next:tagOk s i->jnC C (s,firstS,IntKind.wrap .i64 ((i:Int)+1),()) v:=fun hok=>by
   refine jnC_mk (hC _ _ ⟨rfl,i+1,by omega,by rw [ei i (by omega)],fun j hj=>?_⟩ ?_)
   ·by_cases hji:j=i
    ·subst hji; exact hok
    ·exact hall j (by omega)
   ·show ((s.size:Int) - IntKind.wrap .i64 ((i:Int)+1)).toNat < ((s.size:Int) - (i:Int)).toNat
    rw [ei i (by omega)]; omega
  refine gd_mk (decide_eq_true (by show (0:Int)<=(i:Int); omega)) (gd_mk hlt ((one_calls _ firstS v (by decide)).mono ?_))
  rintro e v2 ⟨⟨t,rfl,ht⟩,rfl⟩
  rw [first_iff] at ht
  refine ⟨_,rfl,vIf_mk (fun hn=>vIf_mk (fun hi0=>no v2 rfl ?_) (fun hi0=>?_)) (fun hy=>next (.inl (ht.1 (by simpa using hy))))⟩
  ·have hi0:i=0:=by simpa using hi0
   have hn:t=false:=by simpa using hn
   intro h
   rcases h.1 i (by omega) with h' | h'
   ·rw [ht.2 h'] at hn; cases hn
   ·exact h'.1 hi0
  ·have hi0:i ≠ 0:=by simpa using hi0
   have hn:t=false:=by simpa using hn
   refine gd_mk (decide_eq_true (by show (0:Int)<=(i:Int); omega)) (gd_mk hlt ((one_calls _ extraS v2 (by decide)).mono ?_))
   rintro e v3 ⟨⟨t2,rfl,ht2⟩,rfl⟩
   rw [extra_iff] at ht2
   refine ⟨_,rfl,vIf_mk (fun hn2=>no v3 rfl ?_) (fun hy=>next (.inr ⟨hi0,ht2.1 (by simpa using hy)⟩))⟩
   have hn2:t2=false:=by simpa using hn2
   intro h
   rcases h.1 i (by omega) with h' | h'
   ·rw [ht.2 h'] at hn; cases hn
   ·rw [ht2.2 h'.2] at hn2; cases hn2
 ·have hge2:¬ (i:Int) < (s.size:Int):=of_decide_eq_false hge
  refine vIf_mk (fun h1=>⟨⟨_,rfl,?_⟩,rfl⟩) (fun h1=>no v rfl ?_)
  ·have h1:(s.size:Int) >= 1:=of_decide_eq_true h1
   show decide ((s.size:Int)<=32)=true ↔ _
   rw [decide_eq_true_iff]
   exact ⟨fun h=>⟨fun j hj=>hall j (by omega),by omega,by omega⟩,fun h=>by have:=h.2.2; omega⟩
  ·have h1:¬ (s.size:Int) >= 1:=of_decide_eq_false h1
   intro h
   have:=h.2.1
   omega
instance (s:ByteArray):Decidable (TagP s):=by
 unfold TagP tagOk
 infer_instance
end Go.Proofs.YtodmachaofepkaaGreatDoor
namespace Go.Proofs.YtodmachaofepkaaGreatDoor
open Go.GV
structure Rc where
 k:Int
 sq:Nat
 d:List UInt8
 nm:List UInt8
 dat:List UInt8
 n:Int
 z:Int
def z32:List UInt8:=List.replicate 32 0
def rc0:Rc:=⟨0,0,z32,[],[],0,0⟩
def stil:List UInt8:=[115,116,105,108,108,97,103,101]
def nuR (x:Nat):Int:=if x < 4294967296 then (x:Int) else 0
def rdR (k sq:Nat) (b:List UInt8):Option Rc :=
 if k=3\/k=4 then
  match txP b 0 with
  | none=>none
  | some (s,e) =>
   if k=4 then (if (b.drop e.toNat).length=0 then some ⟨4,sq,z32,s,[],0,0⟩ else none)
   else (if (b.drop e.toNat).length=32 then some ⟨3,sq,b.drop e.toNat,s,[],0,0⟩ else none)
 else if k=5 then (if b.length=32 then some ⟨5,sq,b,[],[],0,0⟩ else none)
 else if k=1\/k=2 then (if 32<=b.length then some ⟨k,sq,b.take 32,[],b.drop 32,0,0⟩ else none)
 else if k=7 then (if b.length=16/\b.take 8=stil then some ⟨7,sq,z32,[],[],nuR (leT (b.drop 8)),0⟩ else none)
 else (if b.length=8 then some ⟨k,sq,z32,[],[],leT (b.take 4),leT (b.drop 4)⟩ else none)
def rgR (x:Rc):Int :=
 if x.k < 1\/x.k > 8 then 2
 else if x.k<=2/\x.dat.length > 65504 then 18
 else if (x.k=3\/x.k=4)/\¬ TagP ⟨x.nm.toArray⟩ then 12
 else if (x.k=6\/x.k=8)/\(x.n < 0\/x.n > 4294967295\/x.z < 0\/x.z > 4294967295) then 20
 else if x.k=7/\(x.n < 1\/x.n > 99999999) then 20
 else 0
def recP (b:List UInt8) (at_:Int):Rc×Int×Int :=
 if (frP b at_).e ≠ 0 then (rc0,0,(frP b at_).e)
 else match rdR (frP b at_).k (frP b at_).sq (frP b at_).d with
  | none=>(rc0,0,3)
  | some x=>if rgR x ≠ 0 then (rc0,0,rgR x) else (x,(frP b at_).z,0)
theorem z32_len:z32.length=32:=by simp [z32]
theorem rdR_len {k sq:Nat} {b:List UInt8} {x:Rc} (h:rdR k sq b=some x):x.d.length=32:=by
 unfold rdR at h
 split at h
 ·split at h
  ·cases h
  ·split at h
   ·split at h
    ·cases h; exact z32_len
    ·cases h
   ·split at h
    ·rename_i h1; cases h; exact h1
    ·cases h
 ·split at h
  ·split at h
   ·rename_i h1; cases h; exact h1
   ·cases h
  ·split at h
   ·split at h
    ·rename_i h1; cases h; show (b.take 32).length=32; rw [List.length_take]; omega
    ·cases h
   ·split at h
    ·split at h
     ·cases h; exact z32_len
     ·cases h
    ·split at h
     ·cases h; exact z32_len
     ·cases h
theorem recP_len (b:List UInt8) (at_:Int):(recP b at_).1.d.length=32:=by
 unfold recP
 split
 ·exact z32_len
 ·split
  ·exact z32_len
  ·rename_i x h
   split
   ·exact z32_len
   ·exact rdR_len h
def rcC (x:Rc) (A:Option Addr) (n c:Nat):List Value:=[.int .i64 x.k,.int .u64 (x.sq:Nat)] ++ (x.d.map bv ++ [.string ⟨x.nm.toArray⟩,.slice A n c,.int .i64 x.n,.int .i64 x.z])
theorem rcC_len {x:Rc} (h:x.d.length=32) (A:Option Addr) (n c:Nat):(rcC x A n c).length=38:=by
 simp [rcC,h]
theorem rcC_one (x:Rc) (A:Option Addr) (n c:Nat):∀ v ∈ rcC x A n c,v.oneCell'=true:=by
 intro v hv
 unfold rcC at hv
 rcases List.mem_append.1 hv with h | h
 ·simp only [List.mem_cons,List.not_mem_nil,or_false] at h
  rcases h with rfl | rfl <;> rfl
 ·rcases List.mem_append.1 h with h | h
  ·exact bvs_one _ v h
  ·simp only [List.mem_cons,List.not_mem_nil,or_false] at h
   rcases h with rfl | rfl | rfl | rfl <;> rfl
theorem rcC_end {x:Rc} (h:x.d.length=32) (A:Option Addr) (n c j:Nat):(rcC x A n c)[34+j]?=([Value.string ⟨x.nm.toArray⟩,.slice A n c,.int .i64 x.n,.int .i64 x.z]:List Value)[j]?:=by
 unfold rcC
 rw [List.getElem?_append_right (show 2<=34+j by omega),List.getElem?_append_right (by simp [h]; omega)]
 congr 1
 simp [h]; omega
theorem rcC_d {x:Rc} (h:x.d.length=32) (A:Option Addr) (n c j:Nat) (v:Value) (hv:(x.d.map bv)[j]?=some v):(rcC x A n c)[2+j]?=some v:=by
 have hj:=(List.getElem?_eq_some_iff.1 hv).1
 unfold rcC
 rw [List.getElem?_append_right (by simp),List.getElem?_append_left (by simpa using hj)]
 rw [<- hv]; congr 1; simp
theorem splice_app {a b c vs:List Value} {o:Nat} (ha:a.length=o) (hb:vs.length=b.length):splice (a ++ (b ++ c)) o vs=a ++ (vs ++ c):=by
 unfold splice
 subst ha
 rw [List.take_left,<- List.drop_drop,List.drop_left,hb,List.drop_left,List.append_assoc]
theorem rcC_std {x:Rc} (h:x.d.length=32) (A:Option Addr) (n c:Nat) {d:List UInt8} (hd:d.length=32):splice (rcC x A n c) 2 (d.map bv)=rcC { x with d:=d } A n c:=by
 unfold rcC
 exact splice_app rfl (by simp [h,hd])
theorem rcC_stn {x:Rc} (h:x.d.length=32) (A:Option Addr) (n c:Nat) (s:List UInt8):splice (rcC x A n c) 34 [.string ⟨s.toArray⟩]=rcC { x with nm:=s } A n c:=by
 have e:rcC x A n c=([.int .i64 x.k,.int .u64 (x.sq:Nat)] ++ x.d.map bv) ++ ([.string ⟨x.nm.toArray⟩] ++ [.slice A n c,.int .i64 x.n,.int .i64 x.z]):=by unfold rcC; simp
 rw [e,splice_app (by simp [h]) (by simp)]
 unfold rcC; simp
theorem rcC_sta {x:Rc} (h:x.d.length=32) (A:Option Addr) (n c:Nat) (A':Option Addr) (n' c':Nat):splice (rcC x A n c) 35 [.slice A' n' c']=rcC x A' n' c':=by
 have e:rcC x A n c=([.int .i64 x.k,.int .u64 (x.sq:Nat)] ++ x.d.map bv ++ [.string ⟨x.nm.toArray⟩]) ++ ([.slice A n c] ++ [.int .i64 x.n,.int .i64 x.z]):=by unfold rcC; simp
 rw [e,splice_app (by simp [h]) (by simp)]
 unfold rcC; simp
theorem rcC_stm {x:Rc} (h:x.d.length=32) (A:Option Addr) (n c:Nat) (m:Int):splice (rcC x A n c) 36 [.int .i64 m]=rcC { x with n:=m } A n c:=by
 have e:rcC x A n c=([.int .i64 x.k,.int .u64 (x.sq:Nat)] ++ x.d.map bv ++ [.string ⟨x.nm.toArray⟩,.slice A n c]) ++ ([.int .i64 x.n] ++ [.int .i64 x.z]):=by unfold rcC; simp
 rw [e,splice_app (by simp [h]) (by simp)]
 unfold rcC; simp
theorem rcC_stz {x:Rc} (h:x.d.length=32) (A:Option Addr) (n c:Nat) (m:Int):splice (rcC x A n c) 37 [.int .i64 m]=rcC { x with z:=m } A n c:=by
 have e:rcC x A n c=([.int .i64 x.k,.int .u64 (x.sq:Nat)] ++ x.d.map bv ++ [.string ⟨x.nm.toArray⟩,.slice A n c,.int .i64 x.n]) ++ ([.int .i64 x.z] ++ []):=by unfold rcC; simp
 rw [e,splice_app (by simp [h]) (by simp)]
 unfold rcC; simp
end Go.Proofs.YtodmachaofepkaaGreatDoor
namespace Go.Proofs.YtodmachaofepkaaGreatDoor
open Go.GV Go.RowKit Go.Lib
theorem rcC_stp {x:Rc} (h:x.d.length=32) (A:Option Addr) (n c:Nat) {d:List UInt8} (hd:d.length<=32):splice (rcC x A n c) 2 (d.map bv)=rcC { x with d:=d ++ x.d.drop d.length } A n c:=by
 have e:rcC x A n c=[.int .i64 x.k,.int .u64 (x.sq:Nat)] ++ ((x.d.take d.length).map bv ++ ((x.d.drop d.length).map bv ++ [.string ⟨x.nm.toArray⟩,.slice A n c,.int .i64 x.n,.int .i64 x.z])):=by
  unfold rcC
  rw [<- List.append_assoc ((x.d.take d.length).map bv),<- List.map_append,List.take_append_drop]
 rw [e,splice_app (o:=2) rfl (by simp [h]; omega)]
 unfold rcC
 rw [List.map_append,List.append_assoc]
theorem cpy_rec {w:World} {b:Nat} {e:TypeId} {cs:List Value} {o N:Nat} {A:Option Addr} {n c:Nat} {l:List UInt8} {K:Nat->World->Prop} (r:RecAt w b e cs) (ho:o+N<=cs.length) (hs:Sl w 1 A n (l.map bv))
  (hK:∀ w',RecAt w' b e (splice cs o ((l.take (min n N)).map bv))->Fr (fun k=>k=b) w w'->K (min n N) w'):cpy w 1 (some ⟨b,o,none⟩) N (.slice A n c) K:=by
 have hl:=sl_len hs
 refine ⟨n,_,hs.src,fun h0=>?_,fun h0=>?_⟩
 ·have:=hK w (by rw [h0,List.take_zero,List.map_nil,splice_nil]; exact r) (Fr.refl _ _)
  rw [h0] at this; exact this
 ·show st w b o _ _
  rw [Nat.mul_one,<- List.map_take]
  exact r.st_mk (by rw [List.length_map,List.length_take]; omega) (bvs_one _) (fun r2 f2=>hK _ r2 f2)
theorem cp_mk {w:World} {b1 b3:Nat} {e e':TypeId} {cs old:List Value} {N:Nat} (r1:RecAt w b1 e cs) (hc:cs.length=N) (r3:RecAt w b3 e' old) (ho:old.length=N) (h1:∀ v ∈ cs,v.oneCell'=true) {K:List Value->World->Prop} (hK:∀ w',Fr (fun k=>k=b3) w w'->K cs w') :
  ldA N w b1 0 fun a=>gd (a.length == N) (st w b3 0 a fun w1=>ldA N w1 b3 0 fun a'=>K a' w1) :=
 ⟨cs,hc,rec_all r1,ansN_mk r3 ho hc h1 hK⟩
theorem num_calls (A:Option Addr) (n c:Nat) (b:List UInt8) (at_ size:Int) (w:World) (h:Sl w 1 A n (b.map bv)) (hn:n<=1099511627776) :
  Calls Tryz.prog 136 #[.slice A n c,.int .i64 at_,.int .i64 size] w fun e w'=>e=.returned (.int .i64 (nuR (tkN b at_ size)))/\w'=w:=by
 refine (F136.of A n c at_ size w (Q:=fun v w'=>v=.int .i64 (nuR (tkN b at_ size))/\w'=w) ?_).mono (fun e w' ⟨v,he,hv,h⟩=>⟨by rw [he,hv],h⟩)
 refine (take_calls A n c b at_ size w h hn).mono ?_
 rintro e u ⟨rfl,rfl⟩
 refine ⟨_,_,rfl,vIf_mk (fun h1=>⟨?_,rfl⟩) (fun h1=>⟨?_,rfl⟩)⟩
 ·have h1:((tkN b at_ size:Nat):Int) > 4294967295:=of_decide_eq_true h1
  unfold nuR
  rw [if_neg (by omega)]
 ·have h1:¬ ((tkN b at_ size:Nat):Int) > 4294967295:=of_decide_eq_false h1
  unfold nuR
  rw [if_pos (by omega),i64_id (by omega) (by omega)]
abbrev FiA (w w':World) (v:Value) (o:Option Rc):Prop:=Fr (fun _=>False) w w'/\∃ (y:Rc) (A:Option Addr) (n c:Nat),v=.tuple #[ofL (rcC y A n c),.bool o.isSome]/\y.d.length=32/\Sl w' 1 A n (y.dat.map bv)/\n<=c/\(∀ q,blkOf A=some q->w.heap.size<=q)/\∀ x,o=some x->y=x
theorem txP_some {b s:List UInt8} {e:Int} (h:txP b 0=some (s,e)):1<=e/\e<=(b.length:Int):=by
 unfold txP at h
 split at h
 ·rename_i h1
  cases h
  have:=h1.2
  omega
 ·cases h
set_option maxHeartbeats 4000000 in
theorem fill_calls (k sq:Nat) (A:Option Addr) (n c:Nat) (b:List UInt8) (w:World) (h:Sl w 1 A n (b.map bv)) (hc:n<=c) (hn:n<=1099511627776) :
  Calls Tryz.prog 114 #[ofL (rcC ⟨(k:Nat),sq,z32,[],[],0,0⟩ none 0 0),.slice A n c] w fun e w'=>∃ v,e=.returned v/\FiA w w' v (rdR k sq b):=by
 have hl:=sl_len h
 refine F114.of _ A n c w (Q:=fun v w'=>FiA w w' v (rdR k sq b)) ?_
 generalize hy0:(⟨(k:Nat),sq,z32,[],[],0,0⟩:Rc)=y0
 have d0:y0.d.length=32:=by rw [<- hy0]; exact z32_len
 have dat0:y0.dat=[]:=by rw [<- hy0]
 have k0:y0.k=(k:Int):=by rw [<- hy0]
 refine rec_new (fun b1 w2 f1 hb1 r1=>rec_new (fun b3 w4 f3 hb3 r3=>?_))
 have r1:=r1.fr f3 (fun h=>h)
 have f13:=f1.trans1 f3
 have hb3':w.heap.size<=b3:=by have:=f1.size; omega
 have hne:b1 ≠ b3:=by
  have:=RecAt.lt (w:=w2) (by assumption:RecAt w2 b1 _ _)
  omega
 have Z38:Z48.length=38:=rfl
 have hs4:=f13.sl h (fun _ _ _ h=>h)
 refine ⟨_,r1.cell (o:=0) (v:=.int .i64 (k:Nat)) (by rw [<- k0]; rfl),?_⟩
 have ans:∀ (u:World) (y:Rc) (A':Option Addr) (n' c':Nat) (t:Bool),Fr (fun _=>False) w u->RecAt u b1 48 (rcC y A' n' c')->RecAt u b3 48 Z48->y.d.length=32->Sl u 1 A' n' (y.dat.map bv)->(∀ q,blkOf A'=some q->q ≠ b3)->(∀ q,blkOf A'=some q->w.heap.size<=q)->n'<=c'->t=(rdR k sq b).isSome->(∀ x,rdR k sq b=some x->y=x) ->
   ldA 38 u b1 0 fun a=>gd (a.length == 38) (st u b3 0 a fun w1=>ldA 38 w1 b3 0 fun a'=>FiA w w1 (.tuple #[ofL a',.bool t]) (rdR k sq b)):=by
  rintro u y A' n' c' t fu q1 q3 hy hA hB hF hle rfl hx
  refine cp_mk (N:=38) (K:=fun a' w1=>FiA w w1 (.tuple #[ofL a',.bool (rdR k sq b).isSome]) (rdR k sq b)) q1 (rcC_len hy _ _ _) q3 Z38 (rcC_one _ _ _ _) (fun w' g=>⟨fr_var fu hb3' g,y,A',n',c',rfl,hy,g.sl hA (fun _ k hk he=>hB k hk he),hle,hF,hx⟩)
 have nilB:∀ q,blkOf none=some q->q ≠ b3:=fun q hq=>by cases hq
 have nilF:∀ q,blkOf none=some q->w.heap.size<=q:=fun q hq=>by cases hq
 have k14:∀ (u:World) (y:Rc) (A1:Option Addr) (n1 c1:Nat) (l:List UInt8),Fr (fun _=>False) w u->RecAt u b1 48 (rcC y none 0 0)->RecAt u b3 48 Z48->y.d.length=32->y.dat=[]->Sl u 1 A1 n1 (l.map bv)->(rdR k sq b=if l.length=32 then some { y with d:=l } else none) ->
   jnC (F114.k14 (fun v w'=>FiA w w' v (rdR k sq b))) ((A1,n1,c1),(b1,0),(b3,0),()) u:=by
  intro u y A1 n1 c1 l fu q1 q3 hy hyd hS hrd
  have hln:=sl_len hS
  refine jnC_mk (fun _=>cpy_rec (o:=2) q1 (by rw [rcC_len hy]; omega) hS (fun w' q1' g=>?_))
  rw [rcC_stp hy _ _ _ (by rw [List.length_take]; omega)] at q1'
  have q3':=q3.fr g (fun h=>hne h.symm)
  refine ans w' _ none 0 0 _ (fr_var fu hb1 g) q1' q3' ?_ (by show Sl w' 1 none 0 (y.dat.map bv); rw [hyd]; exact Sl.nil _ _ _) nilB nilF (Nat.le_refl _) ?_ ?_
  ·show (_ ++ _:List UInt8).length=32
   rw [List.length_append,List.length_drop,List.length_take,hy]; omega
  ·rw [hrd]
   by_cases h32:l.length=32
   ·rw [if_pos h32]
    have:n1=32:=by omega
    subst this; rfl
   ·rw [if_neg h32]
    show ((n1:Int) == 32)=false
    rw [beq_eq_false_iff_ne]; omega
  ·intro x hx
   rw [hrd] at hx
   split at hx
   ·rename_i h32
    cases hx
    have e1:l.take (min n1 32)=l:=List.take_of_length_le (by omega)
    rw [e1,List.drop_of_length_le (by omega),List.append_nil]
   ·cases hx
 have k8:(k=3\/k=4)->jnC (F114.k8 (fun v w'=>FiA w w' v (rdR k sq b))) ((A,n,c),(b1,0),(b3,0),()) w4:=by
  intro h34
  refine jnC_mk (fun _=>(text_calls A n c b 0 w4 hs4 hc hn ⟨by omega,by omega⟩).mono ?_)
  rintro e u ⟨rfl,rfl⟩
  have hrd:rdR k sq b=match txP b 0 with
   | none=>none
   | some (s,e)=>if k=4 then (if (b.drop e.toNat).length=0 then some ⟨4,sq,z32,s,[],0,0⟩ else none) else (if (b.drop e.toNat).length=32 then some ⟨3,sq,b.drop e.toNat,s,[],0,0⟩ else none):=by
   unfold rdR
   exact if_pos h34
  cases ht:txP b 0 with
  | none =>
   rw [ht] at hrd
   refine ⟨_,_,_,rfl,vIf_t rfl ?_⟩
   exact ans u y0 none 0 0 false f13 r1 r3 d0 (by rw [dat0]; exact Sl.nil _ _ _) nilB nilF (Nat.le_refl _) (by rw [hrd]; rfl) (fun x hx=>by rw [hrd] at hx; cases hx)
  | some p =>
   obtain ⟨s,e⟩:=p
   rw [ht] at hrd
   dsimp only at hrd
   obtain ⟨he1,he2⟩:=txP_some ht
   obtain ⟨a,rfl⟩:∃ a:Nat,e=(a:Int):=⟨e.toNat,by omega⟩
   rw [Int.toNat_natCast] at hrd
   refine ⟨_,_,_,rfl,vIf_f rfl (gd_mk (decide_eq_true (by omega)) (gd_mk (decide_eq_true (by show (a:Int)<=(n:Int); omega)) ?_))⟩
   have fd:Fr (fun _=>False) u u.drew:=Fr.drew _ _
   have r1:=r1.fr fd (fun h=>h)
   have r3:=r3.fr fd (fun h=>h)
   have fud:=f13.trans1 fd
   refine r1.st_mk (o:=34) (vs:=[.string ⟨s.toArray⟩]) (by rw [rcC_len d0]; show 34+1<=38; omega) (fun v hv=>by simp at hv; subst hv; rfl) (fun r1' g=>?_)
   rw [rcC_stn d0] at r1'
   have r3:=r3.fr g (fun h=>hne h.symm)
   have f4:=fr_var fud hb1 g
   generalize stB u.drew b1 34 [Value.string ⟨s.toArray⟩]=u2 at r1' r3 f4
   refine ⟨_,r1'.cell (o:=0) (v:=.int .i64 (k:Nat)) (by rw [<- k0]; rfl),vIf_mk (fun h4=>?_) (fun h4=>?_)⟩
   ·have h4:(k:Int)=4:=by simpa using h4
    have hk4:k=4:=by omega
    rw [if_pos hk4] at hrd
    have hdl:(b.drop a).length=n - a:=by rw [List.length_drop,hl]
    refine ans u2 _ none 0 0 _ f4 r1' r3 d0 (by show Sl u2 1 none 0 (y0.dat.map bv); rw [dat0]; exact Sl.nil _ _ _) nilB nilF (Nat.le_refl _) ?_ ?_
    ·rw [hrd,hdl]
     show (((n - a:Nat):Int) == 0)=_
     by_cases h0:n - a=0
     ·rw [if_pos h0,h0]; rfl
     ·rw [if_neg h0]
      show _=false
      rw [beq_eq_false_iff_ne]; omega
    ·intro x hx
     rw [hrd] at hx
     split at hx
     ·cases hx
      rw [<- hy0,hk4]; rfl
     ·cases hx
   ·have h4:¬ (k:Int)=4:=by simpa using h4
    have hk3:k=3:=by omega
    rw [if_neg (by omega)] at hrd
    refine k14 u2 _ (slA A c a 1) (n - a) (c - a) (b.drop a) f4 r1' r3 d0 dat0 (sl_drop (f4.sl h (fun _ _ _ h=>h)) (by omega) hc) ?_
    rw [hrd,<- hy0,hk3]; rfl
 have k4:¬ (k=3\/k=4)->jnC (F114.k4 (fun v w'=>FiA w w' v (rdR k sq b))) ((A,n,c),(b1,0),(b3,0),(k:Int),()) w4:=by
  intro h34
  have k16:(k=1\/k=2)->jnC (F114.k16 (fun v w'=>FiA w w' v (rdR k sq b))) ((A,n,c),(b1,0),(b3,0),()) w4:=by
   intro h12
   have hrd:rdR k sq b=if 32<=b.length then some ⟨k,sq,b.take 32,[],b.drop 32,0,0⟩ else none:=by
    unfold rdR
    rw [if_neg h34,if_neg (by omega),if_pos h12]
   refine jnC_mk (fun _=>cpy_rec (o:=2) r1 (by rw [rcC_len d0]; omega) hs4 (fun u q1 g=>?_))
   rw [rcC_stp d0 _ _ _ (by rw [List.length_take]; omega)] at q1
   have q3:=r3.fr g (fun h=>hne h.symm)
   have fu:=fr_var f13 hb1 g
   have hm:min n 32<=n:=Nat.min_le_left _ _
   refine gd_mk (decide_eq_true (by omega)) (gd_mk (decide_eq_true (by show ((min n 32:Nat):Int)<=(n:Int); omega)) ?_)
   dsimp only
   rw [Int.toNat_natCast]
   refine (clone_by _ (n - min n 32) (c - min n 32) (b.drop (min n 32)) u (sl_drop (fu.sl h (fun _ _ _ h=>h)) hm hc) (by omega)).mono ?_
   rintro e u2 ⟨f2,A2,c2,rfl,hrow⟩
   have l1:=q1.lt
   have l3:=q3.lt
   have q1:=q1.fr f2 (fun h=>h)
   have q3:=q3.fr f2 (fun h=>h)
   have hyl:((b.take (min n 32)) ++ y0.d.drop (b.take (min n 32)).length).length=32:=by
    rw [List.length_append,List.length_drop,List.length_take,d0]; omega
   refine ⟨A2,_,c2,rfl,q1.st_mk (o:=35) (vs:=[.slice A2 (n - min n 32) c2]) (by rw [rcC_len hyl]; show 35+1<=38; omega) (fun v hv=>by simp at hv; subst hv; rfl) (fun q1' g2=>?_)⟩
   rw [rcC_sta hyl] at q1'
   have q3:=q3.fr g2 (fun h=>hne h.symm)
   have fu2:=fr_var (fu.trans1 f2) hb1 g2
   have hblk:∀ q,blkOf A2=some q->q ≠ b1/\q ≠ b3:=fun q hq=>by
    have:=(hrow.blt hq).1
    exact ⟨Nat.ne_of_gt (Nat.lt_of_lt_of_le l1 this),Nat.ne_of_gt (Nat.lt_of_lt_of_le l3 this)⟩
   have hsl:=g2.sl hrow.sl (fun _ q hq=>(hblk q hq).1)
   refine ans _ ⟨y0.k,y0.sq,b.take (min n 32) ++ y0.d.drop (b.take (min n 32)).length,y0.nm,b.drop (min n 32),y0.n,y0.z⟩ A2 (n - min n 32) c2 _ fu2 q1' q3 hyl hsl (fun q hq=>(hblk q hq).2) (fun q hq=>Nat.le_trans fu.size (hrow.blt hq).1) hrow.le ?_ ?_
   ·rw [hrd]
    by_cases h32:32<=b.length
    ·rw [if_pos h32]
     have:min n 32=32:=by omega
     rw [this]; rfl
    ·rw [if_neg h32]
     show (((min n 32:Nat):Int) == 32)=false
     rw [beq_eq_false_iff_ne]; omega
   ·intro x hx
    rw [hrd] at hx
    split at hx
    ·cases hx
     have:min n 32=32:=by omega
     have hz:y0.d.drop 32=[]:=List.drop_of_length_le (by omega)
     rw [this,List.length_take,show min 32 b.length=32 by omega,hz,List.append_nil,<- hy0]
    ·cases hx
  have k23:k ≠ 5->k ≠ 1->k ≠ 2->k ≠ 7->jnC (F114.k23 (fun v w'=>FiA w w' v (rdR k sq b))) ((A,n,c),(b1,0),(b3,0),()) w4:=by
   intro n5 n1 n2 n7
   have hrd:rdR k sq b=if b.length=8 then some ⟨k,sq,z32,[],[],leT (b.take 4),leT (b.drop 4)⟩ else none:=by
    unfold rdR
    rw [if_neg h34,if_neg n5,if_neg (by omega),if_neg n7]
   refine jnC_mk (fun _=>(num_calls A n c b 0 4 w4 hs4 hn).mono ?_)
   rintro e u ⟨rfl,rfl⟩
   refine ⟨_,rfl,(num_calls A n c b 4 4 u hs4 hn).mono ?_⟩
   rintro e u ⟨rfl,rfl⟩
   refine ⟨_,rfl,r1.st_mk (o:=36) (vs:=[.int .i64 (nuR (tkN b 0 4))]) (by rw [rcC_len d0]; show 36+1<=38; omega) (fun v hv=>by simp at hv; subst hv; rfl) (fun q1 g=>?_)⟩
   rw [rcC_stm d0] at q1
   have q3:=r3.fr g (fun h=>hne h.symm)
   have fu:=fr_var f13 hb1 g
   have d0':({ y0 with n:=nuR (tkN b 0 4) }:Rc).d.length=32:=d0
   refine q1.st_mk (o:=37) (vs:=[.int .i64 (nuR (tkN b 4 4))]) (by rw [rcC_len d0']; show 37+1<=38; omega) (fun v hv=>by simp at hv; subst hv; rfl) (fun q2 g2=>?_)
   rw [rcC_stz d0'] at q2
   have q3:=q3.fr g2 (fun h=>hne h.symm)
   have fu2:=fr_var fu hb1 g2
   refine ans _ _ none 0 0 _ fu2 q2 q3 d0 (by show Sl _ 1 none 0 (y0.dat.map bv); rw [dat0]; exact Sl.nil _ _ _) nilB nilF (Nat.le_refl _) ?_ ?_
   ·rw [hrd]
    by_cases h8:b.length=8
    ·rw [if_pos h8]
     have:n=8:=by omega
     subst this; rfl
    ·rw [if_neg h8]
     show ((n:Int) == 8)=false
     rw [beq_eq_false_iff_ne]; omega
   ·intro x hx
    rw [hrd] at hx
    split at hx
    ·rename_i h8
     cases hx
     have t1:tkN b 0 4=leT (b.take 4):=by
      have:=tk_eq (b:=b) (a:=0) (z:=4) (by omega)
      rw [List.drop_zero] at this; exact this
     have t2:tkN b 4 4=leT (b.drop 4):=by
      have:=tk_eq (b:=b) (a:=4) (z:=4) (by omega)
      rw [List.take_of_length_le (by rw [List.length_drop]; omega)] at this; exact this
     have l1:=le4_lt b
     have l2:leT (b.drop 4) < 4294967296:=by
      have:=le4_lt (b.drop 4)
      rwa [List.take_of_length_le (by rw [List.length_drop]; omega)] at this
     rw [t1,t2,nuR,nuR,if_pos l1,if_pos l2,<- hy0]
    ·cases hx
  have k19:k=7->jnC (F114.k19 (fun v w'=>FiA w w' v (rdR k sq b))) ((A,n,c),(b1,0),(b3,0),()) w4:=by
   intro h7
   have hrd:rdR k sq b=if b.length=16/\b.take 8=stil then some ⟨7,sq,z32,[],[],nuR (leT (b.drop 8)),0⟩ else none:=by
    unfold rdR
    rw [if_neg h34,if_neg (by omega),if_neg (by omega),if_pos h7]
   have k20:∀ t:Bool,t=!decide (b.length=16/\b.take 8=stil)->jnC (F114.k20 (fun v w'=>FiA w w' v (rdR k sq b))) ((A,n,c),(b1,0),(b3,0),t,()) w4:=by
    rintro t rfl
    refine jnC_mk (fun _=>vIf_mk (fun ht=>?_) (fun ht=>jnC_mk (fun _=>(num_calls A n c b 8 8 w4 hs4 hn).mono ?_)))
    ·rw [if_neg (ndt ht)] at hrd
     exact ans w4 y0 none 0 0 false f13 r1 r3 d0 (by rw [dat0]; exact Sl.nil _ _ _) nilB nilF (Nat.le_refl _) (by rw [hrd]; rfl) (fun x hx=>by rw [hrd] at hx; cases hx)
    ·have hh:=ndf ht
     rw [if_pos hh] at hrd
     rintro e u ⟨rfl,rfl⟩
     refine ⟨_,rfl,r1.st_mk (o:=36) (vs:=[.int .i64 (nuR (tkN b 8 8))]) (by rw [rcC_len d0]; show 36+1<=38; omega) (fun v hv=>by simp at hv; subst hv; rfl) (fun q1 g=>?_)⟩
     rw [rcC_stm d0] at q1
     have q3:=r3.fr g (fun h=>hne h.symm)
     have fu:=fr_var f13 hb1 g
     refine ans _ _ none 0 0 true fu q1 q3 d0 (by show Sl _ 1 none 0 (y0.dat.map bv); rw [dat0]; exact Sl.nil _ _ _) nilB nilF (Nat.le_refl _) (by rw [hrd]; rfl) ?_
     intro x hx
     rw [hrd] at hx
     cases hx
     have h16:=hh.1
     have t1:tkN b 8 8=leT (b.drop 8):=by
      have:=tk_eq (b:=b) (a:=8) (z:=8) (by omega)
      rw [List.take_of_length_le (by rw [List.length_drop]; omega)] at this; exact this
     rw [t1,<- hy0,h7]; rfl
   refine jnC_mk (fun _=>vIf_mk (fun h16=>k20 _ ?_) (fun h16=>?_))
   ·have h16:(n:Int) ≠ 16:=by simpa using h16
    rw [decide_eq_false (fun h=>h16 (by have:=h.1; omega))]; rfl
   ·have h16:(n:Int)=16:=by simpa using h16
    refine gd_mk (decide_eq_true (by show (8:Int)<=(c:Int); omega)) (b2s_sl (l:=b.take 8) (sl_take (sl_zero hs4 hc) (by omega)) (k20 _ ?_))
    congr 1
    have e:((⟨(b.take 8).toArray⟩:ByteArray).toList == (⟨#[115,116,105,108,108,97,103,101]⟩:ByteArray).toList)=decide (b.take 8=stil):=by
     rw [ByteArray.toList_eq,ByteArray.toList_eq]
     show (b.take 8 == stil)=_
     by_cases he:b.take 8=stil
     ·rw [he]; rfl
     ·rw [decide_eq_false he,beq_eq_false_iff_ne]; exact he
    rw [e]
    exact decide_eq_decide.2 ⟨fun h=>⟨by omega,h⟩,fun h=>h.2⟩
  refine jnC_mk (fun _=>vIf_mk (fun h5=>?_) (fun h5=>?_))
  ·have h5:(k:Int)=5:=by simpa using h5
   refine k14 w4 y0 A n c b f13 r1 r3 d0 dat0 hs4 ?_
   unfold rdR
   rw [if_neg h34,if_pos (by omega),<- hy0]
   have:k=5:=by omega
   rw [this]; rfl
  ·have h5:¬ (k:Int)=5:=by simpa using h5
   have oth:(¬ (k:Int)=1)->(¬ (k:Int)=2)->vIf ((k:Int) == 7) (jnC (F114.k19 (fun v w'=>FiA w w' v (rdR k sq b))) ((A,n,c),(b1,0),(b3,0),()) w4) (jnC (F114.k23 (fun v w'=>FiA w w' v (rdR k sq b))) ((A,n,c),(b1,0),(b3,0),()) w4):=by
    intro n1 n2
    refine vIf_mk (fun h7=>k19 ?_) (fun h7=>k23 (by omega) (by omega) (by omega) ?_)
    ·have h7:(k:Int)=7:=by simpa using h7
     omega
    ·have h7:¬ (k:Int)=7:=by simpa using h7
     omega
   refine vIf_mk (fun h1=>vIf_mk (fun h1'=>k16 (.inl ?_)) (fun h1'=>?_)) (fun h1=>vIf_mk (fun h2=>k16 (.inr ?_)) (fun h2=>oth ?_ ?_))
   ·have h1:(k:Int)=1:=by simpa using h1
    omega
   ·rw [h1] at h1'; cases h1'
   ·have h2:(k:Int)=2:=by simpa using h2
    omega
   ·simpa using h1
   ·simpa using h2
 refine vIf_mk (fun h3=>vIf_mk (fun h3'=>k8 (.inl ?_)) (fun h3'=>?_)) (fun h3=>vIf_mk (fun h4=>k8 (.inr ?_)) (fun h4=>k4 ?_))
 ·have h3:(k:Int)=3:=by simpa using h3
  omega
 ·rw [h3] at h3'; cases h3'
 ·have h4:(k:Int)=4:=by simpa using h4
  omega
 ·have h3:¬ (k:Int)=3:=by simpa using h3
  have h4:¬ (k:Int)=4:=by simpa using h4
  omega
theorem rc_name {x:Rc} (h:x.d.length=32) (A:Option Addr) (n c:Nat):(rcC x A n c)[34]?=some (.string ⟨x.nm.toArray⟩):=rcC_end h A n c 0
theorem rc_data {x:Rc} (h:x.d.length=32) (A:Option Addr) (n c:Nat):(rcC x A n c)[35]?=some (.slice A n c):=rcC_end h A n c 1
theorem rc_n {x:Rc} (h:x.d.length=32) (A:Option Addr) (n c:Nat):(rcC x A n c)[36]?=some (.int .i64 x.n):=rcC_end h A n c 2
theorem rc_z {x:Rc} (h:x.d.length=32) (A:Option Addr) (n c:Nat):(rcC x A n c)[37]?=some (.int .i64 x.z):=rcC_end h A n c 3
theorem rdR_nm {k sq:Nat} {b:List UInt8} {x:Rc} (h:rdR k sq b=some x):x.nm.length<=255/\x.dat.length<=b.length:=by
 have tx:∀ s e,txP b 0=some (s,e)->s.length<=255:=by
  intro s e h
  unfold txP at h
  split at h
  ·cases h
   have:=tkOne_lt b 0
   rw [List.length_take]; omega
  ·cases h
 unfold rdR at h
 split at h
 ·split at h
  ·cases h
  ·rename_i s e he
   split at h
   ·split at h
    ·cases h; exact ⟨tx s e he,Nat.zero_le _⟩
    ·cases h
   ·split at h
    ·cases h; exact ⟨tx s e he,Nat.zero_le _⟩
    ·cases h
 ·split at h
  ·split at h
   ·cases h; exact ⟨Nat.zero_le _,Nat.zero_le _⟩
   ·cases h
  ·split at h
   ·split at h
    ·cases h; exact ⟨Nat.zero_le _,by show (b.drop 32).length<=_; rw [List.length_drop]; omega⟩
    ·cases h
   ·split at h
    ·split at h
     ·cases h; exact ⟨Nat.zero_le _,Nat.zero_le _⟩
     ·cases h
    ·split at h
     ·cases h; exact ⟨Nat.zero_le _,Nat.zero_le _⟩
     ·cases h
set_option maxHeartbeats 2000000 in
theorem rgt_calls (x:Rc) (A:Option Addr) (n c:Nat) (w:World) (hd:x.d.length=32) (hn:n=x.dat.length) (hm:x.nm.length<=255) :
  Calls Tryz.prog 115 #[ofL (rcC x A n c)] w fun e w'=>e=.returned (.int .i64 (rgR x))/\Fr (fun _=>False) w w':=by
 refine (F115.of _ w (Q:=fun v w'=>v=.int .i64 (rgR x)/\Fr (fun _=>False) w w') ?_).mono (fun e w' ⟨v,he,hv,h⟩=>⟨by rw [he,hv],h⟩)
 refine rec_new (fun b1 w2 f1 hb1 r1=>⟨_,r1.cell (o:=0) (v:=.int .i64 x.k) rfl,?_⟩)
 have ans:∀ e:Int,rgR x=e->Value.int .i64 e=.int .i64 (rgR x)/\Fr (fun _=>False) w w2:=fun e he=>⟨by rw [he],f1⟩
 have c36:=r1.cell (o:=36) (rc_n hd A n c)
 have c37:=r1.cell (o:=37) (rc_z hd A n c)
 have k14:∀ t:Bool,t=decide (x.k=6\/x.k=8)->¬ (x.k=1\/x.k=2)->¬ (x.k=3\/x.k=4)->jnC (F115.k14 (fun v w'=>v=.int .i64 (rgR x)/\Fr (fun _=>False) w w')) ((b1,0),4294967295,x.k,t,()) w2:=by
  rintro t rfl h12 h34
  have u1:¬ (x.k < 1\/x.k > 8)->rgR x=if (x.k=6\/x.k=8)/\(x.n < 0\/x.n > 4294967295\/x.z < 0\/x.z > 4294967295) then 20 else if x.k=7/\(x.n < 1\/x.n > 99999999) then 20 else 0:=fun h=>by
   unfold rgR
   rw [if_neg h,if_neg (by omega),if_neg (fun h=>h34 h.1)]
  refine jnC_mk (fun _=>vIf_mk (fun h68=>?_) (fun h68=>?_))
  ·have h68:=of_decide_eq_true h68
   have u1:=u1 (by omega)
   refine ⟨_,c36,vIf_mk (fun h1=>ans 20 ?_) (fun h1=>⟨_,c36,vIf_mk (fun h2=>ans 20 ?_) (fun h2=>⟨_,c37,vIf_mk (fun h3=>ans 20 ?_) (fun h3=>⟨_,c37,vIf_mk (fun h4=>ans 20 ?_) (fun h4=>ans 0 ?_)⟩)⟩)⟩)⟩
   ·have h1:x.n < 0:=of_decide_eq_true h1
    rw [u1,if_pos ⟨h68,.inl h1⟩]
   ·have h2:x.n > 4294967295:=of_decide_eq_true h2
    rw [u1,if_pos ⟨h68,.inr (.inl h2)⟩]
   ·have h3:x.z < 0:=of_decide_eq_true h3
    rw [u1,if_pos ⟨h68,.inr (.inr (.inl h3))⟩]
   ·have h4:x.z > 4294967295:=of_decide_eq_true h4
    rw [u1,if_pos ⟨h68,.inr (.inr (.inr h4))⟩]
   ·have h1:¬ x.n < 0:=of_decide_eq_false h1
    have h2:¬ x.n > 4294967295:=of_decide_eq_false h2
    have h3:¬ x.z < 0:=of_decide_eq_false h3
    have h4:¬ x.z > 4294967295:=of_decide_eq_false h4
    rw [u1,if_neg (fun h=>h.2.elim h1 (fun h=>h.elim h2 (fun h=>h.elim h3 h4))),if_neg (by omega)]
  ·have h68:=of_decide_eq_false h68
   refine vIf_mk (fun h7=>?_) (fun h7=>vIf_mk (fun h5=>ans 0 ?_) (fun h5=>ans 2 ?_))
   ·have h7:x.k=7:=by simpa using h7
    have u1:=u1 (by omega)
    rw [if_neg (fun h=>h68 h.1)] at u1
    refine ⟨_,c36,vIf_mk (fun h1=>ans 20 ?_) (fun h1=>⟨_,c36,vIf_mk (fun h2=>ans 20 ?_) (fun h2=>ans 0 ?_)⟩)⟩
    ·have h1:x.n < 1:=of_decide_eq_true h1
     rw [u1,if_pos ⟨h7,.inl h1⟩]
    ·have h2:x.n > 99999999:=of_decide_eq_true h2
     rw [u1,if_pos ⟨h7,.inr h2⟩]
    ·have h1:¬ x.n < 1:=of_decide_eq_false h1
     have h2:¬ x.n > 99999999:=of_decide_eq_false h2
     rw [u1,if_neg (fun h=>h.2.elim h1 h2)]
   ·have h5:x.k=5:=by simpa using h5
    rw [u1 (by omega),if_neg (fun h=>h68 h.1),if_neg (by omega)]
   ·have h5:¬ x.k=5:=by simpa using h5
    have h7:¬ x.k=7:=by simpa using h7
    unfold rgR
    rw [if_pos (by omega)]
 have k10:∀ t:Bool,t=decide (x.k=3\/x.k=4)->¬ (x.k=1\/x.k=2)->jnC (F115.k10 (fun v w'=>v=.int .i64 (rgR x)/\Fr (fun _=>False) w w')) ((b1,0),4294967295,x.k,t,()) w2:=by
  rintro t rfl h12
  refine jnC_mk (fun _=>vIf_mk (fun h34=>?_) (fun h34=>?_))
  ·have h34:=of_decide_eq_true h34
   refine ⟨_,r1.cell (o:=34) (rc_name hd A n c),(tag_calls _ w2 (by show (⟨x.nm.toArray⟩:ByteArray).size<=_; show x.nm.toArray.size<=_; rw [List.size_toArray]; omega)).mono ?_⟩
   rintro e u ⟨⟨t,rfl,ht⟩,rfl⟩
   refine ⟨t,rfl,vIf_mk (fun h=>ans 12 ?_) (fun h=>ans 0 ?_)⟩
   ·have hno:¬ TagP ⟨x.nm.toArray⟩:=fun hp=>by rw [ht.2 hp] at h; cases h
    unfold rgR
    rw [if_neg (by omega),if_neg (by omega),if_pos ⟨h34,hno⟩]
   ·have hyes:TagP ⟨x.nm.toArray⟩:=ht.1 (by cases t <;> simp_all)
    unfold rgR
    rw [if_neg (by omega),if_neg (by omega),if_neg (fun h=>h.2 hyes),if_neg (by omega),if_neg (by omega)]
  ·have h34:=of_decide_eq_false h34
   refine vIf_mk (fun h6=>k14 _ ?_ h12 h34) (fun h6=>k14 _ ?_ h12 h34)
   ·have h6':x.k=6:=by simpa using h6
    show (x.k == 6)=_
    rw [h6']; rfl
   ·have h6':¬ x.k=6:=by simpa using h6
    show (x.k == 8)=_
    by_cases h8:x.k=8
    ·rw [h8]; rfl
    ·rw [decide_eq_false (by omega),beq_eq_false_iff_ne]; exact h8
 have k6:∀ t:Bool,t=decide (x.k=1\/x.k=2)->jnC (F115.k6 (fun v w'=>v=.int .i64 (rgR x)/\Fr (fun _=>False) w w')) ((b1,0),4294967295,x.k,t,()) w2:=by
  rintro t rfl
  refine jnC_mk (fun _=>vIf_mk (fun h12=>?_) (fun h12=>?_))
  ·have h12:=of_decide_eq_true h12
   refine ⟨A,n,c,r1.cell (o:=35) (rc_data hd A n c),vIf_mk (fun h=>ans 18 ?_) (fun h=>ans 0 ?_)⟩
   ·have h:(n:Int) > 65504:=of_decide_eq_true h
    unfold rgR
    rw [if_neg (by omega),if_pos ⟨by omega,by omega⟩]
   ·have h:¬ (n:Int) > 65504:=of_decide_eq_false h
    unfold rgR
    rw [if_neg (by omega),if_neg (by omega),if_neg (by omega),if_neg (by omega),if_neg (by omega)]
  ·have h12:=of_decide_eq_false h12
   refine vIf_mk (fun h3=>k10 _ ?_ h12) (fun h3=>k10 _ ?_ h12)
   ·have h3':x.k=3:=by simpa using h3
    show (x.k == 3)=_
    rw [h3']; rfl
   ·have h3':¬ x.k=3:=by simpa using h3
    show (x.k == 4)=_
    by_cases h4:x.k=4
    ·rw [h4]; rfl
    ·rw [decide_eq_false (by omega),beq_eq_false_iff_ne]; exact h4
 refine vIf_mk (fun h1=>k6 _ ?_) (fun h1=>k6 _ ?_)
 ·have h1':x.k=1:=by simpa using h1
  show (x.k == 1)=_
  rw [h1']; rfl
 ·have h1':¬ x.k=1:=by simpa using h1
  show (x.k == 2)=_
  by_cases h2:x.k=2
  ·rw [h2]; rfl
  ·rw [decide_eq_false (by omega),beq_eq_false_iff_ne]; exact h2
abbrev RpA (w w':World) (v:Value) (p:Rc×Int×Int):Prop:=Fr (fun _=>False) w w'/\∃ (A:Option Addr) (n c:Nat),v=.tuple #[ofL (rcC p.1 A n c),.int .i64 p.2.1,.int .i64 p.2.2]/\Sl w' 1 A n (p.1.dat.map bv)/\n<=c
theorem rc0_len:rc0.d.length=32:=z32_len
theorem frP_dlen (b:List UInt8) (at_:Int):(frP b at_).d.length<=b.length:=by
 unfold frP
 split
 ·exact Nat.zero_le _
 ·split
  ·show (frG _).2.2.2.length<=_
   unfold frG
   split
   ·exact Nat.zero_le _
   ·split
    ·exact Nat.zero_le _
    ·split
     ·exact Nat.zero_le _
     ·split
      ·exact Nat.zero_le _
      ·split
       ·exact Nat.zero_le _
       ·show (List.take _ _).length<=_
        rw [List.length_take,List.length_drop,List.length_drop]; omega
  ·exact Nat.zero_le _
set_option maxHeartbeats 2000000 in
theorem parse_calls (A:Option Addr) (n c:Nat) (b:List UInt8) (at_:Int) (w:World) (h:Sl w 1 A n (b.map bv)) (hc:n<=c) (hn:n<=1099511627776) :
  Calls Tryz.prog 92 #[.slice A n c,.int .i64 at_] w fun e w'=>∃ v,e=.returned v/\RpA w w' v (recP b at_):=by
 have hl:=sl_len h
 refine F92.of A n c at_ w (Q:=fun v w'=>RpA w w' v (recP b at_)) ?_
 refine rec_new (fun b1 w2 f1 hb1 r1=>?_)
 have Z38:Z48.length=38:=rfl
 have err:∀ (k:Int) (u:World),recP b at_=(rc0,0,k)->Fr (fun _=>False) w u->RecAt u b1 48 Z48 ->
   gd ((rcC rc0 none 0 0).length == 38) (st u b1 0 (rcC rc0 none 0 0) fun w1=>ldA 38 w1 b1 0 fun a=>RpA w w1 (.tuple #[ofL a,.int .i64 0,.int .i64 k]) (recP b at_)):=by
  intro k u hk fu q1
  refine ansN_mk (N:=38) (K:=fun a w1=>RpA w w1 (.tuple #[ofL a,.int .i64 0,.int .i64 k]) (recP b at_)) q1 Z38 (rcC_len rc0_len _ _ _) (rcC_one _ _ _ _) (fun w' g=>?_)
  rw [hk]
  exact ⟨fr_var fu hb1 g,none,0,0,rfl,Sl.nil _ _ _,Nat.le_refl _⟩
 refine (fparse_calls A n c b at_ w2 (f1.sl h (fun _ _ _ h=>h)) hc hn).mono ?_
 rintro e w3 ⟨_,rfl,f3,A3,n3,c3,rfl,hd3,hc3⟩
 have r1:=r1.fr f3 (fun h=>h)
 have f13:=f1.trans1 f3
 have hdl:=sl_len hd3
 have hdb:=frP_dlen b at_
 refine ⟨_,_,rfl,var_new (sz:=4) rfl rfl (frC_one _ _ _ _) (fun b7 w4 f4 hb7 r7=>?_)⟩
 have r1:=r1.fr f4 (fun h=>h)
 have f14:=f13.trans1 f4
 have hd4:=f4.sl hd3 (fun _ _ _ h=>h)
 refine vIf_mk (fun h0=>?_) (fun h0=>?_)
 ·have h0:(frP b at_).e ≠ 0:=by simpa using h0
  exact err _ w4 (by unfold recP; rw [if_pos h0]) f14 r1
 have h0:(frP b at_).e=0:=by simpa using h0
 refine ⟨_,r7.cell (o:=0) rfl,_,r7.cell (o:=1) rfl,A3,n3,c3,r7.cell (o:=2) rfl,(fill_calls (frP b at_).k (frP b at_).sq A3 n3 c3 (frP b at_).d w4 hd4 hc3 (by omega)).mono ?_⟩
 rintro e w5 ⟨_,rfl,f5,y,A5,n5,c5,rfl,hy,hd5,hc5,hfr,hx⟩
 have r1:=r1.fr f5 (fun h=>h)
 have r7:=r7.fr f5 (fun h=>h)
 have f15:=f14.trans1 f5
 refine ⟨_,_,rfl,var_new (sz:=38) Z38 (rcC_len hy _ _ _) (rcC_one _ _ _ _) (fun b21 w6 f6 hb21 r21=>?_)⟩
 have r1:=r1.fr f6 (fun h=>h)
 have r7:=r7.fr f6 (fun h=>h)
 have f16:=f15.trans1 f6
 have hd6:=f6.sl hd5 (fun _ _ _ h=>h)
 cases hrd:rdR (frP b at_).k (frP b at_).sq (frP b at_).d with
 | none =>
  refine vIf_t rfl (err 3 w6 ?_ f16 r1)
  unfold recP
  rw [if_neg (fun h=>h h0),hrd]
 | some x =>
  obtain rfl:=hx x hrd
  have hnm:=rdR_nm hrd
  have hyl:=sl_len hd6
  refine vIf_f rfl ⟨_,rcC_len hy _ _ _,rec_all r21,(rgt_calls y A5 n5 c5 w6 hy hyl.symm hnm.1).mono ?_⟩
  rintro e w7 ⟨rfl,f7⟩
  have r1:=r1.fr f7 (fun h=>h)
  have r7:=r7.fr f7 (fun h=>h)
  have r21:=r21.fr f7 (fun h=>h)
  have f17:=f16.trans1 f7
  have hd7:=f7.sl hd6 (fun _ _ _ h=>h)
  refine ⟨_,rfl,vIf_mk (fun hr=>?_) (fun hr=>?_)⟩
  ·have hr:rgR y ≠ 0:=by simpa using hr
   refine err _ w7 ?_ f17 r1
   unfold recP
   rw [if_neg (fun h=>h h0),hrd]
   show (if rgR y ≠ 0 then _ else _)=_
   rw [if_pos hr]
  ·have hr:rgR y=0:=by simpa using hr
   have hp:recP b at_=(y,(frP b at_).z,0):=by
    unfold recP
    rw [if_neg (fun h=>h h0),hrd]
    show (if rgR y ≠ 0 then _ else _)=_
    rw [if_neg (fun h=>h hr)]
   have fd:Fr (fun _=>False) w7 w7.drew:=Fr.drew _ _
   have r1:=r1.fr fd (fun h=>h)
   have r7:=r7.fr fd (fun h=>h)
   have r21:=r21.fr fd (fun h=>h)
   have f1d:=f17.trans1 fd
   have hdd:=fd.sl hd7 (fun _ _ _ h=>h)
   have hb17:b7 ≠ b1:=by
    intro e
    have:=(RecAt.lt (w:=w3) (by assumption:RecAt w3 b1 _ _))
    omega
   refine ⟨_,rcC_len hy _ _ _,rec_all r21,_,r7.cell (o:=3) rfl,gd_mk (by rw [rcC_len hy]; rfl) (r1.st_mk (o:=0) (by rw [rcC_len hy,Z38]; omega) (rcC_one _ _ _ _) (fun q1 g=>?_))⟩
   rw [splice_full (by rw [rcC_len hy,Z38])] at q1
   refine kp_mk g r7.lt (fun h=>hb17 h) ⟨_,rcC_len hy _ _ _,rec_all q1,?_⟩
   rw [hp]
   refine ⟨fr_var f1d hb1 g,A5,n5,c5,rfl,g.sl hdd (fun hn0 k hk he=>?_),hc5⟩
   have l1:=(RecAt.lt (w:=w4) (by assumption:RecAt w4 b1 _ _))
   have:=hfr k hk
   omega
theorem dig_put (b:List UInt8) (i:Nat) (hi:i < 32) (hb:32<=b.length):splice ((b.take i ++ List.replicate (32 - i) 0).map bv) i [Value.int .u8 ((b[i]'(by omega)).toNat:Int)]=(b.take (i+1) ++ List.replicate (32 - (i+1)) 0).map bv:=by
 have e:(b.take i ++ List.replicate (32 - i) 0).map bv=(b.take i).map bv ++ ([bv 0] ++ (List.replicate (32 - (i+1)) 0).map bv):=by
  rw [show 32 - i=(32 - (i+1))+1 by omega,List.replicate_succ,List.map_append,List.map_cons]; rfl
 rw [e,splice_app (by rw [List.length_map,List.length_take]; omega) (by rfl),List.take_add_one,List.getElem?_eq_getElem (by omega),List.map_append,List.map_append,List.append_assoc]
 rfl
set_option maxHeartbeats 1000000 in
theorem rdig_calls (A:Option Addr) (n c:Nat) (b:List UInt8) (w:World) (h:Sl w 1 A n (b.map bv)) (h32:32<=n) :
  Calls Tryz.prog 64 #[.slice A n c] w fun e w'=>e=.returned (ofL ((b.take 32).map bv))/\Fr (fun _=>False) w w':=by
 have hl:=sl_len h
 refine (F64.of A n c w (Q:=fun v w'=>v=ofL ((b.take 32).map bv)/\Fr (fun _=>False) w w') ?_).mono (fun e w' ⟨v,he,hv,h⟩=>⟨by rw [he,hv],h⟩)
 refine rec_new (fun b1 w2 f1 hb1 r1=>rec_new (fun b3 w4 f3 hb3 r3=>?_))
 have r1:=r1.fr f3 (fun h=>h)
 have f13:=f1.trans1 f3
 have hne:b1 ≠ b3:=by
  have:=RecAt.lt (w:=w2) (by assumption:RecAt w2 b1 _ _)
  omega
 have hb3':w.heap.size<=b3:=by have:=f1.size; omega
 have ez:Z46=(b.take 0 ++ List.replicate (32 - 0) 0).map bv:=rfl
 rw [ez] at r3
 refine jnC_mk (loop_rule (fun s u=>∃ i:Nat,i<=32/\s=((A,n,c),(b1,0),(b3,0),(i:Int),())/\Fr (fun _=>False) w u/\RecAt u b1 46 Z46/\RecAt u b3 46 ((b.take i ++ List.replicate (32 - i) 0).map bv)) (fun s _=>(32 - s.2.2.2.1).toNat) ?_ _ _ ⟨0,by omega,rfl,f13,r1,r3⟩)
 rintro s u C ⟨i,hi,rfl,fu,q1,q3⟩ hC _
 have len3:((b.take i ++ List.replicate (32 - i) 0).map bv).length=32:=by simp; omega
 refine vIf_mk (fun hlt=>?_) (fun hge=>?_)
 ·have hlt:(i:Int) < 32:=of_decide_eq_true hlt
  obtain ⟨b',o',hA,hcl⟩:=le_get (fu.sl h (fun _ _ _ h=>h)) (i:=i) (by omega) (by omega)
  rw [hA]
  refine dr_mk (gd_mk (decide_eq_true (by show (0:Int)<=(i:Int); omega)) (gd_mk (decide_eq_true (by show (i:Int) < (n:Int); omega)) ⟨_,hcl,gd_mk (decide_eq_true (by show (0:Int)<=(i:Int); omega)) (gd_mk (decide_eq_true hlt) ?_)⟩))
  dsimp only
  rw [Int.toNat_natCast,show 0+i * 1=i by omega,le_e1 i (by omega),<- hA]
  refine q3.st_mk (by rw [len3]; show i+1<=32; omega) (fun v hv=>by simp at hv; subst hv; rfl) (fun q3' g=>?_)
  rw [dig_put b i (by omega) (by omega)] at q3'
  exact jnC_mk (hC _ _ ⟨i+1,by omega,rfl,fr_var fu hb3' g,q1.fr g (fun h=>hne h),q3'⟩ (by show (32 - ((i+1:Nat):Int)).toNat < (32 - (i:Int)).toNat; omega))
 ·have hge:¬ (i:Int) < 32:=of_decide_eq_false hge
  obtain rfl:i=32:=by omega
  rw [Nat.sub_self,List.replicate_zero,List.append_nil] at q3 len3
  exact cp_mk (N:=32) (K:=fun a w1=>ofL a=ofL ((b.take 32).map bv)/\Fr (fun _=>False) w w1) q3 len3 q1 rfl (bvs_one _) (fun w' g=>⟨rfl,fr_var fu hb1 g⟩)
theorem txP_none0 {b:List UInt8} (h:b.length=0):txP b 0=none:=by
 unfold txP
 rw [if_neg (fun h'=>by have:=h'.1.2.2.2; omega)]
theorem txP_b0 {b:List UInt8} (h:0 < b.length):txP b 0=if 1+b[0].toNat<=b.length then some ((b.drop 1).take b[0].toNat,((1+b[0].toNat:Nat):Int)) else none:=by
 have ht:=tkOne (b:=b) (a:=0) h
 unfold txP
 have ht':tkN b 0 1=b[0].toNat:=ht
 rw [ht']
 by_cases hh:1+b[0].toNat<=b.length
 ·rw [if_pos hh,if_pos ⟨⟨by omega,by omega,by omega,by omega⟩,by omega⟩]
  rfl
 ·rw [if_neg hh,if_neg (fun h=>by have:=h.2; omega)]
theorem nu_st {u:World} {b3:Nat} {e:TypeId} {y:Rc} {X:Nat} {L:Int} {K:World->Prop} (hL:L=4294967296) (r3:RecAt u b3 e (rcC y none 0 0)) (d0:y.d.length=32) (n0:y.n=0) (hK:∀ w',Fr (fun k=>k=b3) u w'->RecAt w' b3 e (rcC { y with n:=nuR X } none 0 0)->K w') :
  vIf (decide ((X:Int) < L)) (st u b3 36 [.int .i64 (IntKind.wrap .i64 (X:Int))] fun w39=>K w39) (K u):=by
 refine vIf_mk (fun hlt=>?_) (fun hlt=>?_)
 ·have hlt:(X:Int) < L:=of_decide_eq_true hlt
  rw [i64_id (by omega) (by omega)]
  refine r3.st_mk (o:=36) (vs:=[.int .i64 (X:Int)]) (by rw [rcC_len d0]; show 36+1<=38; omega) (fun v hv=>by simp at hv; subst hv; rfl) (fun q3 g=>?_)
  rw [rcC_stm d0] at q3
  refine hK _ g ?_
  unfold nuR
  rw [if_pos (by omega)]
  exact q3
 ·have hlt:¬ (X:Int) < L:=of_decide_eq_false hlt
  refine hK u (Fr.refl _ _) ?_
  unfold nuR
  rw [if_neg (by omega)]
  have e:({ y with n:=0 }:Rc)=y:=by
   obtain ⟨a1,a2,a3,a4,a5,a6,a7⟩:=y
   dsimp only at n0
   rw [n0]
  rw [e]
  exact r3
set_option maxHeartbeats 4000000 in
theorem rread_calls (k:Nat) (A:Option Addr) (n c:Nat) (b:List UInt8) (w:World) (h:Sl w 1 A n (b.map bv)) (hc:n<=c) (hn:n<=1099511627776) (hk1:1<=k) (hk8:k<=8) :
  Calls Tryz.prog 32 #[.int .i64 (k:Nat),.slice A n c] w fun e w'=>∃ v,e=.returned v/\FiA w w' v (rdR k 0 b):=by
 have hl:=sl_len h
 refine F32.of (k:Nat) A n c w (Q:=fun v w'=>FiA w w' v (rdR k 0 b)) ?_
 generalize hy0:(⟨(k:Nat),0,z32,[],[],0,0⟩:Rc)=y0
 have d0:y0.d.length=32:=by rw [<- hy0]; exact z32_len
 have dat0:y0.dat=[]:=by rw [<- hy0]
 have lay:∀ w:World,∀ K:Nat->World->Prop,(∀ b w',Fr (fun _=>False) w w'->w.heap.size<=b->RecAt w' b 48 (rcC y0 none 0 0)->K b w')->nw w Z48 48 fun b w1=>gd ((rcC y0 none 0 0).length == 38) (st w1 b 0 (rcC y0 none 0 0) fun w2=>K b w2) :=
  fun w K hK=>var_new (sz:=38) rfl (rcC_len d0 _ _ _) (rcC_one _ _ _ _) hK
 refine rec_new (fun b1 w2 f1 hb1 r1=>?_)
 rw [<- hy0] at lay
 refine lay w2 _ (fun b3 w4 f3 hb3 r3=>?_)
 rw [hy0] at r3
 clear lay
 have r1:=r1.fr f3 (fun h=>h)
 have f13:=f1.trans1 f3
 have hb3':w.heap.size<=b3:=by have:=f1.size; omega
 have hne:b3 ≠ b1:=by
  have:=RecAt.lt (w:=w2) (by assumption:RecAt w2 b1 _ _)
  omega
 have Z38:Z48.length=38:=rfl
 have hs4:=f13.sl h (fun _ _ _ h=>h)
 have ans:∀ (u:World) (y:Rc) (A':Option Addr) (n' c':Nat) (t:Bool),Fr (fun _=>False) w u->RecAt u b3 48 (rcC y A' n' c')->RecAt u b1 48 Z48->y.d.length=32->Sl u 1 A' n' (y.dat.map bv)->(∀ q,blkOf A'=some q->q ≠ b1)->(∀ q,blkOf A'=some q->w.heap.size<=q)->n'<=c'->t=(rdR k 0 b).isSome->(∀ x,rdR k 0 b=some x->y=x) ->
   ldA 38 u b3 0 fun a=>gd (a.length == 38) (st u b1 0 a fun w1=>ldA 38 w1 b1 0 fun a'=>FiA w w1 (.tuple #[ofL a',.bool t]) (rdR k 0 b)):=by
  rintro u y A' n' c' t fu q1 q3 hy hA hB hF hle rfl hx
  refine cp_mk (N:=38) (K:=fun a' w1=>FiA w w1 (.tuple #[ofL a',.bool (rdR k 0 b).isSome]) (rdR k 0 b)) q1 (rcC_len hy _ _ _) q3 Z38 (rcC_one _ _ _ _) (fun w' g=>⟨fr_var fu hb1 g,y,A',n',c',rfl,hy,g.sl hA (fun _ k hk he=>hB k hk he),hle,hF,hx⟩)
 have nilB:∀ q,blkOf none=some q->q ≠ b1:=fun q hq=>by cases hq
 have nilF:∀ q,blkOf none=some q->w.heap.size<=q:=fun q hq=>by cases hq
 have no:∀ (u:World) (y:Rc),Fr (fun _=>False) w u->RecAt u b3 48 (rcC y none 0 0)->RecAt u b1 48 Z48->y.d.length=32->y.dat=[]->rdR k 0 b=none ->
   ldA 38 u b3 0 fun a=>gd (a.length == 38) (st u b1 0 a fun w1=>ldA 38 w1 b1 0 fun a'=>FiA w w1 (.tuple #[ofL a',.bool false]) (rdR k 0 b)):=by
  intro u y fu q3 q1 hy hyd hrd
  exact ans u y none 0 0 false fu q3 q1 hy (by rw [hyd]; exact Sl.nil _ _ _) nilB nilF (Nat.le_refl _) (by rw [hrd]; rfl) (fun x hx=>by rw [hrd] at hx; cases hx)
 have k13:∀ (u:World) (y:Rc) (A1:Option Addr) (n1 c1:Nat) (l:List UInt8) (t:Bool),t=true->k<=3\/k=5->Fr (fun _=>False) w u->RecAt u b3 48 (rcC y none 0 0)->RecAt u b1 48 Z48->y.d.length=32->y.dat=[]->(∀ v,Fr (fun _=>False) w v->Sl v 1 A1 n1 (l.map bv))->n1<=c1->n1<=1099511627776 ->
   (rdR k 0 b=if k<=2 then (if 32<=l.length then some { y with d:=l.take 32,dat:=l.drop 32 } else none) else (if l.length=32 then some { y with d:=l } else none)) ->
   jnC (F32.k13 (fun v w'=>FiA w w' v (rdR k 0 b))) ((k:Int),(A1,n1,c1),(b1,0),(b3,0),(n1:Int),t,()) u:=by
  rintro u y A1 n1 c1 l t rfl hk fu q3 q1 hy hyd hSub hc1 hn1 hrd
  have hS:=hSub u fu
  have hln:=sl_len hS
  have k14:∀ t:Bool,t=decide (n1 < 32\/k > 2/\n1 > 32)->jnC (F32.k14 (fun v w'=>FiA w w' v (rdR k 0 b))) ((k:Int),(A1,n1,c1),(b1,0),(b3,0),t,()) u:=by
   rintro t rfl
   refine jnC_mk (fun _=>vIf_mk (fun ht=>?_) (fun ht=>jnC_mk (fun _=>?_)))
   ·have ht:=of_decide_eq_true ht
    refine no u y fu q3 q1 hy hyd ?_
    rw [hrd]
    split
    ·rw [if_neg (by omega)]
    ·rw [if_neg (by omega)]
   ·have ht:=of_decide_eq_false ht
    have h32:32<=l.length:=by omega
    refine (rdig_calls A1 n1 c1 l u hS (by omega)).mono ?_
    rintro e u2 ⟨rfl,f2⟩
    have q3:=q3.fr f2 (fun h=>h)
    have q1:=q1.fr f2 (fun h=>h)
    have fu2:=fu.trans1 f2
    have dl:(l.take 32).length=32:=by rw [List.length_take]; omega
    refine ⟨_,rfl,gd_mk (by rw [List.length_map,dl]; rfl) (q3.st_mk (o:=2) (by rw [rcC_len hy,List.length_map,dl]; omega) (bvs_one _) (fun q3' g=>?_))⟩
    rw [rcC_std hy _ _ _ dl] at q3'
    have q1:=q1.fr g (fun h=>hne h.symm)
    have fu3:=fr_var fu2 hb3' g
    generalize stB u2 b3 2 ((l.take 32).map bv)=u3 at q3' q1 fu3 g
    refine vIf_mk (fun h2=>?_) (fun h2=>jnC_mk (fun _=>?_))
    ·have h2:(k:Int)<=2:=of_decide_eq_true h2
     rw [if_pos (by omega),if_pos h32] at hrd
     have hS3:Sl u3 1 (slA A1 c1 32 1) (n1 - 32) ((l.drop 32).map bv):=sl_drop (hSub u3 fu3) (by omega) hc1
     refine gd_mk (decide_eq_true (by show (32:Int)<=(n1:Int); omega)) (appB_mk (m:=n1 - 32) (RB.nil u3) hS3 (by omega) (fun A' c' u4 h4=>?_))
     rw [List.nil_append,Nat.zero_add] at h4
     have l3:=q3'.lt
     have l1:=q1.lt
     have q3':=q3'.fr h4.1 (fun h=>h)
     have q1:=q1.fr h4.1 (fun h=>h)
     have fu4:=fu3.trans1 h4.1
     have hblk:∀ q,blkOf A'=some q->q ≠ b3/\q ≠ b1/\w.heap.size<=q:=fun q hq=>by
      have:=(h4.2.blt hq).1
      have hsz:=fu3.size
      exact ⟨Nat.ne_of_gt (Nat.lt_of_lt_of_le l3 this),Nat.ne_of_gt (Nat.lt_of_lt_of_le l1 this),Nat.le_trans hsz this⟩
     rw [Nat.zero_add (n1 - 32)]
     refine q3'.st_mk (o:=35) (vs:=[.slice A' (n1 - 32) c']) (by rw [rcC_len dl]; show 35+1<=38; omega) (fun v hv=>by simp at hv; subst hv; rfl) (fun q5 g5=>?_)
     refine jnC_mk (fun _=>?_)
     rw [rcC_sta dl] at q5
     have q1:=q1.fr g5 (fun h=>hne h.symm)
     have fu5:=fr_var fu4 hb3' g5
     have hsl:=g5.sl h4.sl (fun _ q hq=>(hblk q hq).1)
     refine ans _ ⟨y.k,y.sq,l.take 32,y.nm,l.drop 32,y.n,y.z⟩ A' (n1 - 32) c' true fu5 q5 q1 dl hsl (fun q hq=>(hblk q hq).2.1) (fun q hq=>(hblk q hq).2.2) h4.2.le (by rw [hrd]; rfl) ?_
     intro x hx
     rw [hrd] at hx
     cases hx
     rfl
    ·have h2:¬ (k:Int)<=2:=of_decide_eq_false h2
     rw [if_neg (by omega)] at hrd
     have e32:l.length=32:=by omega
     rw [if_pos e32] at hrd
     refine ans u3 _ none 0 0 true fu3 q3' q1 dl (by show Sl _ 1 none 0 (y.dat.map bv); rw [hyd]; exact Sl.nil _ _ _) nilB nilF (Nat.le_refl _) (by rw [hrd]; rfl) ?_
     intro x hx
     rw [hrd] at hx
     cases hx
     rw [List.take_of_length_le (by omega)]
  refine jnC_mk (fun _=>vIf_t rfl (vIf_mk (fun h1=>k14 _ ?_) (fun h1=>vIf_mk (fun h2=>k14 _ ?_) (fun h2=>k14 _ ?_))))
  ·have h1:(n1:Int) < 32:=of_decide_eq_true h1
   exact (decide_eq_true (p:=n1 < 32\/k > 2/\n1 > 32) (.inl (by omega))).symm
  ·have h1:¬ (n1:Int) < 32:=of_decide_eq_false h1
   have h2:(k:Int) > 2:=of_decide_eq_true h2
   show decide ((n1:Int) > 32)=_
   exact decide_eq_decide.2 (by omega)
  ·have h1:¬ (n1:Int) < 32:=of_decide_eq_false h1
   have h2:¬ (k:Int) > 2:=of_decide_eq_false h2
   exact (decide_eq_false (by omega)).symm
 have k19:¬ k<=5->jnC (F32.k19 (fun v w'=>FiA w w' v (rdR k 0 b))) ((k:Int),(A,n,c),(b1,0),(b3,0),(n:Int),()) w4:=by
  intro h5
  refine jnC_mk (fun _=>vIf_mk (fun h7=>?_) (fun h7=>?_))
  ·have h7:(k:Int)=7:=by simpa using h7
   have hrd:rdR k 0 b=if b.length=16/\b.take 8=stil then some ⟨7,0,z32,[],[],nuR (leT (b.drop 8)),0⟩ else none:=by
    unfold rdR
    rw [if_neg (by omega),if_neg (by omega),if_neg (by omega),if_pos (by omega)]
   have k21:∀ t:Bool,t=!decide (b.length=16/\b.take 8=stil)->jnC (F32.k21 (fun v w'=>FiA w w' v (rdR k 0 b))) ((A,n,c),(b1,0),(b3,0),t,()) w4:=by
    rintro t rfl
    refine jnC_mk (fun _=>vIf_mk (fun ht=>?_) (fun ht=>jnC_mk (fun _=>(rtake_calls A n c b 8 8 w4 hs4 hn).mono ?_)))
    ·rw [if_neg (ndt ht)] at hrd
     exact no w4 y0 f13 r3 r1 d0 dat0 hrd
    ·have hh:=ndf ht
     rw [if_pos hh] at hrd
     have h16:=hh.1
     have t1:tkN b 8 8=leT (b.drop 8):=by
      have:=tk_eq (b:=b) (a:=8) (z:=8) (by omega)
      rw [List.take_of_length_le (by rw [List.length_drop]; omega)] at this; exact this
     rw [t1]
     rintro e u ⟨rfl,rfl⟩
     have hy:∀ m:Int,m=nuR (leT (b.drop 8))->∀ x,rdR k 0 b=some x->({ y0 with n:=m }:Rc)=x:=by
      intro m hm x hx
      rw [hrd] at hx
      cases hx
      have hk7:(k:Int)=7:=h7
      rw [hm,<- hy0,hk7]
     refine ⟨_,_,rfl,?_⟩
     generalize hL:(4294967296:Int)=L
     refine nu_st (X:=leT (b.drop 8)) (L:=L) hL.symm (K:=fun w39=>jnC (F32.k25 (fun v w'=>FiA w w' v (rdR k 0 b))) ((b1,0),(b3,0),()) w39) (r3:=r3) (d0:=d0) (n0:=by rw [<- hy0]) (hK:=fun w' g q3=>jnC_mk (fun _=>?_))
     exact ans _ _ none 0 0 true (fr_var f13 hb3' g) q3 (r1.fr g (fun h=>hne h.symm)) d0 (by show Sl _ 1 none 0 (y0.dat.map bv); rw [dat0]; exact Sl.nil _ _ _) nilB nilF (Nat.le_refl _) (by rw [hrd]; rfl) (hy _ rfl)
   refine vIf_mk (fun h16=>k21 _ ?_) (fun h16=>?_)
   ·have h16:(n:Int) ≠ 16:=by simpa using h16
    rw [decide_eq_false (fun h=>h16 (by have:=h.1; omega))]; rfl
   ·have h16:(n:Int)=16:=by simpa using h16
    refine gd_mk (decide_eq_true (by show (8:Int)<=(c:Int); omega)) (b2s_sl (l:=b.take 8) (sl_take (sl_zero hs4 hc) (by omega)) (k21 _ ?_))
    congr 1
    have e:((⟨(b.take 8).toArray⟩:ByteArray).toList == (⟨#[115,116,105,108,108,97,103,101]⟩:ByteArray).toList)=decide (b.take 8=stil):=by
     rw [ByteArray.toList_eq,ByteArray.toList_eq]
     show (b.take 8 == stil)=_
     by_cases he:b.take 8=stil
     ·rw [he]; rfl
     ·rw [decide_eq_false he,beq_eq_false_iff_ne]; exact he
    rw [e]
    exact decide_eq_decide.2 ⟨fun h=>⟨by omega,h⟩,fun h=>h.2⟩
  ·have h7:¬ (k:Int)=7:=by simpa using h7
   have hrd:rdR k 0 b=if b.length=8 then some ⟨k,0,z32,[],[],leT (b.take 4),leT (b.drop 4)⟩ else none:=by
    unfold rdR
    rw [if_neg (by omega),if_neg (by omega),if_neg (by omega),if_neg (by omega)]
   refine vIf_mk (fun h8=>?_) (fun h8=>?_)
   ·have h8:(n:Int) ≠ 8:=by simpa using h8
    rw [if_neg (by omega)] at hrd
    exact no w4 y0 f13 r3 r1 d0 dat0 hrd
   ·have h8:(n:Int)=8:=by simpa using h8
    rw [if_pos (by omega)] at hrd
    refine (rtake_calls A n c b 0 4 w4 hs4 hn).mono ?_
    rintro e u ⟨rfl,rfl⟩
    refine ⟨_,_,rfl,(rtake_calls A n c b 4 4 u hs4 hn).mono ?_⟩
    rintro e u ⟨rfl,rfl⟩
    have t1:tkN b 0 4=leT (b.take 4):=by
     have:=tk_eq (b:=b) (a:=0) (z:=4) (by omega)
     rw [List.drop_zero] at this; exact this
    have t2:tkN b 4 4=leT (b.drop 4):=by
     have:=tk_eq (b:=b) (a:=4) (z:=4) (by omega)
     rw [List.take_of_length_le (by rw [List.length_drop]; omega)] at this; exact this
    have l1:=le4_lt b
    have l2:leT (b.drop 4) < 4294967296:=by
     have:=le4_lt (b.drop 4)
     rwa [List.take_of_length_le (by rw [List.length_drop]; omega)] at this
    rw [t1,t2]
    refine ⟨_,_,rfl,?_⟩
    rw [i64_id (n:=((leT (b.take 4):Nat):Int)) (by omega) (by omega),i64_id (n:=((leT (b.drop 4):Nat):Int)) (by omega) (by omega)]
    refine r3.st_mk (o:=36) (vs:=[.int .i64 ((leT (b.take 4):Nat):Int)]) (by rw [rcC_len d0]; show 36+1<=38; omega) (fun v hv=>by simp at hv; subst hv; rfl) (fun q3 g=>?_)
    rw [rcC_stm d0] at q3
    have q1:=r1.fr g (fun h=>hne h.symm)
    have fu:=fr_var f13 hb3' g
    have d0':({ y0 with n:=((leT (b.take 4):Nat):Int) }:Rc).d.length=32:=d0
    refine q3.st_mk (o:=37) (vs:=[.int .i64 ((leT (b.drop 4):Nat):Int)]) (by rw [rcC_len d0']; show 37+1<=38; omega) (fun v hv=>by simp at hv; subst hv; rfl) (fun q4 g2=>?_)
    rw [rcC_stz d0'] at q4
    have q1:=q1.fr g2 (fun h=>hne h.symm)
    have fu2:=fr_var fu hb3' g2
    refine ans _ _ none 0 0 true fu2 q4 q1 d0 (by show Sl _ 1 none 0 (y0.dat.map bv); rw [dat0]; exact Sl.nil _ _ _) nilB nilF (Nat.le_refl _) (by rw [hrd]; rfl) ?_
    intro x hx
    rw [hrd] at hx
    cases hx
    rw [<- hy0]
 have k12:∀ (u:World) (y:Rc) (A1:Option Addr) (n1 c1:Nat) (l:List UInt8),k<=3\/k=5->Fr (fun _=>False) w u->RecAt u b3 48 (rcC y none 0 0)->RecAt u b1 48 Z48->y.d.length=32->y.dat=[]->(∀ v,Fr (fun _=>False) w v->Sl v 1 A1 n1 (l.map bv))->n1<=c1->n1<=1099511627776 ->
   (rdR k 0 b=if k<=2 then (if 32<=l.length then some { y with d:=l.take 32,dat:=l.drop 32 } else none) else (if l.length=32 then some { y with d:=l } else none)) ->
   jnC (F32.k12 (fun v w'=>FiA w w' v (rdR k 0 b))) ((k:Int),(A1,n1,c1),(b1,0),(b3,0),(n1:Int),()) u:=by
  intro u y A1 n1 c1 l hk fu q3 q1 hy hyd hSub hc1 hn1 hrd
  refine jnC_mk (fun _=>vIf_mk (fun h3=>k13 u y A1 n1 c1 l true rfl hk fu q3 q1 hy hyd hSub hc1 hn1 hrd) (fun h3=>k13 u y A1 n1 c1 l _ ?_ hk fu q3 q1 hy hyd hSub hc1 hn1 hrd))
  have h3:¬ (k:Int)<=3:=of_decide_eq_false h3
  have:(k:Int)=5:=by omega
  show ((k:Int) == 5)=true
  rw [this]; rfl
 have hSub:∀ v,Fr (fun _=>False) w v->Sl v 1 A n (b.map bv):=fun v f=>f.sl h (fun _ _ _ h=>h)
 have k4:∀ t:Bool,t=decide (k=3\/k=4)->jnC (F32.k4 (fun v w'=>FiA w w' v (rdR k 0 b))) ((k:Int),(A,n,c),(b1,0),(b3,0),(n:Int),t,()) w4:=by
  rintro t rfl
  refine jnC_mk (fun _=>vIf_mk (fun h34=>?_) (fun h34=>?_))
  ·have h34:=of_decide_eq_true h34
   have hrd:rdR k 0 b=match txP b 0 with
    | none=>none
    | some (s,e)=>if k=4 then (if (b.drop e.toNat).length=0 then some ⟨4,0,z32,s,[],0,0⟩ else none) else (if (b.drop e.toNat).length=32 then some ⟨3,0,b.drop e.toNat,s,[],0,0⟩ else none):=by
    unfold rdR
    exact if_pos h34
   have k5:∀ t:Bool,t=(txP b 0).isNone->jnC (F32.k5 (fun v w'=>FiA w w' v (rdR k 0 b))) ((k:Int),(A,n,c),(b1,0),(b3,0),t,()) w4:=by
    rintro t rfl
    cases ht:txP b 0 with
    | none =>
     rw [ht] at hrd
     exact jnC_mk (fun _=>vIf_t rfl (no w4 y0 f13 r3 r1 d0 dat0 hrd))
    | some p =>
     obtain ⟨s,e⟩:=p
     rw [ht] at hrd
     dsimp only at hrd
     have h0:0 < b.length:=by
      rcases Nat.eq_zero_or_pos b.length with h0 | h0
      ·rw [txP_none0 h0] at ht; cases ht
      ·exact h0
     rw [txP_b0 h0] at ht
     split at ht
     ·rename_i hfit
      cases ht
      obtain ⟨b',o',hA,hcl⟩:=le_get hs4 (i:=0) (by omega) h0
      have hx8:b[0].toNat < 256:=b[0].toNat_lt
      rw [Int.toNat_natCast] at hrd
      generalize hx:b[0].toNat=m at hcl hrd hfit hx8
      have e1:IntKind.wrap .i64 ((m:Nat):Int)=((m:Nat):Int):=i64_id (by omega) (by omega)
      have e2:IntKind.wrap .i64 (1+((m:Nat):Int))=((1+m:Nat):Int):=by rw [i64_id (by omega) (by omega)]; omega
      refine jnC_mk (fun _=>vIf_f rfl (jnC_mk (fun _=>?_)))
      rw [hA]
      refine dr_mk (gd_mk (decide_eq_true (by show (0:Int) < (n:Int); omega)) ⟨_,by rw [show o'=o'+0 * 1 by omega]; exact hcl,?_⟩)
      dsimp only
      rw [e1,e2,Int.toNat_natCast,show 1+m - 1=m by omega,<- hA]
      refine gd_mk (decide_eq_true (by omega)) (gd_mk (decide_eq_true (by omega)) (gd_mk (decide_eq_true (by omega)) (b2s_sl (l:=(b.drop 1).take m) (sl_take (sl_drop hs4 (by omega) hc) (by omega)) ?_)))
      refine r3.st_mk (o:=34) (vs:=[.string ⟨((b.drop 1).take m).toArray⟩]) (by rw [rcC_len d0]; show 34+1<=38; omega) (fun v hv=>by simp at hv; subst hv; rfl) (fun q3 g=>?_)
      rw [rcC_stn d0] at q3
      have q1:=r1.fr g (fun h=>hne h.symm)
      have fu:=fr_var f13 hb3' g
      generalize stB w4 b3 34 [Value.string ⟨((b.drop 1).take m).toArray⟩]=u at q3 q1 fu
      have hdl:(b.drop (1+m)).length=n - (1+m):=by rw [List.length_drop,hl]
      refine gd_mk (decide_eq_true (by omega)) (gd_mk (decide_eq_true (by omega)) (vIf_mk (fun h4=>?_) (fun h4=>?_)))
      ·have h4:(k:Int)=4:=by simpa using h4
       have hk4:k=4:=by omega
       rw [if_pos hk4] at hrd
       refine ans u _ none 0 0 _ fu q3 q1 d0 (by show Sl u 1 none 0 (y0.dat.map bv); rw [dat0]; exact Sl.nil _ _ _) nilB nilF (Nat.le_refl _) ?_ ?_
       ·rw [hrd,hdl]
        show (((n - (1+m):Nat):Int) == 0)=_
        by_cases h0:n - (1+m)=0
        ·rw [if_pos h0,h0]; rfl
        ·rw [if_neg h0]
         show _=false
         rw [beq_eq_false_iff_ne]; omega
       ·intro x hx
        rw [hrd] at hx
        split at hx
        ·cases hx
         rw [<- hy0,hk4]; rfl
        ·cases hx
      ·have h4:¬ (k:Int)=4:=by simpa using h4
       have hk3:k=3:=by omega
       rw [if_neg (by omega)] at hrd
       refine k12 u _ (slA A c (1+m) 1) (n - (1+m)) (c - (1+m)) (b.drop (1+m)) (.inl (by omega)) fu q3 q1 d0 dat0 (fun v f=>sl_drop (hSub v f) (by omega) hc) (by omega) (by omega) ?_
       have hk2:¬ k<=2:=by omega
       rw [hrd,if_neg hk2,<- hy0,hk3]; rfl
     ·cases ht
   refine vIf_mk (fun h0=>k5 _ ?_) (fun h0=>?_)
   ·have h0:(n:Int)=0:=by simpa using h0
    rw [txP_none0 (by omega)]; rfl
   ·have h0:¬ (n:Int)=0:=by simpa using h0
    have h0:0 < b.length:=by omega
    obtain ⟨b',o',hA,hcl⟩:=le_get hs4 (i:=0) (by omega) h0
    have hx8:b[0].toNat < 256:=b[0].toNat_lt
    rw [hA]
    refine dr_mk (gd_mk (decide_eq_true (by show (0:Int) < (n:Int); omega)) ⟨_,by rw [show o'=o'+0 * 1 by omega]; exact hcl,?_⟩)
    dsimp only
    rw [i64_id (n:=(b[0].toNat:Int)) (by omega) (by omega),i64_id (by omega) (by omega),<- hA]
    refine k5 _ ?_
    rw [txP_b0 h0]
    split
    ·exact decide_eq_false (by omega)
    ·exact decide_eq_true (by omega)
  ·have h34:=of_decide_eq_false h34
   by_cases hk:k<=5
   ·refine k12 w4 y0 A n c b (by omega) f13 r3 r1 d0 dat0 hSub hc hn ?_
    unfold rdR
    rw [if_neg h34]
    by_cases h5:k=5
    ·have hk2:¬ k<=2:=by omega
     rw [if_pos h5,if_neg hk2,<- hy0,h5]; rfl
    ·have hk12:k=1\/k=2:=by omega
     have hk2:k<=2:=by omega
     rw [if_neg h5,if_pos hk12,if_pos hk2,<- hy0]
   ·have k13':jnC (F32.k13 (fun v w'=>FiA w w' v (rdR k 0 b))) ((k:Int),(A,n,c),(b1,0),(b3,0),(n:Int),((k:Int) == 5),()) w4:=by
     refine jnC_mk (fun _=>vIf_f ?_ (k19 hk))
     show ((k:Int) == 5)=false
     rw [beq_eq_false_iff_ne]; omega
    exact jnC_mk (fun _=>vIf_f (decide_eq_false (by omega)) k13')
 refine vIf_mk (fun h3=>k4 _ ?_) (fun h3=>k4 _ ?_)
 ·have h3:(k:Int)=3:=by simpa using h3
  exact (decide_eq_true (p:=k=3\/k=4) (.inl (by omega))).symm
 ·have h3:¬ (k:Int)=3:=by simpa using h3
  show ((k:Int) == 4)=_
  by_cases h4:k=4
  ·rw [decide_eq_true (.inr h4),h4]; rfl
  ·rw [decide_eq_false (by omega),beq_eq_false_iff_ne]; omega
set_option maxHeartbeats 2000000 in
theorem rrgt_calls (x:Rc) (A:Option Addr) (n c:Nat) (w:World) (hd:x.d.length=32) (hn:n=x.dat.length) (hm:x.nm.length<=255) :
  Calls Tryz.prog 33 #[ofL (rcC x A n c)] w fun e w'=>e=.returned (.int .i64 (rgR x))/\Fr (fun _=>False) w w':=by
 refine (F33.of _ w (Q:=fun v w'=>v=.int .i64 (rgR x)/\Fr (fun _=>False) w w') ?_).mono (fun e w' ⟨v,he,hv,h⟩=>⟨by rw [he,hv],h⟩)
 refine rec_new (fun b1 w2 f1 hb1 r1=>⟨_,r1.cell (o:=0) (v:=.int .i64 x.k) rfl,?_⟩)
 have ans:∀ e:Int,rgR x=e->Value.int .i64 e=.int .i64 (rgR x)/\Fr (fun _=>False) w w2:=fun e he=>⟨by rw [he],f1⟩
 have c36:=r1.cell (o:=36) (rc_n hd A n c)
 have c37:=r1.cell (o:=37) (rc_z hd A n c)
 refine vIf_mk (fun h1=>ans 2 ?_) (fun h1=>vIf_mk (fun h8=>ans 2 ?_) (fun h8=>?_))
 ·have h1:x.k < 1:=of_decide_eq_true h1
  unfold rgR
  rw [if_pos (.inl h1)]
 ·have h8:x.k > 8:=of_decide_eq_true h8
  unfold rgR
  rw [if_pos (.inr h8)]
 have h1:¬ x.k < 1:=of_decide_eq_false h1
 have h8:¬ x.k > 8:=of_decide_eq_false h8
 have hk:¬ (x.k < 1\/x.k > 8):=by omega
 have k10:¬ (x.k<=2/\x.dat.length > 65504)->¬ ((x.k=3\/x.k=4)/\¬ TagP ⟨x.nm.toArray⟩)->¬ ((x.k=6\/x.k=8)/\(x.n < 0\/x.n > 4294967295\/x.z < 0\/x.z > 4294967295))->jnC (F33.k10 (fun v w'=>v=.int .i64 (rgR x)/\Fr (fun _=>False) w w')) ((b1,0),x.k,()) w2:=by
  intro n1 n2 n3
  have u:rgR x=if x.k=7/\(x.n < 1\/x.n > 99999999) then 20 else 0:=by
   unfold rgR
   rw [if_neg hk,if_neg n1,if_neg n2,if_neg n3]
  refine jnC_mk (fun _=>vIf_mk (fun h7=>⟨_,c36,vIf_mk (fun h=>ans 20 ?_) (fun h=>⟨_,c36,vIf_mk (fun h'=>ans 20 ?_) (fun h'=>ans 0 ?_)⟩)⟩) (fun h7=>ans 0 ?_))
  ·have h7:x.k=7:=by simpa using h7
   have h:x.n < 1:=of_decide_eq_true h
   rw [u,if_pos ⟨h7,.inl h⟩]
  ·have h7:x.k=7:=by simpa using h7
   have h':x.n > 99999999:=of_decide_eq_true h'
   rw [u,if_pos ⟨h7,.inr h'⟩]
  ·have h:¬ x.n < 1:=of_decide_eq_false h
   have h':¬ x.n > 99999999:=of_decide_eq_false h'
   rw [u,if_neg (fun hh=>hh.2.elim h h')]
  ·have h7:¬ x.k=7:=by simpa using h7
   rw [u,if_neg (fun hh=>h7 hh.1)]
 have k8:¬ (x.k<=2/\x.dat.length > 65504)->¬ ((x.k=3\/x.k=4)/\¬ TagP ⟨x.nm.toArray⟩)->jnC (F33.k8 (fun v w'=>v=.int .i64 (rgR x)/\Fr (fun _=>False) w w')) ((b1,0),x.k,()) w2:=by
  intro n1 n2
  have e20:(x.k=6\/x.k=8)->(x.n < 0\/x.n > 4294967295\/x.z < 0\/x.z > 4294967295)->rgR x=20:=by
   intro h68 hh
   unfold rgR
   rw [if_neg hk,if_neg n1,if_neg n2,if_pos ⟨h68,hh⟩]
  have body:(x.k=6\/x.k=8)->ldI .i64 w2 b1 (0+36) fun i11=>vIf (decide (i11 < 0)) (Value.int .i64 20=.int .i64 (rgR x)/\Fr (fun _=>False) w w2) (ldI .i64 w2 b1 (0+37) fun i12=>vIf (decide (i12 < 0)) (Value.int .i64 20=.int .i64 (rgR x)/\Fr (fun _=>False) w w2) (ldI .i64 w2 b1 (0+36) fun i13=>vIf (decide (i13 >= 4294967296)) (Value.int .i64 20=.int .i64 (rgR x)/\Fr (fun _=>False) w w2) (ldI .i64 w2 b1 (0+37) fun i14=>vIf (decide (i14 >= 4294967296)) (Value.int .i64 20=.int .i64 (rgR x)/\Fr (fun _=>False) w w2) (jnC (F33.k10 (fun v w'=>v=.int .i64 (rgR x)/\Fr (fun _=>False) w w')) ((b1,0),x.k,()) w2)))):=by
   intro h68
   refine ⟨_,c36,vIf_mk (fun a1=>ans 20 (e20 h68 (.inl (of_decide_eq_true a1)))) (fun a1=>⟨_,c37,vIf_mk (fun a2=>ans 20 (e20 h68 (.inr (.inr (.inl (of_decide_eq_true a2)))))) (fun a2=>⟨_,c36,vIf_mk (fun a3=>ans 20 (e20 h68 (.inr (.inl ?_)))) (fun a3=>⟨_,c37,vIf_mk (fun a4=>ans 20 (e20 h68 (.inr (.inr (.inr ?_))))) (fun a4=>k10 n1 n2 ?_)⟩)⟩)⟩)⟩
   ·have a3:x.n >= 4294967296:=of_decide_eq_true a3
    omega
   ·have a4:x.z >= 4294967296:=of_decide_eq_true a4
    omega
   ·have a1:¬ x.n < 0:=of_decide_eq_false a1
    have a2:¬ x.z < 0:=of_decide_eq_false a2
    have a3:¬ x.n >= 4294967296:=of_decide_eq_false a3
    have a4:¬ x.z >= 4294967296:=of_decide_eq_false a4
    intro hh
    omega
  refine jnC_mk (fun _=>vIf_mk (fun h6=>body (.inl (by simpa using h6))) (fun h6=>vIf_mk (fun h8=>body (.inr (by simpa using h8))) (fun h8=>k10 n1 n2 ?_)))
  have h6:¬ x.k=6:=by simpa using h6
  have h8:¬ x.k=8:=by simpa using h8
  exact fun hh=>hh.1.elim h6 h8
 have k6:¬ (x.k<=2/\x.dat.length > 65504)->jnC (F33.k6 (fun v w'=>v=.int .i64 (rgR x)/\Fr (fun _=>False) w w')) ((b1,0),x.k,()) w2:=by
  intro n1
  have body:(x.k=3\/x.k=4)->ldS w2 b1 (0+34) fun s7=>Calls Tryz.prog 35 #[Value.string s7] w2 fun e9 w8=>∃ t10:Bool,e9=.returned (Value.bool t10)/\(vIf (!t10) (Value.int .i64 12=.int .i64 (rgR x)/\Fr (fun _=>False) w w8) (jnC (F33.k8 (fun v w'=>v=.int .i64 (rgR x)/\Fr (fun _=>False) w w')) ((b1,0),x.k,()) w8)):=by
   intro h34
   refine ⟨_,r1.cell (o:=34) (rc_name hd A n c),(rtag_calls _ w2 (by show x.nm.toArray.size<=_; rw [List.size_toArray]; omega)).mono ?_⟩
   rintro e u ⟨⟨t,rfl,ht⟩,rfl⟩
   refine ⟨t,rfl,vIf_mk (fun h=>ans 12 ?_) (fun h=>k8 n1 ?_)⟩
   ·have hno:¬ TagP ⟨x.nm.toArray⟩:=fun hp=>by rw [ht.2 hp] at h; cases h
    unfold rgR
    rw [if_neg hk,if_neg n1,if_pos ⟨h34,hno⟩]
   ·have hyes:TagP ⟨x.nm.toArray⟩:=ht.1 (by cases t <;> simp_all)
    exact fun hh=>hh.2 hyes
  refine jnC_mk (fun _=>vIf_mk (fun h3=>body (.inl (by simpa using h3))) (fun h3=>vIf_mk (fun h4=>body (.inr (by simpa using h4))) (fun h4=>k8 n1 ?_)))
  have h3:¬ x.k=3:=by simpa using h3
  have h4:¬ x.k=4:=by simpa using h4
  exact fun hh=>hh.1.elim h3 h4
 refine jnC_mk (fun _=>vIf_mk (fun h2=>⟨A,n,c,r1.cell (o:=35) (rc_data hd A n c),vIf_mk (fun h=>ans 18 ?_) (fun h=>k6 ?_)⟩) (fun h2=>k6 ?_))
 ·have h2:x.k<=2:=of_decide_eq_true h2
  have h:(n:Int) > 65504:=of_decide_eq_true h
  unfold rgR
  rw [if_neg hk,if_pos ⟨h2,by omega⟩]
 ·have h:¬ (n:Int) > 65504:=of_decide_eq_false h
  exact fun hh=>by have:=hh.2; omega
 ·have h2:¬ x.k<=2:=of_decide_eq_false h2
  exact fun hh=>h2 hh.1
theorem rdR_sq (k sq:Nat) (b:List UInt8):rdR k sq b=(rdR k 0 b).map (fun x=>{ x with sq:=sq }):=by
 unfold rdR
 split
 ·split
  ·rfl
  ·split
   ·split <;> rfl
   ·split <;> rfl
 ·split
  ·split <;> rfl
  ·split
   ·split <;> rfl
   ·split
    ·split <;> rfl
    ·split <;> rfl
theorem frP_k {b:List UInt8} {at_:Int} (h:(frP b at_).e=0):1<=(frP b at_).k/\(frP b at_).k<=8:=by
 unfold frP at h ⊢
 split
 ·rename_i h1; rw [if_pos h1] at h; exact absurd h (by decide)
 ·rename_i h1
  rw [if_neg h1] at h
  split
  ·rename_i h2
   show 1<=(frG (b.drop at_.toNat)).2.1/\(frG (b.drop at_.toNat)).2.1<=8
   generalize b.drop at_.toNat=r at h2 ⊢
   unfold frG at h2 ⊢
   split at h2
   ·exact absurd h2 (by decide)
   ·rename_i a1
    split at h2
    ·exact absurd h2 (by decide)
    ·rename_i a2
     split at h2
     ·exact absurd h2 (by decide)
     ·rename_i a3
      split at h2
      ·exact absurd h2 (by decide)
      ·rename_i a4
       split at h2
       ·exact absurd h2 (by decide)
       ·rename_i a5
        rw [if_neg a1,if_neg a2,if_neg a3,if_neg a4,if_neg a5]
        show 1<=kF r/\kF r<=8
        omega
  ·rename_i h2; rw [if_neg h2] at h; exact absurd h h2
theorem rcC_sts {x:Rc} (A:Option Addr) (n c:Nat) (s:Nat):splice (rcC x A n c) 1 [.int .u64 (s:Nat)]=rcC { x with sq:=s } A n c:=by
 have e:rcC x A n c=[.int .i64 x.k] ++ ([.int .u64 (x.sq:Nat)] ++ (x.d.map bv ++ [.string ⟨x.nm.toArray⟩,.slice A n c,.int .i64 x.n,.int .i64 x.z])):=by unfold rcC; simp
 rw [e,splice_app (by simp) (by simp)]
 unfold rcC; simp
set_option maxHeartbeats 2000000 in
theorem rparse_calls (A:Option Addr) (n c:Nat) (b:List UInt8) (at_:Int) (w:World) (h:Sl w 1 A n (b.map bv)) (hc:n<=c) (hn:n<=1099511627776) :
  Calls Tryz.prog 12 #[.slice A n c,.int .i64 at_] w fun e w'=>∃ v,e=.returned v/\RpA w w' v (recP b at_):=by
 have hl:=sl_len h
 refine F12.of A n c at_ w (Q:=fun v w'=>RpA w w' v (recP b at_)) ?_
 refine rec_new (fun b1 w2 f1 hb1 r1=>?_)
 have Z38:Z48.length=38:=rfl
 have err:∀ (k:Int) (u:World),recP b at_=(rc0,0,k)->Fr (fun _=>False) w u->RecAt u b1 48 Z48 ->
   gd ((rcC rc0 none 0 0).length == 38) (st u b1 0 (rcC rc0 none 0 0) fun w1=>ldA 38 w1 b1 0 fun a=>RpA w w1 (.tuple #[ofL a,.int .i64 0,.int .i64 k]) (recP b at_)):=by
  intro k u hk fu q1
  refine ansN_mk (N:=38) (K:=fun a w1=>RpA w w1 (.tuple #[ofL a,.int .i64 0,.int .i64 k]) (recP b at_)) q1 Z38 (rcC_len rc0_len _ _ _) (rcC_one _ _ _ _) (fun w' g=>?_)
  rw [hk]
  exact ⟨fr_var fu hb1 g,none,0,0,rfl,Sl.nil _ _ _,Nat.le_refl _⟩
 refine (rfparse_calls A n c b at_ w2 (f1.sl h (fun _ _ _ h=>h)) hc hn).mono ?_
 rintro e w3 ⟨_,rfl,f3,A3,n3,c3,rfl,hd3,hc3⟩
 have r1:=r1.fr f3 (fun h=>h)
 have f13:=f1.trans1 f3
 have hdl:=sl_len hd3
 have hdb:=frP_dlen b at_
 refine ⟨_,_,rfl,var_new (sz:=4) rfl rfl (frC_one _ _ _ _) (fun b7 w4 f4 hb7 r7=>?_)⟩
 have r1:=r1.fr f4 (fun h=>h)
 have f14:=f13.trans1 f4
 have hd4:=f4.sl hd3 (fun _ _ _ h=>h)
 refine vIf_mk (fun h0=>?_) (fun h0=>?_)
 ·have h0:(frP b at_).e ≠ 0:=by simpa using h0
  exact err _ w4 (by unfold recP; rw [if_pos h0]) f14 r1
 have h0:(frP b at_).e=0:=by simpa using h0
 have hk:=frP_k h0
 refine ⟨_,r7.cell (o:=0) rfl,A3,n3,c3,r7.cell (o:=2) rfl,(rread_calls (frP b at_).k A3 n3 c3 (frP b at_).d w4 hd4 hc3 (by omega) hk.1 hk.2).mono ?_⟩
 rintro e w5 ⟨_,rfl,f5,y,A5,n5,c5,rfl,hy,hd5,hc5,hfr,hx⟩
 have r1:=r1.fr f5 (fun h=>h)
 have r7:=r7.fr f5 (fun h=>h)
 have f15:=f14.trans1 f5
 refine ⟨_,_,rfl,var_new (sz:=38) Z38 (rcC_len hy _ _ _) (rcC_one _ _ _ _) (fun b21 w6 f6 hb21 r21=>?_)⟩
 have r1:=r1.fr f6 (fun h=>h)
 have r7:=r7.fr f6 (fun h=>h)
 have f16:=f15.trans1 f6
 have hd6:=f6.sl hd5 (fun _ _ _ h=>h)
 have hsq:=rdR_sq (frP b at_).k (frP b at_).sq (frP b at_).d
 cases hrd:rdR (frP b at_).k 0 (frP b at_).d with
 | none =>
  rw [hrd] at hsq
  refine vIf_t rfl (err 3 w6 ?_ f16 r1)
  unfold recP
  rw [if_neg (fun h=>h h0),hsq]; rfl
 | some x =>
  rw [hrd] at hsq
  obtain rfl:=hx x hrd
  have hnm:=rdR_nm hrd
  have hyl:=sl_len hd6
  refine vIf_f rfl ⟨_,rcC_len hy _ _ _,rec_all r21,(rrgt_calls y A5 n5 c5 w6 hy hyl.symm hnm.1).mono ?_⟩
  rintro e w7 ⟨rfl,f7⟩
  have r1:=r1.fr f7 (fun h=>h)
  have r7:=r7.fr f7 (fun h=>h)
  have r21:=r21.fr f7 (fun h=>h)
  have f17:=f16.trans1 f7
  have hd7:=f7.sl hd6 (fun _ _ _ h=>h)
  refine ⟨_,rfl,vIf_mk (fun hr=>?_) (fun hr=>?_)⟩
  ·have hr:rgR y ≠ 0:=by simpa using hr
   refine ⟨_,rcC_len hy _ _ _,rec_all r21,(rrgt_calls y A5 n5 c5 w7 hy hyl.symm hnm.1).mono ?_⟩
   rintro e w8 ⟨rfl,f8⟩
   refine ⟨_,rfl,err _ w8 ?_ (f17.trans1 f8) (r1.fr f8 (fun h=>h))⟩
   unfold recP
   rw [if_neg (fun h=>h h0),hsq]
   show (if rgR y ≠ 0 then _ else _)=_
   rw [if_pos hr]; rfl
  ·have hr:rgR y=0:=by simpa using hr
   have hp:recP b at_=({ y with sq:=(frP b at_).sq },(frP b at_).z,0):=by
    unfold recP
    rw [if_neg (fun h=>h h0),hsq]
    show (if rgR y ≠ 0 then _ else _)=_
    rw [if_neg (fun h=>h hr)]
   have hb71:b7 ≠ b1:=by
    intro e
    have:=(RecAt.lt (w:=w3) (by assumption:RecAt w3 b1 _ _))
    omega
   have l1:=(RecAt.lt (w:=w4) (by assumption:RecAt w4 b1 _ _))
   have l7:=(RecAt.lt (w:=w4) (by assumption:RecAt w4 b7 _ _))
   have hs5:=f5.size
   have hb1n:b21 ≠ b1:=by omega
   have hb7n:b21 ≠ b7:=by omega
   refine ⟨_,r7.cell (o:=1) rfl,r21.st_mk (o:=1) (vs:=[.int .u64 ((frP b at_).sq:Nat)]) (by rw [rcC_len hy]; show 1+1<=38; omega) (fun v hv=>by simp at hv; subst hv; rfl) (fun r22 g1=>?_)⟩
   rw [rcC_sts] at r22
   have r1:=r1.fr g1 (fun h=>hb1n h.symm)
   have r7:=r7.fr g1 (fun h=>hb7n h.symm)
   have f18:=fr_var f17 (by have:=f15.size; omega) g1
   have hblk:∀ q,blkOf A5=some q->q ≠ b1:=fun q hq=>by have:=hfr q hq; omega
   have hblk2:∀ q,blkOf A5=some q->n5 ≠ 0->q ≠ b21:=fun q hq h0=>by
    have:=(hd5.blt (by decide) h0 hq)
    omega
   have hd8:=g1.sl hd7 (fun hn0 k hk he=>hblk2 k hk hn0 he)
   generalize stB w7 b21 1 [Value.int .u64 ((frP b at_).sq:Nat)]=w8 at r22 r1 r7 f18 hd8
   have fd:Fr (fun _=>False) w8 w8.drew:=Fr.drew _ _
   have r1:=r1.fr fd (fun h=>h)
   have r7:=r7.fr fd (fun h=>h)
   have r22:=r22.fr fd (fun h=>h)
   have f1d:=f18.trans1 fd
   have hdd:=fd.sl hd8 (fun _ _ _ h=>h)
   have hy':({ y with sq:=(frP b at_).sq }:Rc).d.length=32:=hy
   refine ⟨_,rcC_len hy' _ _ _,rec_all r22,_,r7.cell (o:=3) rfl,gd_mk (by rw [rcC_len hy']; rfl) (r1.st_mk (o:=0) (by rw [rcC_len hy',Z38]; omega) (rcC_one _ _ _ _) (fun q1 g=>?_))⟩
   rw [splice_full (by rw [rcC_len hy',Z38])] at q1
   refine kp_mk g r7.lt (fun h=>hb71 h) ⟨_,rcC_len hy' _ _ _,rec_all q1,?_⟩
   rw [hp]
   exact ⟨fr_var f1d hb1 g,A5,n5,c5,rfl,g.sl hdd (fun hn0 k hk he=>hblk k hk he),hc5⟩
end Go.Proofs.YtodmachaofepkaaGreatDoor
namespace Go.Proofs.YtodmachaofepkaaGreatDoor
open Go.GV
structure Wo where
 k:Int
 sq:Nat
 d:List UInt8
 nm:List UInt8
 z:Int
 s:Int
 o:Int
 q:Int
def wdR (x:Rc) (s o q:Int):Wo :=
 if x.k=1\/x.k=2 then ⟨x.k,x.sq,x.d,[],(x.dat.length:Int),s,o,q⟩
 else if x.k=5 then ⟨x.k,x.sq,x.d,[],0,s,o,q⟩
 else if x.k=3 then ⟨x.k,x.sq,x.d,x.nm,0,s,o,q⟩
 else if x.k=4 then ⟨x.k,x.sq,z32,x.nm,0,s,o,q⟩
 else if x.k=6\/x.k=8 then ⟨x.k,x.sq,z32,[],x.z,s,o,q⟩
 else ⟨x.k,x.sq,z32,[],0,s,o,q⟩
def woC (x:Wo):List Value:=[.int .i64 x.k,.int .u64 (x.sq:Nat)] ++ (x.d.map bv ++ [.string ⟨x.nm.toArray⟩,.int .i64 x.z,.int .i64 x.s,.int .i64 x.o,.int .i64 x.q])
theorem woC_len {x:Wo} (h:x.d.length=32):(woC x).length=39:=by simp [woC,h]
theorem woC_one (x:Wo):∀ v ∈ woC x,v.oneCell'=true:=by
 intro v hv
 unfold woC at hv
 rcases List.mem_append.1 hv with h | h
 ·simp only [List.mem_cons,List.not_mem_nil,or_false] at h
  rcases h with rfl | rfl <;> rfl
 ·rcases List.mem_append.1 h with h | h
  ·exact bvs_one _ v h
  ·simp only [List.mem_cons,List.not_mem_nil,or_false] at h
   rcases h with rfl | rfl | rfl | rfl | rfl <;> rfl
theorem wdR_len {x:Rc} (h:x.d.length=32) (s o q:Int):(wdR x s o q).d.length=32:=by
 unfold wdR
 split
 ·exact h
 ·split
  ·exact h
  ·split
   ·exact h
   ·split
    ·exact z32_len
    ·split <;> exact z32_len
theorem woC_std {x:Wo} (h:x.d.length=32) {d:List UInt8} (hd:d.length=32):splice (woC x) 2 (d.map bv)=woC { x with d:=d }:=by
 unfold woC
 exact splice_app rfl (by simp [h,hd])
theorem woC_stn {x:Wo} (h:x.d.length=32) (s:List UInt8):splice (woC x) 34 [.string ⟨s.toArray⟩]=woC { x with nm:=s }:=by
 have e:woC x=([.int .i64 x.k,.int .u64 (x.sq:Nat)] ++ x.d.map bv) ++ ([.string ⟨x.nm.toArray⟩] ++ [.int .i64 x.z,.int .i64 x.s,.int .i64 x.o,.int .i64 x.q]):=by unfold woC; simp
 rw [e,splice_app (by simp [h]) (by simp)]
 unfold woC; simp
theorem woC_stz {x:Wo} (h:x.d.length=32) (m:Int):splice (woC x) 35 [.int .i64 m]=woC { x with z:=m }:=by
 have e:woC x=([.int .i64 x.k,.int .u64 (x.sq:Nat)] ++ x.d.map bv ++ [.string ⟨x.nm.toArray⟩]) ++ ([.int .i64 x.z] ++ [.int .i64 x.s,.int .i64 x.o,.int .i64 x.q]):=by unfold woC; simp
 rw [e,splice_app (by simp [h]) (by simp)]
 unfold woC; simp
theorem woC_end {x:Wo} (h:x.d.length=32) (j:Nat):(woC x)[34+j]?=([Value.string ⟨x.nm.toArray⟩,.int .i64 x.z,.int .i64 x.s,.int .i64 x.o,.int .i64 x.q]:List Value)[j]?:=by
 unfold woC
 rw [List.getElem?_append_right (show 2<=34+j by omega),List.getElem?_append_right (by simp [h]; omega)]
 congr 1
 simp [h]; omega
end Go.Proofs.YtodmachaofepkaaGreatDoor
namespace Go.Proofs.YtodmachaofepkaaGreatDoor
open Go.GV Go.RowKit Go.Lib
set_option maxHeartbeats 2000000 in
theorem word39_calls (x:Rc) (A:Option Addr) (n c:Nat) (s o q:Int) (w:World) (hd:x.d.length=32) (hn:n=x.dat.length) :
  Calls Tryz.prog 94 #[ofL (rcC x A n c),ofL [.int .i64 s,.int .i64 o,.int .i64 q]] w fun e w'=>e=.returned (ofL (woC (wdR x s o q)))/\Fr (fun _=>False) w w':=by
 refine (F94.of _ _ w (Q:=fun v w'=>v=ofL (woC (wdR x s o q))/\Fr (fun _=>False) w w') ?_).mono (fun e w' ⟨v,he,hv,h⟩=>⟨by rw [he,hv],h⟩)
 refine rec_new (fun b1 w2 f1 hb1 r1=>rec_new (fun b3 w4 f3 hb3 r3=>rec_new (fun b5 w6 f5 hb5 r5=>?_)))
 have r1:=(r1.fr f3 (fun h=>h)).fr f5 (fun h=>h)
 have r3:=r3.fr f5 (fun h=>h)
 have f16:=(f1.trans1 f3).trans1 f5
 have hb5':w.heap.size<=b5:=by have:=(f1.trans1 f3).size; omega
 have Z39:Z56.length=39:=rfl
 refine ⟨_,r1.cell (o:=0) (v:=.int .i64 x.k) rfl,_,r1.cell (o:=1) (v:=.int .u64 (x.sq:Nat)) rfl,[.int .i64 s,.int .i64 o,.int .i64 q],rfl,rec_all r3,gd_mk rfl ?_⟩
 generalize hy:(⟨x.k,x.sq,z32,[],0,s,o,q⟩:Wo)=y
 have dy:y.d.length=32:=by rw [<- hy]; exact z32_len
 have lay:∀ (u:World) (K:Nat->World->Prop),(∀ b w',Fr (fun _=>False) u w'->u.heap.size<=b->RecAt w' b 56 (woC ⟨x.k,x.sq,z32,[],0,s,o,q⟩)->K b w')->nw u Z56 56 fun b w1=>gd ((woC ⟨x.k,x.sq,z32,[],0,s,o,q⟩).length == 39) (st w1 b 0 (woC ⟨x.k,x.sq,z32,[],0,s,o,q⟩) fun w2=>K b w2) :=
  fun u K hK=>var_new (sz:=39) Z39 (woC_len z32_len) (woC_one _) hK
 refine lay w6 _ (fun b10 w12 f10 hb10 r10=>?_)
 rw [hy] at r10
 have r1:=r1.fr f10 (fun h=>h)
 have r5:=r5.fr f10 (fun h=>h)
 have f1c:=f16.trans1 f10
 have l5:=(RecAt.lt (w:=w6) (by assumption:RecAt w6 b5 _ _))
 have l1:=(RecAt.lt (w:=w6) (by assumption:RecAt w6 b1 _ _))
 have n5:b5 ≠ b10:=by omega
 have n1:b1 ≠ b10:=by omega
 have hb10':w.heap.size<=b10:=by have:=f16.size; omega
 have cD:cellsAt w12 b1 2 (x.d.map bv):=r1.cells (o:=2) (fun j v hj=>rcC_d hd A n c j v hj)
 have fin:∀ (u:World) (z:Wo),z=wdR x s o q->Fr (fun k=>k=b10) w12 u->RecAt u b10 56 (woC z) ->
   ldA 39 u b10 0 fun a=>gd (a.length == 39) (st u b5 0 a fun w1=>ldA 39 w1 b5 0 fun a'=>ofL a'=ofL (woC (wdR x s o q))/\Fr (fun _=>False) w w1):=by
  rintro u z rfl g q10
  exact cp_mk (N:=39) (K:=fun a' w1=>ofL a'=ofL (woC (wdR x s o q))/\Fr (fun _=>False) w w1) q10 (woC_len (wdR_len hd _ _ _)) (r5.fr g (fun h=>n5 h)) Z39 (woC_one _) (fun w' g2=>⟨rfl,fr_var (fr_var f1c hb10' g) hb5' g2⟩)
 have stD:∀ (u:World) (z:Wo) (K:World->Prop),z.d.length=32->Fr (fun k=>k=b10) w12 u->RecAt u b10 56 (woC z)->(∀ u',Fr (fun k=>k=b10) w12 u'->RecAt u' b10 56 (woC { z with d:=x.d })->K u')->ldA 32 u b1 (0+2) fun a=>gd (a.length == 32) (st u b10 (0+2) a fun u'=>K u'):=by
  intro u z K hz g q10 hK
  refine ⟨x.d.map bv,by rw [List.length_map,hd],g.cells cD (fun h=>n1 h),gd_mk (by rw [List.length_map,hd]; rfl) (q10.st_mk (o:=2) (by rw [woC_len hz,List.length_map,hd]; omega) (bvs_one _) (fun q11 g2=>hK _ (g.trans1 g2) ?_))⟩
  rw [woC_std hz hd] at q11
  exact q11
 have stN:∀ (u:World) (z:Wo) (K:World->Prop),z.d.length=32->Fr (fun k=>k=b10) w12 u->RecAt u b10 56 (woC z)->(∀ u',Fr (fun k=>k=b10) w12 u'->RecAt u' b10 56 (woC { z with nm:=x.nm })->K u')->ldS u b1 (0+34) fun t=>st u b10 (0+34) [Value.string t] fun u'=>K u':=by
  intro u z K hz g q10 hK
  refine ⟨_,g.cell (r1.cell (o:=34) (rc_name hd A n c)) (fun h=>n1 h),q10.st_mk (o:=34) (by rw [woC_len hz]; show 34+1<=39; omega) (fun v hv=>by simp at hv; subst hv; rfl) (fun q11 g2=>hK _ (g.trans1 g2) ?_)⟩
  rw [woC_stn hz] at q11
  exact q11
 have stZ:∀ (m:Int) (K:World->Prop),(∀ u',Fr (fun k=>k=b10) w12 u'->RecAt u' b10 56 (woC { y with z:=m })->K u')->st w12 b10 (0+35) [Value.int .i64 m] fun u'=>K u':=by
  intro m K hK
  refine r10.st_mk (o:=35) (by rw [woC_len dy]; show 35+1<=39; omega) (fun v hv=>by simp at hv; subst hv; rfl) (fun q11 g2=>hK _ g2 ?_)
  rw [woC_stz dy] at q11
  exact q11
 have F0:Fr (fun k=>k=b10) w12 w12:=Fr.refl _ _
 have b12:(x.k=1\/x.k=2)->ldSl w12 b1 (0+35) fun A14 n15 c16=>st w12 b10 (0+35) [Value.int .i64 ((n15:Nat):Int)] fun w17=>ldA 32 w17 b1 (0+2) fun a18=>gd (a18.length == 32) (st w17 b10 (0+2) a18 fun w19=>ldA 39 w19 b10 0 fun a=>gd (a.length == 39) (st w19 b5 0 a fun w1=>ldA 39 w1 b5 0 fun a'=>ofL a'=ofL (woC (wdR x s o q))/\Fr (fun _=>False) w w1)):=by
  intro h12
  refine ⟨A,n,c,r1.cell (o:=35) (rc_data hd A n c),stZ _ _ (fun u g q1=>stD u { y with z:=(n:Int) } _ dy g q1 (fun u' g' q2=>fin u' _ ?_ g' q2))⟩
  unfold wdR
  rw [if_pos h12,<- hy,hn]
 have k5:¬ (x.k=1\/x.k=2)->jnC (F94.k5 (fun v w'=>v=ofL (woC (wdR x s o q))/\Fr (fun _=>False) w w')) ((b1,0),(b5,0),(b10,0),x.k,()) w12:=by
  intro h12
  refine jnC_mk (fun _=>vIf_mk (fun h5=>stD w12 y _ dy F0 r10 (fun u g q1=>fin u _ ?_ g q1)) (fun h5=>vIf_mk (fun h3=>stD w12 y _ dy F0 r10 (fun u g q1=>stN u { y with d:=x.d } _ hd g q1 (fun u' g' q2=>fin u' _ ?_ g' q2))) (fun h3=>vIf_mk (fun h4=>stN w12 y _ dy F0 r10 (fun u g q1=>fin u _ ?_ g q1)) (fun h4=>vIf_mk (fun h6=>vIf_mk (fun h6'=>⟨_,r1.cell (o:=37) (rc_z hd A n c),stZ _ _ (fun u g q1=>fin u _ ?_ g q1)⟩) (fun h6'=>?_)) (fun h6=>vIf_mk (fun h8=>⟨_,r1.cell (o:=37) (rc_z hd A n c),stZ _ _ (fun u g q1=>fin u _ ?_ g q1)⟩) (fun h8=>fin w12 y ?_ F0 r10))))))
  ·have h5:x.k=5:=by simpa using h5
   unfold wdR
   rw [if_neg h12,if_pos h5,<- hy]
  ·have h5:¬ x.k=5:=by simpa using h5
   have h3:x.k=3:=by simpa using h3
   unfold wdR
   rw [if_neg h12,if_neg h5,if_pos h3,<- hy]
  ·have h5:¬ x.k=5:=by simpa using h5
   have h3:¬ x.k=3:=by simpa using h3
   have h4:x.k=4:=by simpa using h4
   unfold wdR
   rw [if_neg h12,if_neg h5,if_neg h3,if_pos h4,<- hy]
  ·have h5:¬ x.k=5:=by simpa using h5
   have h3:¬ x.k=3:=by simpa using h3
   have h4:¬ x.k=4:=by simpa using h4
   have h6:x.k=6:=by simpa using h6
   unfold wdR
   rw [if_neg h12,if_neg h5,if_neg h3,if_neg h4,if_pos (.inl h6),<- hy]
  ·rw [h6] at h6'; cases h6'
  ·have h5:¬ x.k=5:=by simpa using h5
   have h3:¬ x.k=3:=by simpa using h3
   have h4:¬ x.k=4:=by simpa using h4
   have h8:x.k=8:=by simpa using h8
   unfold wdR
   rw [if_neg h12,if_neg h5,if_neg h3,if_neg h4,if_pos (.inr h8),<- hy]
  ·have h5:¬ x.k=5:=by simpa using h5
   have h3:¬ x.k=3:=by simpa using h3
   have h4:¬ x.k=4:=by simpa using h4
   have h6:¬ x.k=6:=by simpa using h6
   have h8:¬ x.k=8:=by simpa using h8
   unfold wdR
   rw [if_neg h12,if_neg h5,if_neg h3,if_neg h4,if_neg (fun h=>h.elim h6 h8),<- hy]
 refine ⟨_,r1.cell (o:=0) (v:=.int .i64 x.k) rfl,vIf_mk (fun h1=>vIf_mk (fun h1'=>b12 (.inl (by simpa using h1))) (fun h1'=>?_)) (fun h1=>vIf_mk (fun h2=>b12 (.inr (by simpa using h2))) (fun h2=>k5 ?_))⟩
 ·rw [h1] at h1'; cases h1'
 ·have h1:¬ x.k=1:=by simpa using h1
  have h2:¬ x.k=2:=by simpa using h2
  exact fun h=>h.elim h1 h2
def bareR (x:Rc):Rc:=⟨x.k,x.sq,if x.k<=3\/x.k=5 then x.d else z32,if x.k=3\/x.k=4 then x.nm else [],if x.k<=2 then x.dat else [],if x.k >= 6 then x.n else 0,if x.k=6\/x.k=8 then x.z else 0⟩
theorem bareR_len {x:Rc} (h:x.d.length=32):(bareR x).d.length=32:=by
 unfold bareR
 dsimp only
 split
 ·exact h
 ·exact z32_len
theorem wdR_bare {x:Rc} (s o q:Int) (h1:¬ x.k < 1) (h8:¬ x.k > 8):wdR x s o q=⟨x.k,x.sq,(bareR x).d,(bareR x).nm,((bareR x).dat.length:Int)+(bareR x).z,s,o,q⟩:=by
 have hk:x.k=1\/x.k=2\/x.k=3\/x.k=4\/x.k=5\/x.k=6\/x.k=7\/x.k=8:=by omega
 unfold wdR bareR
 rcases hk with h | h | h | h | h | h | h | h <;> rw [h] <;> simp
set_option maxHeartbeats 2000000 in
theorem bare_calls (x:Rc) (A:Option Addr) (n c:Nat) (w:World) (hd:x.d.length=32) :
  Calls Tryz.prog 65 #[ofL (rcC x A n c)] w fun e w'=>e=.returned (ofL (if x.k<=2 then rcC (bareR x) A n c else rcC (bareR x) none 0 0))/\Fr (fun _=>False) w w':=by
 refine (F65.of _ w (Q:=fun v w'=>v=ofL (if x.k<=2 then rcC (bareR x) A n c else rcC (bareR x) none 0 0)/\Fr (fun _=>False) w w') ?_).mono (fun e w' ⟨v,he,hv,h⟩=>⟨by rw [he,hv],h⟩)
 generalize hR:(if x.k<=2 then rcC (bareR x) A n c else rcC (bareR x) none 0 0)=R
 have hRl:R.length=38:=by rw [<- hR]; split <;> exact rcC_len (bareR_len hd) _ _ _
 have hR1:∀ v ∈ R,v.oneCell'=true:=by rw [<- hR]; split <;> exact rcC_one _ _ _ _
 refine rec_new (fun b1 w2 f1 hb1 r1=>rec_new (fun b3 w4 f3 hb3 r3=>?_))
 have r1:=r1.fr f3 (fun h=>h)
 have f13:=f1.trans1 f3
 have hb3':w.heap.size<=b3:=by have:=f1.size; omega
 have Z38:Z48.length=38:=rfl
 refine ⟨_,r1.cell (o:=0) (v:=.int .i64 x.k) rfl,_,r1.cell (o:=1) (v:=.int .u64 (x.sq:Nat)) rfl,?_⟩
 have lay:∀ (u:World) (K:Nat->World->Prop),(∀ b w',Fr (fun _=>False) u w'->u.heap.size<=b->RecAt w' b 48 (rcC ⟨x.k,x.sq,z32,[],[],0,0⟩ none 0 0)->K b w')->nw u Z48 48 fun b w1=>gd ((rcC ⟨x.k,x.sq,z32,[],[],0,0⟩ none 0 0).length == 38) (st w1 b 0 (rcC ⟨x.k,x.sq,z32,[],[],0,0⟩ none 0 0) fun w2=>K b w2) :=
  fun u K hK=>var_new (sz:=38) Z38 (rcC_len z32_len _ _ _) (rcC_one _ _ _ _) hK
 refine lay w4 _ (fun b7 w9 f7 hb7 r7=>?_)
 have r1:=r1.fr f7 (fun h=>h)
 have r3:=r3.fr f7 (fun h=>h)
 have f17:=f13.trans1 f7
 have l1:=(RecAt.lt (w:=w4) (by assumption:RecAt w4 b1 _ _))
 have l3:=(RecAt.lt (w:=w4) (by assumption:RecAt w4 b3 _ _))
 have n1:b1 ≠ b7:=by omega
 have n3:b3 ≠ b7:=by omega
 have hb7':w.heap.size<=b7:=by have:=f13.size; omega
 have cD:cellsAt w9 b1 2 (x.d.map bv):=r1.cells (o:=2) (fun j v hj=>rcC_d hd A n c j v hj)
 have fin:∀ (u:World) (cs:List Value),cs=R->Fr (fun k=>k=b7) w9 u->RecAt u b7 48 cs ->
   ldA 38 u b7 0 fun a=>gd (a.length == 38) (st u b3 0 a fun w1=>ldA 38 w1 b3 0 fun a'=>ofL a'=ofL R/\Fr (fun _=>False) w w1):=by
  rintro u cs rfl g q7
  exact cp_mk (N:=38) (K:=fun a' w1=>ofL a'=ofL cs/\Fr (fun _=>False) w w1) q7 hRl (r3.fr g (fun h=>n3 h)) Z38 hR1 (fun w' g2=>⟨rfl,fr_var (fr_var f17 hb7' g) hb3' g2⟩)
 have fA:∀ (y:Rc) (A':Option Addr) (n' c':Nat),y=bareR x->(x.k<=2->A'=A/\n'=n/\c'=c)->(¬ x.k<=2->A'=none/\n'=0/\c'=0)->rcC y A' n' c'=R:=by
  rintro y A' n' c' rfl h2 h3
  rw [<- hR]
  split
  ·rename_i h; obtain ⟨rfl,rfl,rfl⟩:=h2 h; rfl
  ·rename_i h; obtain ⟨rfl,rfl,rfl⟩:=h3 h; rfl
 have k11:∀ (u:World) (y:Rc) (A':Option Addr) (n' c':Nat),y={ bareR x with z:=0 }->(x.k<=2->A'=A/\n'=n/\c'=c)->(¬ x.k<=2->A'=none/\n'=0/\c'=0)->Fr (fun k=>k=b7) w9 u->RecAt u b7 48 (rcC y A' n' c')->jnC (F65.k11 (fun v w'=>v=ofL R/\Fr (fun _=>False) w w')) ((b1,0),(b3,0),x.k,(b7,0),()) u:=by
  rintro u y A' n' c' rfl h2 h3 g q7
  have hz:(x.k=6\/x.k=8)->ldI .i64 u b1 (0+37) fun i20=>st u b7 (0+37) [Value.int .i64 i20] fun w21=>ldA 38 w21 b7 0 fun a=>gd (a.length == 38) (st w21 b3 0 a fun w1=>ldA 38 w1 b3 0 fun a'=>ofL a'=ofL R/\Fr (fun _=>False) w w1):=by
   intro h68
   have dl:({ bareR x with z:=0 }:Rc).d.length=32:=bareR_len hd
   refine ⟨_,g.cell (r1.cell (o:=37) (rc_z hd A n c)) (fun h=>n1 h),q7.st_mk (o:=37) (by rw [rcC_len dl]; show 37+1<=38; omega) (fun v hv=>by simp at hv; subst hv; rfl) (fun q8 g2=>fin _ _ (fA { bareR x with z:=x.z } A' n' c' ?_ h2 h3) (g.trans1 g2) ?_)⟩
   ·unfold bareR
    rw [if_pos (c:=x.k=6\/x.k=8) h68]
   ·rw [rcC_stz dl] at q8
    exact q8
  refine jnC_mk (fun _=>vIf_mk (fun h6=>hz (.inl (by simpa using h6))) (fun h6=>vIf_mk (fun h8=>hz (.inr (by simpa using h8))) (fun h8=>fin u _ (fA _ A' n' c' ?_ h2 h3) g q7)))
  have h6:¬ x.k=6:=by simpa using h6
  have h8:¬ x.k=8:=by simpa using h8
  unfold bareR
  rw [if_neg (c:=x.k=6\/x.k=8) (fun h=>h.elim h6 h8)]
 have k9:∀ (u:World) (y:Rc) (A':Option Addr) (n' c':Nat),y={ bareR x with n:=0,z:=0 }->(x.k<=2->A'=A/\n'=n/\c'=c)->(¬ x.k<=2->A'=none/\n'=0/\c'=0)->Fr (fun k=>k=b7) w9 u->RecAt u b7 48 (rcC y A' n' c')->jnC (F65.k9 (fun v w'=>v=ofL R/\Fr (fun _=>False) w w')) ((b1,0),(b3,0),x.k,(b7,0),()) u:=by
  rintro u y A' n' c' rfl h2 h3 g q7
  have dl:({ bareR x with n:=0,z:=0 }:Rc).d.length=32:=bareR_len hd
  refine jnC_mk (fun _=>vIf_mk (fun h6=>⟨_,g.cell (r1.cell (o:=36) (rc_n hd A n c)) (fun h=>n1 h),q7.st_mk (o:=36) (by rw [rcC_len dl]; show 36+1<=38; omega) (fun v hv=>by simp at hv; subst hv; rfl) (fun q8 g2=>?_)⟩) (fun h6=>k11 u _ A' n' c' ?_ h2 h3 g q7))
  ·have h6:x.k >= 6:=of_decide_eq_true h6
   rw [rcC_stm dl] at q8
   refine k11 _ _ A' n' c' ?_ h2 h3 (g.trans1 g2) q8
   unfold bareR
   rw [if_pos (c:=x.k >= 6) h6]
  ·have h6:¬ x.k >= 6:=of_decide_eq_false h6
   unfold bareR
   rw [if_neg (c:=x.k >= 6) h6]
 have k7:∀ (u:World) (y:Rc) (A':Option Addr) (n' c':Nat),y={ bareR x with nm:=[],n:=0,z:=0 }->(x.k<=2->A'=A/\n'=n/\c'=c)->(¬ x.k<=2->A'=none/\n'=0/\c'=0)->Fr (fun k=>k=b7) w9 u->RecAt u b7 48 (rcC y A' n' c')->jnC (F65.k7 (fun v w'=>v=ofL R/\Fr (fun _=>False) w w')) ((b1,0),(b3,0),x.k,(b7,0),()) u:=by
  rintro u y A' n' c' rfl h2 h3 g q7
  have dl:({ bareR x with nm:=[],n:=0,z:=0 }:Rc).d.length=32:=bareR_len hd
  have nm:(x.k=3\/x.k=4)->ldS u b1 (0+34) fun t=>st u b7 (0+34) [Value.string t] fun w17=>jnC (F65.k9 (fun v w'=>v=ofL R/\Fr (fun _=>False) w w')) ((b1,0),(b3,0),x.k,(b7,0),()) w17:=by
   intro h34
   refine ⟨_,g.cell (r1.cell (o:=34) (rc_name hd A n c)) (fun h=>n1 h),q7.st_mk (o:=34) (by rw [rcC_len dl]; show 34+1<=38; omega) (fun v hv=>by simp at hv; subst hv; rfl) (fun q8 g2=>?_)⟩
   rw [rcC_stn dl] at q8
   refine k9 _ _ A' n' c' ?_ h2 h3 (g.trans1 g2) q8
   unfold bareR
   rw [if_pos (c:=x.k=3\/x.k=4) h34]
  refine jnC_mk (fun _=>vIf_mk (fun h=>nm (.inl (by simpa using h))) (fun h=>vIf_mk (fun h'=>nm (.inr (by simpa using h'))) (fun h'=>k9 u _ A' n' c' ?_ h2 h3 g q7)))
  have h:¬ x.k=3:=by simpa using h
  have h':¬ x.k=4:=by simpa using h'
  unfold bareR
  rw [if_neg (c:=x.k=3\/x.k=4) (fun hh=>hh.elim h h')]
 have k5:∀ (u:World) (y:Rc),y={ bareR x with nm:=[],dat:=[],n:=0,z:=0 }->Fr (fun k=>k=b7) w9 u->RecAt u b7 48 (rcC y none 0 0)->jnC (F65.k5 (fun v w'=>v=ofL R/\Fr (fun _=>False) w w')) ((b1,0),(b3,0),x.k,(b7,0),()) u:=by
  rintro u y rfl g q7
  have dl:({ bareR x with nm:=[],dat:=[],n:=0,z:=0 }:Rc).d.length=32:=bareR_len hd
  refine jnC_mk (fun _=>vIf_mk (fun h2=>⟨A,n,c,g.cell (r1.cell (o:=35) (rc_data hd A n c)) (fun h=>n1 h),q7.st_mk (o:=35) (by rw [rcC_len dl]; show 35+1<=38; omega) (fun v hv=>by simp at hv; subst hv; rfl) (fun q8 g2=>?_)⟩) (fun h2=>?_))
  ·have h2:x.k<=2:=of_decide_eq_true h2
   rw [rcC_sta dl] at q8
   exact k7 _ { bareR x with nm:=[],n:=0,z:=0 } A n c rfl (fun _=>⟨rfl,rfl,rfl⟩) (fun h=>absurd h2 h) (g.trans1 g2) q8
  ·have h2:¬ x.k<=2:=of_decide_eq_false h2
   exact k7 u { bareR x with nm:=[],n:=0,z:=0 } none 0 0 rfl (fun h=>absurd h h2) (fun _=>⟨rfl,rfl,rfl⟩) g q7
 have F0:Fr (fun k=>k=b7) w9 w9:=Fr.refl _ _
 have dg:(x.k<=3\/x.k=5)->ldA 32 w9 b1 (0+2) fun a=>gd (a.length == 32) (st w9 b7 (0+2) a fun u'=>jnC (F65.k5 (fun v w'=>v=ofL R/\Fr (fun _=>False) w w')) ((b1,0),(b3,0),x.k,(b7,0),()) u'):=by
  intro h35
  have dl:(⟨x.k,x.sq,z32,[],[],0,0⟩:Rc).d.length=32:=z32_len
  refine ⟨x.d.map bv,by rw [List.length_map,hd],cD,gd_mk (by rw [List.length_map,hd]; rfl) (r7.st_mk (o:=2) (by rw [rcC_len dl,List.length_map,hd]; omega) (bvs_one _) (fun q8 g2=>?_))⟩
  rw [rcC_std dl _ _ _ hd] at q8
  refine k5 _ _ ?_ g2 q8
  unfold bareR
  rw [if_pos (c:=x.k<=3\/x.k=5) h35]
 refine vIf_mk (fun h=>dg (.inl (of_decide_eq_true h))) (fun h=>vIf_mk (fun h'=>dg (.inr (by simpa using h'))) (fun h'=>k5 w9 _ ?_ F0 r7))
 have h:¬ x.k<=3:=of_decide_eq_false h
 have h':¬ x.k=5:=by simpa using h'
 unfold bareR
 rw [if_neg (c:=x.k<=3\/x.k=5) (fun hh=>hh.elim h h')]
set_option maxHeartbeats 2000000 in
theorem rword39_calls (x:Rc) (A:Option Addr) (n c:Nat) (s o q:Int) (w:World) (hd:x.d.length=32) (hn:n=x.dat.length) (hB:n<=1099511627776) (hz : -1099511627776<=x.z/\x.z<=1099511627776) :
  Calls Tryz.prog 34 #[ofL (rcC x A n c),ofL [.int .i64 s,.int .i64 o,.int .i64 q]] w fun e w'=>e=.returned (ofL (woC (wdR x s o q)))/\Fr (fun _=>False) w w':=by
 refine (F34.of _ _ w (Q:=fun v w'=>v=ofL (woC (wdR x s o q))/\Fr (fun _=>False) w w') ?_).mono (fun e w' ⟨v,he,hv,h⟩=>⟨by rw [he,hv],h⟩)
 refine rec_new (fun b1 w2 f1 hb1 r1=>rec_new (fun b3 w4 f3 hb3 r3=>rec_new (fun b5 w6 f5 hb5 r5=>?_)))
 have r1:=(r1.fr f3 (fun h=>h)).fr f5 (fun h=>h)
 have r3:=r3.fr f5 (fun h=>h)
 have f16:=(f1.trans1 f3).trans1 f5
 have hb5':w.heap.size<=b5:=by have:=(f1.trans1 f3).size; omega
 have Z39:Z56.length=39:=rfl
 refine ⟨_,r1.cell (o:=0) (v:=.int .i64 x.k) rfl,_,r1.cell (o:=1) (v:=.int .u64 (x.sq:Nat)) rfl,[.int .i64 s,.int .i64 o,.int .i64 q],rfl,rec_all r3,gd_mk rfl ?_⟩
 generalize hy:(⟨x.k,x.sq,z32,[],0,s,o,q⟩:Wo)=y
 have dy:y.d.length=32:=by rw [<- hy]; exact z32_len
 have lay:∀ (u:World) (K:Nat->World->Prop),(∀ b w',Fr (fun _=>False) u w'->u.heap.size<=b->RecAt w' b 56 (woC ⟨x.k,x.sq,z32,[],0,s,o,q⟩)->K b w')->nw u Z56 56 fun b w1=>gd ((woC ⟨x.k,x.sq,z32,[],0,s,o,q⟩).length == 39) (st w1 b 0 (woC ⟨x.k,x.sq,z32,[],0,s,o,q⟩) fun w2=>K b w2) :=
  fun u K hK=>var_new (sz:=39) Z39 (woC_len z32_len) (woC_one _) hK
 refine lay w6 _ (fun b10 w12 f10 hb10 r10=>?_)
 rw [hy] at r10
 have r1:=r1.fr f10 (fun h=>h)
 have r5:=r5.fr f10 (fun h=>h)
 have f1c:=f16.trans1 f10
 have l5:=(RecAt.lt (w:=w6) (by assumption:RecAt w6 b5 _ _))
 have l1:=(RecAt.lt (w:=w6) (by assumption:RecAt w6 b1 _ _))
 have n5:b5 ≠ b10:=by omega
 have n1:b1 ≠ b10:=by omega
 have hb10':w.heap.size<=b10:=by have:=f16.size; omega
 have fin:∀ (u:World) (z:Wo),z=wdR x s o q->Fr (fun _=>False) w u->RecAt u b10 56 (woC z)->RecAt u b5 56 Z56 ->
   ldA 39 u b10 0 fun a=>gd (a.length == 39) (st u b5 0 a fun w1=>ldA 39 w1 b5 0 fun a'=>ofL a'=ofL (woC (wdR x s o q))/\Fr (fun _=>False) w w1):=by
  rintro u z rfl g q10 q5
  exact cp_mk (N:=39) (K:=fun a' w1=>ofL a'=ofL (woC (wdR x s o q))/\Fr (fun _=>False) w w1) q10 (woC_len (wdR_len hd _ _ _)) q5 Z39 (woC_one _) (fun w' g2=>⟨rfl,fr_var g hb5' g2⟩)
 have out:(x.k < 1\/x.k > 8)->y=wdR x s o q:=by
  intro h
  rw [<- hy]
  unfold wdR
  rw [if_neg (by omega),if_neg (by omega),if_neg (by omega),if_neg (by omega),if_neg (by omega)]
 refine ⟨_,r1.cell (o:=0) (v:=.int .i64 x.k) rfl,vIf_mk (fun h=>fin w12 y (out (.inl (of_decide_eq_true h))) f1c r10 r5) (fun h=>⟨_,r1.cell (o:=0) (v:=.int .i64 x.k) rfl,vIf_mk (fun h'=>fin w12 y (out (.inr (of_decide_eq_true h'))) f1c r10 r5) (fun h'=>jnC_mk (fun _=>?_))⟩)⟩
 have h:¬ x.k < 1:=of_decide_eq_false h
 have h':¬ x.k > 8:=of_decide_eq_false h'
 have hw:=wdR_bare s o q h h'
 refine ⟨_,rcC_len hd _ _ _,rec_all r1,(bare_calls x A n c w12 hd).mono ?_⟩
 rintro e w22 ⟨rfl,f22⟩
 have r10:=r10.fr f22 (fun h=>h)
 have r5:=r5.fr f22 (fun h=>h)
 have f2:=f1c.trans1 f22
 obtain ⟨A',n',c',hcs,hn'⟩:∃ (A':Option Addr) (n' c':Nat),(if x.k<=2 then rcC (bareR x) A n c else rcC (bareR x) none 0 0)=rcC (bareR x) A' n' c'/\n'=(bareR x).dat.length:=by
  by_cases h2:x.k<=2
  ·refine ⟨A,n,c,by rw [if_pos h2],?_⟩
   unfold bareR
   dsimp only
   rw [if_pos h2,hn]
  ·refine ⟨none,0,0,by rw [if_neg h2],?_⟩
   unfold bareR
   dsimp only
   rw [if_neg h2]; rfl
 rw [hcs]
 have bl:=bareR_len hd
 refine ⟨_,rfl,var_new (sz:=38) rfl (rcC_len bl _ _ _) (rcC_one _ _ _ _) (fun b25 w27 f27 hb25 r25=>?_)⟩
 have l10:=r10.lt
 have r10:=r10.fr f27 (fun h=>h)
 have r5:=r5.fr f27 (fun h=>h)
 have f3:=f2.trans1 f27
 have n25:b25 ≠ b10:=by omega
 refine ⟨(bareR x).d.map bv,by rw [List.length_map,bl],r25.cells (o:=2) (fun j v hj=>rcC_d bl A' n' c' j v hj),gd_mk (by rw [List.length_map,bl]; rfl) (r10.st_mk (o:=2) (by rw [woC_len dy,List.length_map,bl]; omega) (bvs_one _) (fun q1 g1=>?_))⟩
 rw [woC_std dy bl] at q1
 have r25:=r25.fr g1 (fun h=>n25 h)
 have r5:=r5.fr g1 (fun h=>n5 h)
 have f4:=fr_var f3 hb10' g1
 refine ⟨_,r25.cell (o:=34) (rc_name bl A' n' c'),q1.st_mk (o:=34) (by rw [woC_len (x:={ y with d:=(bareR x).d }) bl]; show 34+1<=39; omega) (fun v hv=>by simp at hv; subst hv; rfl) (fun q2 g2=>?_)⟩
 rw [woC_stn (x:={ y with d:=(bareR x).d }) bl] at q2
 have r25:=r25.fr g2 (fun h=>n25 h)
 have r5:=r5.fr g2 (fun h=>n5 h)
 have f5:=fr_var f4 hb10' g2
 have hzb : -1099511627776<=(bareR x).z/\(bareR x).z<=1099511627776:=by
  unfold bareR
  dsimp only
  split
  ·exact hz
  ·omega
 have hnb:n'<=1099511627776:=by
  rw [hn']
  unfold bareR
  dsimp only
  split
  ·omega
  ·exact Nat.zero_le _
 refine ⟨A',n',c',r25.cell (o:=35) (rc_data bl A' n' c'),_,r25.cell (o:=37) (rc_z bl A' n' c'),?_⟩
 dsimp only
 rw [i64_id (by omega) (by omega),Nat.zero_add]
 refine q2.st_mk (o:=35) (by rw [woC_len (x:={ y with d:=(bareR x).d,nm:=(bareR x).nm }) bl]; show 35+1<=39; omega) (fun v hv=>by simp at hv; subst hv; rfl) (fun q3 g3=>?_)
 rw [woC_stz (x:={ y with d:=(bareR x).d,nm:=(bareR x).nm }) bl] at q3
 have r5:=r5.fr g3 (fun h=>n5 h)
 have f6:=fr_var f5 hb10' g3
 refine fin _ { y with d:=(bareR x).d,nm:=(bareR x).nm,z:=(n':Int)+(bareR x).z } ?_ f6 q3 r5
 rw [hw,<- hy,hn']
end Go.Proofs.YtodmachaofepkaaGreatDoor
namespace Go.Proofs.YtodmachaofepkaaGreatDoor
open Go.GV
theorem rdR_z {k sq:Nat} {b:List UInt8} {x:Rc} (h:rdR k sq b=some x):0<=x.z/\x.z < 4294967296:=by
 unfold rdR at h
 split at h
 ·split at h
  ·cases h
  ·split at h
   ·split at h
    ·cases h; exact ⟨by show (0:Int)<=0; omega,by show (0:Int) < _; omega⟩
    ·cases h
   ·split at h
    ·cases h; exact ⟨by show (0:Int)<=0; omega,by show (0:Int) < _; omega⟩
    ·cases h
 ·split at h
  ·split at h
   ·cases h; exact ⟨by show (0:Int)<=0; omega,by show (0:Int) < _; omega⟩
   ·cases h
  ·split at h
   ·split at h
    ·cases h; exact ⟨by show (0:Int)<=0; omega,by show (0:Int) < _; omega⟩
    ·cases h
   ·split at h
    ·split at h
     ·cases h; exact ⟨by show (0:Int)<=0; omega,by show (0:Int) < _; omega⟩
     ·cases h
    ·split at h
     ·rename_i h1
      cases h
      have h2:(b.drop 4).take 4=b.drop 4:=List.take_of_length_le (by rw [List.length_drop]; omega)
      have:=le4_lt (b.drop 4)
      rw [h2] at this
      exact ⟨by show (0:Int)<=(leT (b.drop 4):Int); omega,by show (leT (b.drop 4):Int) < _; omega⟩
     ·cases h
theorem rdR_s {k sq:Nat} {b:List UInt8} {x:Rc} (h:rdR k sq b=some x):x.sq=sq:=by
 rw [rdR_sq] at h
 cases h1:rdR k 0 b with
 | none=>rw [h1] at h; cases h
 | some y=>rw [h1] at h; cases h; rfl
theorem frP_in {b:List UInt8} {at_:Int} (h:(frP b at_).e=0):0<=at_/\at_+21<=(frP b at_).z/\(frP b at_).z<=(b.length:Int)/\(frP b at_).sq < 18446744073709551616:=by
 unfold frP at h ⊢
 split at h
 ·cases h
 ·rename_i h1
  split at h
  ·rename_i h2
   rw [if_neg h1,if_pos h2]
   have hl:(b.drop at_.toNat).length=b.length - at_.toNat:=List.length_drop
   generalize b.drop at_.toNat=r at h2 hl ⊢
   unfold frG at h2 ⊢
   split at h2
   ·cases h2
   ·rename_i a1
    split at h2
    ·cases h2
    ·rename_i a2
     split at h2
     ·cases h2
     ·rename_i a3
      split at h2
      ·cases h2
      ·rename_i a4
       split at h2
       ·cases h2
       ·rename_i a5
        rw [if_neg a1,if_neg a2,if_neg a3,if_neg a4,if_neg a5]
        have h5:((r.drop 17).take (zF r)).length=zF r:=by rw [List.length_take,List.length_drop]; omega
        refine ⟨by omega,?_,?_,sF_lt r⟩
        ·show at_+21<=at_+21+(((r.drop 17).take (zF r)).length:Int)
         omega
        ·show at_+21+(((r.drop 17).take (zF r)).length:Int)<=_
         rw [h5]; omega
  ·rename_i h2
   exact absurd h h2
structure RokP (b:List UInt8) (at_:Int) (x:Rc) (e:Int):Prop where
 at0:0<=at_
 lt:at_+21<=e
 le:e<=(b.length:Int)
 sq:x.sq < 18446744073709551616
 k1:1<=x.k
 k8:x.k<=8
 z0:0<=x.z
 z1:x.z < 4294967296
 d:x.d.length=32
 n:x.dat.length<=b.length
 rg:rgR x=0
theorem recP_in {b:List UInt8} {at_:Int} (h:(recP b at_).2.2=0):RokP b at_ (recP b at_).1 (recP b at_).2.1:=by
 unfold recP at h ⊢
 by_cases h0:(frP b at_).e=0
 ·rw [if_neg (fun g=>g h0)] at h ⊢
  cases hr:rdR (frP b at_).k (frP b at_).sq (frP b at_).d with
  | none=>rw [hr] at h; cases h
  | some x =>
   rw [hr] at h
   dsimp only at h ⊢
   by_cases hg:rgR x=0
   ·rw [if_neg (fun g=>g hg)] at h ⊢
    obtain ⟨i1,i2,i3,i4⟩:=frP_in h0
    have hk:¬ (x.k < 1\/x.k > 8):=fun g=>by
     unfold rgR at hg
     rw [if_pos g] at hg
     cases hg
    have hz:=rdR_z hr
    have hs:=rdR_s hr
    have hn:=(rdR_nm hr).2
    have hd:=frP_dlen b at_
    exact ⟨i1,i2,i3,by show x.sq < _; rw [hs]; exact i4,by show 1<=x.k; omega,by show x.k<=8; omega,hz.1,hz.2,rdR_len hr,by show x.dat.length<=b.length; omega,hg⟩
   ·rw [if_pos hg] at h
    exact absurd h hg
 ·rw [if_pos h0] at h
  exact absurd h h0
abbrev BaR:=List Wo×Int×Nat×Int
def baE (e:Int):BaR:=([],0,0,e)
def baG (seg:Int) (b:List UInt8) (from_:Int):Nat->Int->List Wo->Nat->BaR
 | 0,_,_,_=>baE 3
 | f+1,at_,out,last =>
  if (recP b at_).2.2 ≠ 0 then baE (recP b at_).2.2
  else if out ≠ []/\((recP b at_).1.sq=0\/(recP b at_).1.sq - 1 ≠ last) then baE 3
  else if (recP b at_).1.k<=5 then baG seg b from_ f (recP b at_).2.1 (out ++ [wdR (recP b at_).1 seg at_ ((recP b at_).2.1 - at_)]) (recP b at_).1.sq
  else if out ≠ []/\(recP b at_).1.k=6/\(recP b at_).1.n=(out.length:Int)/\(recP b at_).1.z=at_ - from_ then (out,(recP b at_).2.1,(recP b at_).1.sq,0)
  else baE 3
def lfB (b:List UInt8) (at_:Int):Nat:=((b.length:Int) - at_).toNat
theorem lfB_lt {b:List UInt8} {at_:Int} (h:(recP b at_).2.2=0):lfB b (recP b at_).2.1 < lfB b at_:=by
 have:=recP_in h
 unfold lfB
 have h1:=this.lt
 have h2:=this.le
 omega
theorem baG_fuel (seg:Int) (b:List UInt8) (from_:Int):∀ (f g:Nat) (at_:Int) (out:List Wo) (last:Nat),lfB b at_ < f->lfB b at_ < g->baG seg b from_ f at_ out last=baG seg b from_ g at_ out last
 | 0,_,_,_,_,h,_=>absurd h (Nat.not_lt_zero _)
 | _+1,0,_,_,_,_,h=>absurd h (Nat.not_lt_zero _)
 | f+1,g+1,at_,out,last,h1,h2=>by
  unfold baG
  by_cases h:(recP b at_).2.2=0
  ·have:=lfB_lt h
   rw [baG_fuel seg b from_ f g _ _ _ (by omega) (by omega)]
  ·rw [if_pos h,if_pos h]
def baF (seg:Int) (b:List UInt8) (from_ at_:Int) (out:List Wo) (last:Nat):BaR:=baG seg b from_ (lfB b at_+1) at_ out last
def baP (seg:Int) (b:List UInt8) (at_:Int):BaR:=baF seg b at_ at_ [] 0
theorem baF_eq (seg:Int) (b:List UInt8) (from_ at_:Int) (out:List Wo) (last:Nat):baF seg b from_ at_ out last =
  if (recP b at_).2.2 ≠ 0 then baE (recP b at_).2.2
  else if out ≠ []/\((recP b at_).1.sq=0\/(recP b at_).1.sq - 1 ≠ last) then baE 3
  else if (recP b at_).1.k<=5 then baF seg b from_ (recP b at_).2.1 (out ++ [wdR (recP b at_).1 seg at_ ((recP b at_).2.1 - at_)]) (recP b at_).1.sq
  else if out ≠ []/\(recP b at_).1.k=6/\(recP b at_).1.n=(out.length:Int)/\(recP b at_).1.z=at_ - from_ then (out,(recP b at_).2.1,(recP b at_).1.sq,0)
  else baE 3:=by
 show baG seg b from_ (lfB b at_+1) at_ out last=_
 rw [baG]
 by_cases h:(recP b at_).2.2=0
 ·have:=lfB_lt h
  rw [baG_fuel seg b from_ (lfB b at_) (lfB b (recP b at_).2.1+1) _ _ _ (by omega) (by omega)]
  rfl
 ·rw [if_pos h,if_pos h]
end Go.Proofs.YtodmachaofepkaaGreatDoor
namespace Go.Proofs.YtodmachaofepkaaGreatDoor
open Go.GV Go.RowKit Go.Lib
def wsC (l:List Wo):List Value:=(l.map woC).flatten
abbrev W39 (l:List Wo):Prop:=∀ x ∈ l,x.d.length=32
theorem wsC_app (a b:List Wo):wsC (a ++ b)=wsC a ++ wsC b:=by unfold wsC; rw [List.map_append,List.flatten_append]
theorem wsC_one (x:Wo):wsC [x]=woC x:=by unfold wsC; simp
theorem wsC_ones (l:List Wo):∀ v ∈ wsC l,v.oneCell'=true:=by
 intro v hv
 unfold wsC at hv
 obtain ⟨c,hc,hv⟩:=List.mem_flatten.1 hv
 obtain ⟨x,_,rfl⟩:=List.mem_map.1 hc
 exact woC_one x v hv
theorem wsC_get:∀ {l:List Wo},W39 l->∀ {i:Nat} {x:Wo},l[i]?=some x->∀ {j:Nat} {v:Value},(woC x)[j]?=some v->(wsC l)[i * 39+j]?=some v
 | [],_,i,x,hx,_,_,_=>by cases i <;> cases hx
 | y :: l,h,0,x,hx,j,v,hv=>by
  cases hx
  have hj:=(List.getElem?_eq_some_iff.1 hv).1
  show (woC y ++ wsC l)[0 * 39+j]?=_
  rw [Nat.zero_mul,Nat.zero_add,List.getElem?_append_left hj]; exact hv
 | y :: l,h,i+1,x,hx,j,v,hv=>by
  have hy:=woC_len (h y List.mem_cons_self)
  show (woC y ++ wsC l)[(i+1) * 39+j]?=_
  rw [List.getElem?_append_right (by omega),hy,show (i+1) * 39+j - 39=i * 39+j by omega]
  exact wsC_get (fun y hy=>h y (List.mem_cons_of_mem _ hy)) (show l[i]?=some x from hx) hv
structure SW (w:World) (A:Option Addr) (n:Nat) (l:List Wo):Prop where
 sl:Sl w 39 A n (wsC l)
 len:l.length=n
 d:W39 l
theorem SW.fr {w w':World} {A:Option Addr} {n:Nat} {l:List Wo} (h:SW w A n l) (f:Fr (fun _=>False) w w'):SW w' A n l:=⟨f.sl h.sl (fun _ _ _ h=>h),h.len,h.d⟩
theorem SW.get {w:World} {A:Option Addr} {n:Nat} {l:List Wo} (h:SW w A n l) {i:Nat} {x:Wo} (hx:l[i]?=some x):∃ b o,A=some ⟨b,o,none⟩/\cellsAt w b (o+i * 39) (woC x):=by
 have hi:=(List.getElem?_eq_some_iff.1 hx).1
 obtain ⟨b,o,e,hc⟩:=h.sl.2 (by have:=h.len; omega)
 exact ⟨b,o,e,fun j v hj=>by rw [Nat.add_assoc]; exact hc _ v (wsC_get h.d hx hj)⟩
structure RW (w0 w:World) (A:Option Addr) (n c:Nat) (l:List Wo):Prop where
 f:Fr (fun _=>False) w0 w
 row:Row w w0.heap.size 56 39 A n c (wsC l)
 len:l.length=n
 d:W39 l
theorem RW.nil (w:World):RW w w none 0 0 []:=⟨Fr.refl _ _,Row.nil _ _ _ _,rfl,fun _ h=>by cases h⟩
theorem RW.sw {w0 w:World} {A:Option Addr} {n c:Nat} {l:List Wo} (h:RW w0 w A n c l):SW w A n l:=⟨h.row.sl,h.len,h.d⟩
theorem RW.fr {w0 w w':World} {A:Option Addr} {n c:Nat} {l:List Wo} (h:RW w0 w A n c l) (f:Fr (fun _=>False) w w'):RW w0 w' A n c l:=⟨h.f.trans1 f,f.row h.row (fun _ _ h=>h),h.len,h.d⟩
theorem RW.le {w0 w1 w:World} {A:Option Addr} {n c:Nat} {l:List Wo} (h:RW w1 w A n c l) (f:Fr (fun _=>False) w0 w1):RW w0 w A n c l:=by
 refine ⟨f.trans1 h.f,⟨h.row.len,h.row.le,h.row.at_.elim .inl (fun ⟨b,cs,h1,h2,h3⟩=>.inr ⟨b,cs,h1,?_,h3⟩)⟩,h.len,h.d⟩
 have:=f.size; omega
theorem RW.nile {w0 w:World} (f:Fr (fun _=>False) w0 w):RW w0 w none 0 0 []:=(RW.nil w).le f
theorem appW_mk {w0 w:World} {A A2:Option Addr} {n c m c2:Nat} {l l2:List Wo} {K:Option Addr->Nat->Nat->World->Prop} (h:RW w0 w A n c l) (hx:SW w A2 m l2) (hm:n+m<=1099511627776)
  (hK:∀ A' c' w',RW w0 w' A' (n+m) c' (l ++ l2)->Fr (fun k=>w0.heap.size<=k/\blkOf A=some k) w w'->(∀ k,blkOf A'=some k->blkOf A=some k\/w.heap.size<=k)->K A' (n+m) c' w'):app w 39 96 Z56 56 A n c (.slice A2 m c2) K:=by
 refine app_row2 h.row hx.sl.src (wsC_ones l2) rfl (by show (n+m) * 96<=_; omega) (by omega) h.f.size (fun A' c' w' hr f hb=>hK A' c' w' ⟨h.f.trans f (fun _ _ h=>h) (fun k hk hb=>by have:=(h.row.blt hb).1; omega),?_,by rw [List.length_append,h.len,hx.len],?_⟩ (f.mono (fun k hk e=>⟨(h.row.blt e).1,e⟩)) hb)
 ·rw [wsC_app]; exact hr
 ·intro x hx'
  rcases List.mem_append.1 hx' with g | g
  ·exact h.d x g
  ·exact hx.d x g
theorem pushW_mk {w0 w:World} {A:Option Addr} {n c:Nat} {l:List Wo} {x:Wo} {K:Option Addr->Nat->Nat->World->Prop} (h:RW w0 w A n c l) (hd:x.d.length=32) (hm:n < 1099511627776)
  (hK:∀ A' c' w',RW w0 w' A' (n+1) c' (l ++ [x])->Fr (fun k=>w0.heap.size<=k/\blkOf A=some k) w w'->K A' (n+1) c' w'):nw w (woC x ++ []) 56 fun b w1=>app w1 39 96 Z56 56 A n c (.slice (some ⟨b,0,none⟩) 1 1) K:=by
 refine nw_mk (appW_mk (l2:=[x]) (h.fr (Fr.alloc _ _ _)) ⟨?_,rfl,fun y hy=>by simp at hy; subst hy; exact hd⟩ (by omega) (fun A' c' w' hr f _=>hK A' c' w' hr ((Fr.alloc _ _ _).trans1 f)))
 rw [wsC_one]
 have e:woC x ++ []=woC x:=List.append_nil _
 rw [e]
 exact (Row.new (sz:=39) (n:=1) (B:=0) (Nat.zero_le _) (by rw [woC_len hd])).sl
theorem may_calls (k:Int) (w:World):Calls Tryz.prog 93 #[.int .i64 k] w fun e w'=>e=.returned (.bool (decide (1<=k/\k<=5)))/\w=w':=by
 refine (F93.of k w (Q:=fun v w'=>v=.bool (decide (1<=k/\k<=5))/\w=w') ?_).mono (fun e w' ⟨v,he,hv,h⟩=>⟨by rw [he,hv],h⟩)
 refine vIf_mk (fun h=>⟨?_,rfl⟩) (fun h=>⟨?_,rfl⟩)
 ·have h:k >= 1:=of_decide_eq_true h
  congr 1
  by_cases h5:k<=5
  ·rw [decide_eq_true h5,decide_eq_true (show 1<=k/\k<=5 from ⟨h,h5⟩)]
  ·rw [decide_eq_false h5,decide_eq_false (fun g=>h5 g.2)]
 ·have h:¬ k >= 1:=of_decide_eq_false h
  rw [decide_eq_false (fun g=>h g.1)]
abbrev BaA (w w':World) (v:Value) (p:BaR):Prop:=∃ (A:Option Addr) (c:Nat),v=.tuple #[.slice A p.1.length c,.int .i64 p.2.1,.int .u64 (p.2.2.1:Nat),.int .i64 p.2.2.2]/\RW w w' A p.1.length c p.1
theorem baE_ans {w w':World} (f:Fr (fun _=>False) w w') (e:Int) {p:BaR} (hp:p=baE e):BaA w w' (.tuple #[.slice none 0 0,.int .i64 0,.int .u64 0,.int .i64 e]) p:=by
 subst hp
 exact ⟨none,0,rfl,RW.nile f⟩
theorem rc_sq {x:Rc} (A:Option Addr) (n c:Nat):(rcC x A n c)[1]?=some (.int .u64 (x.sq:Nat)):=rfl
theorem rc_k {x:Rc} (A:Option Addr) (n c:Nat):(rcC x A n c)[0]?=some (.int .i64 x.k):=rfl
theorem wdR_sq (x:Rc) (s o q:Int):(wdR x s o q).sq=x.sq:=by
 unfold wdR
 split
 ·rfl
 ·split
  ·rfl
  ·split
   ·rfl
   ·split
    ·rfl
    ·split <;> rfl
set_option maxHeartbeats 4000000 in
theorem bparse_calls (A:Option Addr) (n c:Nat) (b:List UInt8) (at_ seg:Int) (w:World) (h:Sl w 1 A n (b.map bv)) (hc:n<=c) (hn:n<=1099511627776) :
  Calls Tryz.prog 60 #[.slice A n c,.int .i64 at_,.int .i64 seg] w fun e w'=>∃ v,e=.returned v/\BaA w w' v (baP seg b at_):=by
 refine F60.of A n c at_ seg w (Q:=fun v w'=>BaA w w' v (baP seg b at_)) ?_
 have hl:=sl_len h
 refine jnC_mk (loop_rule (fun s u=>∃ (a:Int) (A1:Option Addr) (c1:Nat) (out:List Wo) (last:Nat),s=((A,n,c),a,seg,(A1,out.length,c1),at_,(last:Int),3,())/\RW w u A1 out.length c1 out/\baF seg b at_ a out last=baP seg b at_/\(out=[]->a=at_)/\(out ≠ []->0<=at_/\at_<=a/\(out.length:Int)<=a/\a<=(b.length:Int))) (fun s _=>lfB b s.2.1) ?_ _ _ ⟨at_,none,0,[],0,rfl,RW.nil w,rfl,fun _=>rfl,fun h=>absurd rfl h⟩)
 rintro s u C ⟨a,A1,c1,out,last,rfl,hr,hba,ha0,ha1⟩ hC _
 refine (parse_calls A n c b a u (hr.f.sl h (fun _ _ _ h=>h)) hc hn).mono ?_
 rintro e w1 ⟨_,rfl,f1,A2,n2,c2,rfl,hd2,hc2⟩
 dsimp only
 refine ⟨_,_,_,rfl,var_new (sz:=38) rfl (rcC_len (recP_len b a) _ _ _) (rcC_one _ _ _ _) (fun b6 w2 f2 hb6 r6=>?_)⟩
 have hr1:=hr.fr f1
 have hr2:=hr1.fr f2
 have hb6':u.heap.size<=b6:=by have:=f1.size; omega
 have err:∀ (e:Int) (w':World),Fr (fun _=>False) w w'->baP seg b at_=baE e->jnC (F60.k15 fun v w'=>BaA w w' v (baP seg b at_)) (e,()) w':=fun e w' f hp=>jnC_mk (fun _=>baE_ans f e hp)
 rw [baF_eq] at hba
 generalize hP:recP b a=P at hba r6 hd2 ⊢
 obtain ⟨x,z,e⟩:=P
 dsimp only at hba r6 hd2 ⊢
 refine vIf_mk (fun he=>err _ _ hr2.f ?_) (fun he=>?_)
 ·have he:e ≠ 0:=by simpa using he
  rw [<- hba,if_pos he]
 have he:e=0:=by simpa using he
 rw [if_neg (fun g=>g he)] at hba
 have hin:RokP b a x z:=by have:=recP_in (b:=b) (at_:=a) (by rw [hP]; exact he); rw [hP] at this; exact this
 have i1:=hin.at0
 have i2:=hin.lt
 have i3:=hin.le
 have i4:=hin.sq
 have i5:=hin.k1
 have i6:=hin.k8
 have hdx:=hin.d
 have hat:0<=at_/\at_<=a/\(out.length:Int)<=a:=by
  by_cases ho:out=[]
  ·have:=ha0 ho
   subst ho
   exact ⟨by omega,by omega,by show ((0:Nat):Int)<=a; omega⟩
  ·exact ⟨(ha1 ho).1,(ha1 ho).2.1,(ha1 ho).2.2.1⟩
 obtain ⟨j1,j2,j3⟩:=hat
 have body:¬ (out ≠ []/\(x.sq=0\/x.sq - 1 ≠ last))->(out=[]->x.k<=5) ->
   ldI .i64 w2 b6 0 fun i34 =>
    Calls Tryz.prog 93 #[Value.int .i64 i34] w2 fun e36 w35 =>
    ∃ t37:Bool,e36=.returned (Value.bool t37)/\(
     vIf t37
     (ldA 38 w35 b6 0 fun a38 =>
      Calls Tryz.prog 94 #[ofL a38,ofL ([Value.int .i64 seg] ++ ([Value.int .i64 a] ++ ([Value.int .i64 (IntKind.wrap .i64 (z - a))] ++ [])))] w35 fun e40 w39 =>
      ∃ a41:List Value,e40=.returned (ofL a41)/\(
       gd (a41.length == 39) <|
       nw w39 (a41 ++ []) 56 fun b42 w43 =>
       app w43 39 96 Z56 56 A1 out.length c1 (Value.slice (some ⟨b42,0,none⟩) 1 1) fun A44 n45 c46 w47 =>
       ldI .u64 w47 b6 (0+1) fun i48 =>
       jnC C ((A,n,c),(z),seg,(A44,n45,c46),(at_),(i48),(3),()) w47))
     (ldI .i64 w35 b6 0 fun i49 =>
      vIf (i49 != 6)
      (jnC (F60.k15 fun v w'=>BaA w w' v (baP seg b at_)) ((3),()) w35)
      (ldI .i64 w35 b6 (0+36) fun i50 =>
       vIf (i50 != ((out.length:Nat):Int))
       (jnC (F60.k15 fun v w'=>BaA w w' v (baP seg b at_)) ((3),()) w35)
       (ldI .i64 w35 b6 (0+37) fun i51 =>
        vIf (i51 != (IntKind.wrap .i64 (a - at_)))
        (jnC (F60.k15 fun v w'=>BaA w w' v (baP seg b at_)) ((3),()) w35)
        (jnC (F60.k14 (fun v w'=>BaA w w' v (baP seg b at_)) C) ((A1,out.length,c1),(b6,0),(z),()) w35))))):=by
  intro hsq ho5
  rw [if_neg hsq] at hba
  refine ⟨_,r6.cell (o:=0) (rc_k _ _ _),(may_calls x.k w2).mono ?_⟩
  rintro e w3 ⟨rfl,rfl⟩
  refine ⟨_,rfl,vIf_mk (fun hm=>?_) (fun hm=>?_)⟩
  ·have hm:=(of_decide_eq_true hm).2
   rw [if_pos hm] at hba
   have hn2:=sl_len hd2
   refine ⟨_,rcC_len hdx _ _ _,rec_all r6,?_⟩
   rw [i64_id (by omega) (by omega)]
   refine (word39_calls x A2 n2 c2 seg a (z - a) w2 hdx hn2.symm).mono ?_
   rintro e w4 ⟨rfl,f4⟩
   refine ⟨_,rfl,gd_mk (by rw [woC_len (wdR_len hdx _ _ _)]; rfl) (pushW_mk (hr2.fr f4) (wdR_len hdx _ _ _) (by omega) (fun A5 c5 w5 hr5 f5=>?_))⟩
   have nb:¬ (w.heap.size<=b6/\blkOf A1=some b6):=fun g=>by have:=(hr.row.blt g.2).2; omega
   refine ⟨_,f5.cell (f4.cell (r6.cell (o:=1) (rc_sq _ _ _)) (fun h=>h)) nb,jnC_mk (hC _ _ ⟨z,A5,c5,out ++ [wdR x seg a (z - a)],x.sq,?_,?_,hba,?_,?_⟩ ?_)⟩
   ·rw [List.length_append]; rfl
   ·rw [List.length_append]; exact hr5
   ·intro hh; simp at hh
   ·intro _
    rw [List.length_append]
    show 0<=at_/\at_<=z/\((out.length+1:Nat):Int)<=z/\z<=_
    omega
   ·show lfB b z < lfB b a
    unfold lfB
    omega
  ·have hm:¬ (1<=x.k/\x.k<=5):=of_decide_eq_false hm
   have hm5:¬ x.k<=5:=fun g=>hm ⟨i5,g⟩
   rw [if_neg hm5] at hba
   have hne:out ≠ []:=fun g=>hm5 (ho5 g)
   refine ⟨_,r6.cell (o:=0) (rc_k _ _ _),vIf_mk (fun h6=>err 3 _ hr2.f ?_) (fun h6=>⟨_,r6.cell (o:=36) (rc_n hdx _ _ _),vIf_mk (fun h7=>err 3 _ hr2.f ?_) (fun h7=>⟨_,r6.cell (o:=37) (rc_z hdx _ _ _),vIf_mk (fun h8=>err 3 _ hr2.f ?_) (fun h8=>jnC_mk (fun _=>?_))⟩)⟩)⟩
   ·have h6:x.k ≠ 6:=by simpa using h6
    rw [<- hba,if_neg (fun g=>h6 g.2.1)]
   ·have h7:x.n ≠ (out.length:Int):=by simpa using h7
    rw [<- hba,if_neg (fun g=>h7 g.2.2.1)]
   ·rw [i64_id (by omega) (by omega)] at h8
    have h8:x.z ≠ a - at_:=by simpa using h8
    rw [<- hba,if_neg (fun g=>h8 g.2.2.2)]
   ·have h6:x.k=6:=by simpa using h6
    have h7:x.n=(out.length:Int):=by simpa using h7
    rw [i64_id (by omega) (by omega)] at h8
    have h8:x.z=a - at_:=by simpa using h8
    rw [if_pos ⟨hne,h6,h7,h8⟩] at hba
    have fd:Fr (fun _=>False) w2 w2.drew:=Fr.drew _ _
    refine ⟨_,fd.cell (r6.cell (o:=1) (rc_sq _ _ _)) (fun h=>h),?_⟩
    show BaA w w2.drew _ (baP seg b at_)
    rw [<- hba]
    exact ⟨A1,c1,rfl,hr2.fr fd⟩
 refine vIf_mk (fun ho=>?_) (fun ho=>?_)
 ·have ho:out=[]:=by
   have:(out.length:Int)=0:=by simpa using ho
   exact List.length_eq_zero_iff.1 (by omega)
  refine ⟨_,r6.cell (o:=0) (rc_k _ _ _),(may_calls x.k w2).mono ?_⟩
  rintro e w3 ⟨rfl,rfl⟩
  refine ⟨_,rfl,vIf_mk (fun hm=>err 3 _ hr2.f ?_) (fun hm=>vIf_mk (fun hf=>?_) (fun _=>body (fun g=>g.1 ho) (fun _=>?_)))⟩
  ·have hm:¬ (1<=x.k/\x.k<=5):=fun g=>by rw [decide_eq_true g] at hm; cases hm
   rw [if_neg (fun g=>g.1 ho),if_neg (fun g=>hm ⟨i5,g⟩),if_neg (fun g=>g.1 ho)] at hba
   rw [<- hba]
  ·subst ho; cases hf
  ·have hm:1<=x.k/\x.k<=5:=by simpa using hm
   exact hm.2
 ·have ho:out ≠ []:=fun g=>by subst g; cases ho
  refine vIf_mk (fun _=>?_) (fun hf=>?_)
  ·refine ⟨_,r6.cell (o:=1) (rc_sq _ _ _),vIf_mk (fun h0=>err 3 _ hr2.f ?_) (fun h0=>⟨_,r6.cell (o:=1) (rc_sq _ _ _),vIf_mk (fun h1=>err 3 _ hr2.f ?_) (fun h1=>body ?_ (fun g=>absurd g ho))⟩)⟩
   ·have h0:(x.sq:Int)=0:=by simpa using h0
    rw [if_pos ⟨ho,.inl (by omega)⟩] at hba
    rw [<- hba]
   ·have h0:(x.sq:Int) ≠ 0:=by simpa using h0
    rw [u64_id (by omega) (by omega)] at h1
    have h1:(x.sq:Int) - 1 ≠ (last:Int):=by simpa using h1
    rw [if_pos ⟨ho,.inr (by omega)⟩] at hba
    rw [<- hba]
   ·have h0:(x.sq:Int) ≠ 0:=by simpa using h0
    rw [u64_id (by omega) (by omega)] at h1
    have h1:(x.sq:Int) - 1=(last:Int):=by simpa using h1
    rintro ⟨_,g | g⟩ <;> omega
  ·exfalso
   have:(out.length:Int)=0:=by simpa using hf
   exact ho (List.length_eq_zero_iff.1 (by omega))
theorem wo_sq (x:Wo):(woC x)[1]?=some (.int .u64 (x.sq:Nat)):=rfl
set_option maxHeartbeats 4000000 in
theorem rbparse_calls (A:Option Addr) (n c:Nat) (b:List UInt8) (at_ seg:Int) (w:World) (h:Sl w 1 A n (b.map bv)) (hc:n<=c) (hn:n<=1099511627776) :
  Calls Tryz.prog 13 #[.slice A n c,.int .i64 at_,.int .i64 seg] w fun e w'=>∃ v,e=.returned v/\BaA w w' v (baP seg b at_):=by
 refine F13.of A n c at_ seg w (Q:=fun v w'=>BaA w w' v (baP seg b at_)) ?_
 have hl:=sl_len h
 refine jnC_mk (loop_rule (fun s u=>∃ (a:Int) (A1:Option Addr) (c1:Nat) (out:List Wo) (last k:Nat),s=((A,n,c),a,seg,(A1,out.length,c1),at_,(k:Int),())/\RW w u A1 out.length c1 out/\baF seg b at_ a out last=baP seg b at_/\(out=[]->a=at_)/\(∀ y,out[out.length - 1]?=some y->y.sq=last)/\k=out.length/\(out ≠ []->0<=at_/\at_<=a/\(out.length:Int)<=a/\a<=(b.length:Int))) (fun s _=>lfB b s.2.1) ?_ _ _ ⟨at_,none,0,[],0,0,rfl,RW.nil w,rfl,fun _=>rfl,fun y hy=>by (cases hy),rfl,fun h=>absurd rfl h⟩)
 rintro s u C ⟨a,A1,c1,out,last,k,rfl,hr,hba,ha0,hls,rfl,ha1⟩ hC _
 refine vIf_mk (fun hk=>?_) (fun hk=>?_)
 ·refine (rparse_calls A n c b a u (hr.f.sl h (fun _ _ _ h=>h)) hc hn).mono ?_
  rintro e w1 ⟨_,rfl,f1,A2,n2,c2,rfl,hd2,hc2⟩
  dsimp only
  refine ⟨_,_,_,rfl,var_new (sz:=38) rfl (rcC_len (recP_len b a) _ _ _) (rcC_one _ _ _ _) (fun b6 w2 f2 hb6 r6=>?_)⟩
  have hr1:=hr.fr f1
  have hr2:=hr1.fr f2
  have hd3:=f2.sl hd2 (fun _ _ _ h=>h)
  have hb6':u.heap.size<=b6:=by have:=f1.size; omega
  rw [baF_eq] at hba
  generalize hP:recP b a=P at hba r6 hd3 ⊢
  obtain ⟨x,z,e⟩:=P
  dsimp only at hba r6 hd3 ⊢
  refine vIf_mk (fun he=>baE_ans hr2.f e ?_) (fun he=>?_)
  ·have he:e ≠ 0:=by simpa using he
   rw [<- hba,if_pos he]
  have he:e=0:=by simpa using he
  rw [if_neg (fun g=>g he)] at hba
  have hin:RokP b a x z:=by have:=recP_in (b:=b) (at_:=a) (by rw [hP]; exact he); rw [hP] at this; exact this
  have i1:=hin.at0
  have i2:=hin.lt
  have i3:=hin.le
  have i4:=hin.sq
  have i5:=hin.k1
  have i6:=hin.k8
  have i7:=hin.z0
  have i8:=hin.z1
  have i9:=hin.n
  have hdx:=hin.d
  have hn2:=sl_len hd3
  have hat:0<=at_/\at_<=a/\(out.length:Int)<=a:=by
   by_cases ho:out=[]
   ·have:=ha0 ho
    subst ho
    exact ⟨by omega,by omega,by show ((0:Nat):Int)<=a; omega⟩
   ·exact ⟨(ha1 ho).1,(ha1 ho).2.1,(ha1 ho).2.2.1⟩
  obtain ⟨j1,j2,j3⟩:=hat
  have nb:¬ (w.heap.size<=b6/\blkOf A1=some b6):=fun g=>by have:=(hr.row.blt g.2).2; omega
  have k13:∀ u2:World,Fr (fun _=>False) w2 u2->¬ (out ≠ []/\x.k=6/\x.n=(out.length:Int)/\x.z=a - at_)->¬ (out ≠ []/\(x.sq=0\/x.sq - 1 ≠ last))->jnC (F13.k13 (fun v w'=>BaA w w' v (baP seg b at_)) C) ((A,n,c),a,seg,(A1,out.length,c1),at_,(out.length:Int),(b6,0),z,()) u2:=by
   intro u2 g hno hsq
   rw [if_neg hsq] at hba
   refine jnC_mk (fun _=>?_)
   refine ⟨_,g.cell (r6.cell (o:=0) (rc_k _ _ _)) (fun h=>h),vIf_mk (fun h5=>baE_ans (hr2.f.trans1 g) 3 ?_) (fun h5=>?_)⟩
   ·have h5:x.k > 5:=of_decide_eq_true h5
    rw [if_neg (by omega),if_neg hno] at hba
    exact hba.symm
   ·have h5:¬ x.k > 5:=of_decide_eq_false h5
    rw [if_pos (by omega)] at hba
    have r6':=r6.fr g (fun h=>h)
    refine ⟨_,rcC_len hdx _ _ _,rec_all r6',?_⟩
    dsimp only
    rw [i64_id (by omega) (by omega)]
    refine (rword39_calls x A2 n2 c2 seg a (z - a) u2 hdx hn2.symm (by omega) ⟨by omega,by omega⟩).mono ?_
    rintro e w4 ⟨rfl,f4⟩
    refine ⟨_,rfl,gd_mk (by rw [woC_len (wdR_len hdx _ _ _)]; rfl) (pushW_mk ((hr2.fr g).fr f4) (wdR_len hdx _ _ _) (by omega) (fun A5 c5 w5 hr5 f5=>?_))⟩
    refine jnC_mk (hC _ _ ⟨z,A5,c5,out ++ [wdR x seg a (z - a)],x.sq,out.length+1,?_,?_,hba,?_,?_,?_,?_⟩ ?_)
    ·rw [List.length_append,i64_id (by omega) (by omega)]; rfl
    ·rw [List.length_append]; exact hr5
    ·intro hh; simp at hh
    ·intro y hy
     simp at hy
     rw [<- hy]; exact wdR_sq _ _ _ _
    ·rw [List.length_append]; rfl
    ·intro _
     rw [List.length_append]
     show 0<=at_/\at_<=z/\((out.length+1:Nat):Int)<=z/\z<=_
     omega
    ·show lfB b z < lfB b a
     unfold lfB
     omega
  have k12:∀ (t:Bool) (u2:World),Fr (fun _=>False) w2 u2->¬ (out ≠ []/\(x.sq=0\/x.sq - 1 ≠ last))->(t=true ↔ (out ≠ []/\x.k=6/\x.n=(out.length:Int)/\x.z=a - at_))->jnC (F13.k12 (fun v w'=>BaA w w' v (baP seg b at_)) C) ((A,n,c),a,seg,(A1,out.length,c1),at_,(out.length:Int),(b6,0),z,t,()) u2:=by
   intro t u2 g hsq ht
   refine jnC_mk (fun _=>vIf_mk (fun h=>?_) (fun h=>k13 u2 g (fun q=>by rw [ht.2 q] at h; cases h) hsq))
   have hh:=ht.1 h
   rw [if_neg hsq,if_neg (by omega),if_pos hh] at hba
   have fd:Fr (fun _=>False) u2 u2.drew:=Fr.drew _ _
   refine ⟨_,(g.trans1 fd).cell (r6.cell (o:=1) (rc_sq _ _ _)) (fun h=>h),?_⟩
   rw [<- hba]
   exact ⟨A1,c1,rfl,hr2.fr (g.trans1 fd)⟩
  have k11:∀ (u2:World),Fr (fun _=>False) w2 u2->¬ (out ≠ []/\(x.sq=0\/x.sq - 1 ≠ last))->jnC (F13.k11 (fun v w'=>BaA w w' v (baP seg b at_)) C) ((A,n,c),a,seg,(A1,out.length,c1),at_,(out.length:Int),(b6,0),z,()) u2:=by
   intro u2 g hsq
   have r6':=r6.fr g (fun h=>h)
   refine jnC_mk (fun _=>⟨_,r6'.cell (o:=0) (rc_k _ _ _),vIf_mk (fun h6=>vIf_mk (fun h1=>⟨_,r6'.cell (o:=36) (rc_n hdx _ _ _),vIf_mk (fun h7=>⟨_,r6'.cell (o:=37) (rc_z hdx _ _ _),k12 _ u2 g hsq ?_⟩) (fun h7=>k12 _ u2 g hsq ?_)⟩) (fun h1=>k12 _ u2 g hsq ?_)) (fun h6=>k12 _ u2 g hsq ?_)⟩)
   ·have h6:x.k=6:=by simpa using h6
    have h1:(out.length:Int) > 0:=of_decide_eq_true h1
    have h7:x.n=(out.length:Int):=by simpa using h7
    dsimp only
    rw [i64_id (by omega) (by omega),beq_iff_eq]
    exact ⟨fun q=>⟨fun e=>by rw [e] at h1; exact absurd h1 (by decide),h6,h7,q⟩,fun q=>q.2.2.2⟩
   ·have h7:x.n ≠ (out.length:Int):=by simpa using h7
    exact ⟨fun q=>(by cases q),fun q=>absurd q.2.2.1 h7⟩
   ·have h1:¬ (out.length:Int) > 0:=of_decide_eq_false h1
    exact ⟨fun q=>(by cases q),fun q=>absurd (List.length_eq_zero_iff.1 (by omega)) q.1⟩
   ·have h6:x.k ≠ 6:=by simpa using h6
    exact ⟨fun q=>(by cases q),fun q=>absurd q.2.1 h6⟩
  have k10:∀ (t:Bool) (u2:World),Fr (fun _=>False) w2 u2->(t=true ↔ (out ≠ []/\(x.sq=0\/x.sq - 1 ≠ last)))->jnC (F13.k10 (fun v w'=>BaA w w' v (baP seg b at_)) C) ((A,n,c),a,seg,(A1,out.length,c1),at_,(out.length:Int),(b6,0),z,t,()) u2:=by
   intro t u2 g ht
   refine jnC_mk (fun _=>vIf_mk (fun h=>baE_ans (hr2.f.trans1 g) 3 ?_) (fun h=>k11 u2 g (fun q=>by rw [ht.2 q] at h; cases h)))
   rw [if_pos (ht.1 h)] at hba
   exact hba.symm
  have fd:Fr (fun _=>False) w2 w2.drew:=Fr.drew _ _
  refine vIf_mk (fun h1=>?_) (fun h1=>k10 _ _ fd ?_)
  ·have h1:(out.length:Int) > 0:=of_decide_eq_true h1
   have ho:out ≠ []:=fun e=>by rw [e] at h1; exact absurd h1 (by decide)
   have rd:=r6.fr fd (fun h=>h)
   refine ⟨_,rd.cell (o:=1) (rc_sq _ _ _),vIf_mk (fun h0=>k10 _ _ fd ?_) (fun h0=>⟨_,rd.cell (o:=1) (rc_sq _ _ _),?_⟩)⟩
   ·have h0:(x.sq:Int) < 1:=of_decide_eq_true h0
    exact ⟨fun _=>⟨ho,.inl (by omega)⟩,fun _=>rfl⟩
   ·have h0:¬ (x.sq:Int) < 1:=of_decide_eq_false h0
    have hlast:out.length - 1 < out.length:=by omega
    have hy:=List.getElem?_eq_getElem hlast
    obtain ⟨b26,o27,hA,hcs⟩:=((hr2.fr fd).sw).get hy
    have hsy:=hls _ hy
    subst hA
    have e1:IntKind.wrap .i64 (((out.length:Nat):Int) - 1)=((out.length - 1:Nat):Int):=by rw [i64_id (by omega) (by omega)]; omega
    refine dr_mk ?_
    rw [e1,u64_id (by omega) (by omega)]
    refine gd_mk (decide_eq_true (by omega)) (gd_mk (decide_eq_true (by omega)) ⟨_,hcs 1 _ (wo_sq _),k10 _ _ fd ?_⟩)
    rw [hsy,bne_iff_ne]
    exact ⟨fun q=>⟨ho,.inr (by omega)⟩,fun q=>by have:=q.2; omega⟩
  ·have h1:¬ (out.length:Int) > 0:=of_decide_eq_false h1
   exact ⟨fun q=>(by cases q),fun q=>absurd (List.length_eq_zero_iff.1 (by omega)) q.1⟩
 ·exfalso
  have hk:¬ ((out.length:Int)<=(n:Int)):=of_decide_eq_false hk
  by_cases ho:out=[]
  ·rw [ho] at hk
   exact hk (by show ((0:Nat):Int)<=_; omega)
  ·have:=ha1 ho
   omega
theorem fitL_app:∀ {ks ks':List LK} {xs ys:List Value},ks.length=xs.length->fitL ks xs=true->fitL ks' ys=true->fitL (ks ++ ks') (xs ++ ys)=true
 | [],_,[],_,_,_,h=>h
 | [],_,_ :: _,_,h,_,_=>by cases h
 | _ :: _,_,[],_,h,_,_=>by cases h
 | k :: ks,ks',x :: xs,ys,hl,h1,h2=>by
  have h1:(fitV k x && fitL ks xs)=true:=h1
  rw [Bool.and_eq_true] at h1
  show (fitV k x && fitL (ks ++ ks') (xs ++ ys))=true
  rw [h1.1,fitL_app (Nat.succ.inj hl) h1.2 h2]; rfl
theorem fitL_y:∀ d:List UInt8,fitL (List.replicate d.length .y) (d.map bv)=true
 | []=>rfl
 | c :: d=>by
  show (fitV .y (bv c) && fitL (List.replicate d.length .y) (d.map bv))=true
  rw [fitL_y d,Bool.and_true]
  have:=c.toNat_lt
  show (decide ((0:Int)<=(c.toNat:Int)) && decide ((c.toNat:Int) < 256))=true
  rw [decide_eq_true (by omega),decide_eq_true (by omega)]; rfl
theorem wo_fit {x:Wo} (h:x.d.length=32) {ks:List LK} (e:ks=[.i .i64,.i .u64] ++ (List.replicate 32 .y ++ [.s,.i .i64,.i .i64,.i .i64,.i .i64])):fitL ks (woC x)=true:=by
 rw [e,<- h]
 unfold woC
 refine fitL_app rfl rfl (fitL_app (by simp) (fitL_y _) rfl)
theorem eqVL_self:∀ {l:List Value},(∀ v ∈ l,eqV v v=true)->eqVL l l=true
 | [],_=>rfl
 | v :: l,h=>by
  show (eqV v v && eqVL l l)=true
  rw [h v List.mem_cons_self,eqVL_self (fun v hv=>h v (List.mem_cons_of_mem _ hv))]; rfl
theorem wo_eqv (x:Wo):eqVL (woC x) (woC x)=true:=by
 refine eqVL_self (fun v hv=>?_)
 unfold woC at hv
 rcases List.mem_append.1 hv with h | h
 ·simp only [List.mem_cons,List.not_mem_nil,or_false] at h
  rcases h with rfl | rfl <;> exact beq_self_eq_true _
 ·rcases List.mem_append.1 h with h | h
  ·obtain ⟨c,_,rfl⟩:=List.mem_map.1 h
   exact beq_self_eq_true (c.toNat:Int)
  ·simp only [List.mem_cons,List.not_mem_nil,or_false] at h
   rcases h with rfl | rfl | rfl | rfl | rfl <;> exact beq_self_eq_true _
theorem words_same (A1 A2:Option Addr) (n c1 c2:Nat) (l:List Wo) (w:World) (h1:SW w A1 n l) (h2:SW w A2 n l) (hn:n<=1099511627776) :
  Calls Tryz.prog 30 #[.slice A1 n c1,.slice A2 n c2] w fun e w'=>e=.returned (.bool true)/\Fr (fun _=>False) w w':=by
 refine (F30.of A1 n c1 A2 n c2 w (Q:=fun v w'=>v=.bool true/\Fr (fun _=>False) w w') ?_).mono (fun e w' ⟨v,he,hv,h⟩=>⟨by rw [he,hv],h⟩)
 refine vIf_mk (fun h=>?_) (fun _=>?_)
 ·exfalso; simp at h
 refine jnC_mk (loop_rule (fun s u=>∃ i:Nat,s=((A1,n,c1),(A2,n,c2),(i:Int),())/\i<=n/\Fr (fun _=>False) w u) (fun s _=>(n - s.2.2.1).toNat) ?_ _ _ ⟨0,rfl,Nat.zero_le _,Fr.refl _ _⟩)
 rintro s u C ⟨i,rfl,hi,hf⟩ hC _
 refine vIf_mk (fun hlt=>?_) (fun _=>⟨rfl,hf⟩)
 have hlt':(i:Int) < (n:Int):=of_decide_eq_true hlt
 have hil:i < l.length:=by have:=h1.len; omega
 have hx:=List.getElem?_eq_getElem hil
 have fd:Fr (fun _=>False) u u.drew:=Fr.drew _ _
 obtain ⟨b1,o1,hA1,hc1⟩:=((h1.fr hf).fr fd).get hx
 obtain ⟨b2,o2,hA2,hc2⟩:=((h2.fr hf).fr fd).get hx
 subst hA1
 subst hA2
 have hd:=h1.d _ (List.getElem_mem hil)
 have g1:decide (0<=(i:Int))=true:=decide_eq_true (by omega)
 have g2:decide ((i:Int) < (n:Int))=true:=decide_eq_true hlt'
 refine dr_mk (gd_mk g1 (gd_mk g2 ⟨woC l[i],woC_len hd,?_,dr_mk (gd_mk g1 (gd_mk g2 ⟨woC l[i],woC_len hd,?_,wo_fit hd rfl,wo_fit hd rfl,vIf_f (by rw [wo_eqv]; rfl) (jnC_mk (hC _ _ ⟨i+1,?_,by omega,hf.trans1 fd⟩ ?_))⟩))⟩))
 ·exact hc1
 ·exact hc2
 ·show (_,_,IntKind.wrap .i64 ((i:Int)+1),())=_
  rw [i64_id (by omega) (by omega)]; rfl
 ·show ((n:Int) - IntKind.wrap .i64 ((i:Int)+1)).toNat < ((n:Int) - (i:Int)).toNat
  rw [i64_id (by omega) (by omega)]; omega
end Go.Proofs.YtodmachaofepkaaGreatDoor
namespace Go.Proofs.YtodmachaofepkaaGreatDoor
open Go.GV
structure Sn where
 ws:List Wo
 sq:Nat
 e:Int
 s:Bool
 a:Int
 r:Int
def hdS:List Wo->Nat
 | []=>0
 | x :: _=>x.sq
def bgP (b:List UInt8) (n:Int):Sn :=
 if (recP b 0).2.2 ≠ 0 then ⟨[],0,0,false,0,(recP b 0).2.2⟩
 else if (recP b 0).1.k ≠ 7\/(recP b 0).1.n ≠ n then ⟨[],0,0,false,0,3⟩
 else ⟨[],(recP b 0).1.sq,(recP b 0).2.1,false,(recP b 0).2.1,0⟩
def ftP (b:List UInt8) (s:Sn):Sn×Bool :=
 if (recP b s.e).2.2 ≠ 0\/(recP b s.e).1.k ≠ 8 then (s,false)
 else if (recP b s.e).1.sq<=s.sq\/(recP b s.e).1.n ≠ (s.ws.length:Int)\/(recP b s.e).1.z ≠ s.e\/(recP b s.e).2.1 ≠ (b.length:Int) then ({ s with r:=3 },true)
 else ({ s with sq:=(recP b s.e).1.sq,e:=(recP b s.e).2.1,a:=(recP b s.e).2.1,s:=true },true)
def btP (b:List UInt8) (n:Int) (s:Sn):Sn×Bool :=
 if (baP n b s.e).2.2.2 ≠ 0 then ({ s with r:=(baP n b s.e).2.2.2 },true)
 else if hdS (baP n b s.e).1<=s.sq then ({ s with r:=3 },true)
 else ({ s with ws:=s.ws ++ (baP n b s.e).1,sq:=(baP n b s.e).2.2.1,e:=(baP n b s.e).2.1,a:=(baP n b s.e).2.1 },false)
def scG (b:List UInt8) (n:Int):Nat->Sn->Sn
 | 0,s=>s
 | f+1,s =>
  if s.e < (b.length:Int) then
   if (ftP b s).2=true then (ftP b s).1
   else if (btP b n s).2=true then (btP b n s).1
   else scG b n f (btP b n s).1
  else s
def scF (b:List UInt8) (n:Int) (s:Sn):Sn:=scG b n (lfB b s.e+1) s
def scP (b:List UInt8) (n:Int):Sn:=if (bgP b n).r ≠ 0 then bgP b n else scF b n (bgP b n)
structure BokP (b:List UInt8) (at_:Int) (k:Nat) (r:BaR):Prop where
 at0:0<=at_
 lt:at_ < r.2.1
 le:r.2.1<=(b.length:Int)
 len:(r.1.length:Int)<=(k:Int)+(r.2.1 - at_)
 ne:r.1 ≠ []
 sq:r.2.2.1 < 18446744073709551616
theorem baG_in (seg:Int) (b:List UInt8) (from_:Int):∀ (f:Nat) (at_:Int) (out:List Wo) (last:Nat),(baG seg b from_ f at_ out last).2.2.2=0->BokP b at_ out.length (baG seg b from_ f at_ out last)
 | 0,_,_,_,h=>by cases h
 | f+1,at_,out,last,h=>by
  unfold baG at h ⊢
  by_cases h0:(recP b at_).2.2=0
  ·rw [if_neg (fun g=>g h0)] at h ⊢
   have hr:=recP_in h0
   have i1:=hr.at0
   have i2:=hr.lt
   have i3:=hr.le
   by_cases h1:out ≠ []/\((recP b at_).1.sq=0\/(recP b at_).1.sq - 1 ≠ last)
   ·rw [if_pos h1] at h; cases h
   ·rw [if_neg h1] at h ⊢
    by_cases h2:(recP b at_).1.k<=5
    ·rw [if_pos h2] at h ⊢
     have hg:=baG_in seg b from_ f _ _ _ h
     have g1:=hg.lt
     have g2:=hg.len
     rw [List.length_append] at g2
     have g2:_<=((out.length+1:Nat):Int)+_:=g2
     exact ⟨i1,by omega,hg.le,by omega,hg.ne,hg.sq⟩
    ·rw [if_neg h2] at h ⊢
     by_cases h3:out ≠ []/\(recP b at_).1.k=6/\(recP b at_).1.n=(out.length:Int)/\(recP b at_).1.z=at_ - from_
     ·rw [if_pos h3]
      exact ⟨i1,by show at_ < (recP b at_).2.1; omega,i3,by show (out.length:Int)<=_+((recP b at_).2.1 - at_); omega,h3.1,hr.sq⟩
     ·rw [if_neg h3] at h; cases h
  ·rw [if_pos h0] at h
   exact absurd h h0
theorem baP_in {seg:Int} {b:List UInt8} {at_:Int} (h:(baP seg b at_).2.2.2=0):BokP b at_ 0 (baP seg b at_):=baG_in seg b at_ _ _ _ _ h
theorem btP_lt {b:List UInt8} {n:Int} {s:Sn} (h:(btP b n s).2=false):s.e < (btP b n s).1.e/\(btP b n s).1.e<=(b.length:Int)/\(baP n b s.e).2.2.2=0:=by
 unfold btP at h ⊢
 by_cases h0:(baP n b s.e).2.2.2=0
 ·rw [if_neg (fun g=>g h0)] at h ⊢
  have hb:=baP_in h0
  split at h
  ·cases h
  ·rename_i h1
   rw [if_neg h1]
   exact ⟨hb.lt,hb.le,h0⟩
 ·rw [if_pos h0] at h; cases h
theorem scG_fuel (b:List UInt8) (n:Int):∀ (f g:Nat) (s:Sn),lfB b s.e < f->lfB b s.e < g->scG b n f s=scG b n g s
 | 0,_,_,h,_=>absurd h (Nat.not_lt_zero _)
 | _+1,0,_,_,h=>absurd h (Nat.not_lt_zero _)
 | f+1,g+1,s,h1,h2=>by
  unfold scG
  by_cases h3:(btP b n s).2=true
  ·rw [if_pos h3,if_pos h3]
  ·have h4:=btP_lt (by simpa using h3)
   have:lfB b (btP b n s).1.e < lfB b s.e:=by unfold lfB; omega
   rw [if_neg h3,if_neg h3,scG_fuel b n f g _ (by omega) (by omega)]
theorem scF_eq (b:List UInt8) (n:Int) (s:Sn):scF b n s=if s.e < (b.length:Int) then (if (ftP b s).2=true then (ftP b s).1 else if (btP b n s).2=true then (btP b n s).1 else scF b n (btP b n s).1) else s:=by
 show scG b n (lfB b s.e+1) s=_
 rw [scG]
 by_cases h3:(btP b n s).2=true
 ·rw [if_pos h3,if_pos h3]
 ·have h4:=btP_lt (by simpa using h3)
  have:lfB b (btP b n s).1.e < lfB b s.e:=by unfold lfB; omega
  rw [if_neg h3,if_neg h3,scG_fuel b n (lfB b s.e) (lfB b (btP b n s).1.e+1) _ (by omega) (by omega)]
  rfl
def snC (x:Sn) (A:Option Addr) (c:Nat):List Value:=[.slice A x.ws.length c,.int .u64 (x.sq:Nat),.int .i64 x.e,.bool x.s,.int .i64 x.a,.int .i64 x.r]
theorem snC_one (x:Sn) (A:Option Addr) (c:Nat):∀ v ∈ snC x A c,v.oneCell'=true:=by
 intro v hv
 simp only [snC,List.mem_cons,List.not_mem_nil,or_false] at hv
 rcases hv with rfl | rfl | rfl | rfl | rfl | rfl <;> rfl
abbrev ScA (w w':World) (v:Value) (s:Sn):Prop:=∃ (A:Option Addr) (c:Nat),v=ofL (snC s A c)/\RW w w' A s.ws.length c s.ws
end Go.Proofs.YtodmachaofepkaaGreatDoor
namespace Go.Proofs.YtodmachaofepkaaGreatDoor
open Go.GV Go.RowKit Go.Lib
theorem bg_calls (A:Option Addr) (m c:Nat) (b:List UInt8) (n:Int) (w:World) (h:Sl w 1 A m (b.map bv)) (hc:m<=c) (hm:m<=1099511627776) :
  Calls Tryz.prog 57 #[.slice A m c,.int .i64 n] w fun e w'=>e=.returned (ofL (snC (bgP b n) none 0))/\Fr (fun _=>False) w w':=by
 refine (F57.of A m c n w (Q:=fun v w'=>v=ofL (snC (bgP b n) none 0)/\Fr (fun _=>False) w w') ?_).mono (fun e w' ⟨v,he,hv,h⟩=>⟨by rw [he,hv],h⟩)
 refine rec_new (fun b1 w2 f1 hb1 r1=>?_)
 have Z6:Z27.length=6:=rfl
 refine (parse_calls A m c b 0 w2 (f1.sl h (fun _ _ _ h=>h)) hc hm).mono ?_
 rintro e w3 ⟨_,rfl,f3,A2,n2,c2,rfl,hd2,hc2⟩
 refine ⟨_,_,_,rfl,var_new (sz:=38) rfl (rcC_len (recP_len b 0) _ _ _) (rcC_one _ _ _ _) (fun b8 w4 f4 hb8 r8=>?_)⟩
 have f14:=(f1.trans1 f3).trans1 f4
 have r1':=(r1.fr f3 (fun h=>h)).fr f4 (fun h=>h)
 have lay:∀ (u:World) (x:Sn),Fr (fun _=>False) w u->RecAt u b1 27 Z27->x.ws=[]->bgP b n=x->gd ((snC x none 0).length == 6) (st u b1 0 (snC x none 0) fun w1=>ldA 6 w1 b1 0 fun a=>ofL a=ofL (snC (bgP b n) none 0)/\Fr (fun _=>False) w w1):=by
  rintro u x f r hx rfl
  exact ansN_mk (N:=6) (cs:=snC (bgP b n) none 0) (K:=fun a w1=>ofL a=ofL (snC (bgP b n) none 0)/\Fr (fun _=>False) w w1) r Z6 rfl (snC_one _ _ _) (fun w' g=>⟨rfl,fr_var f hb1 g⟩)
 generalize hP:recP b 0=P at r8 hd2 ⊢
 obtain ⟨x,z,e⟩:=P
 have hdx:x.d.length=32:=by have:=recP_len b 0; rw [hP] at this; exact this
 dsimp only at r8 hd2 ⊢
 refine vIf_mk (fun he=>?_) (fun he=>⟨_,r8.cell (o:=0) (rc_k _ _ _),vIf_mk (fun h7=>?_) (fun h7=>⟨_,r8.cell (o:=36) (rc_n hdx _ _ _),vIf_mk (fun hn=>?_) (fun hn=>jnC_mk (fun _=>⟨_,r8.cell (o:=1) (rc_sq _ _ _),?_⟩))⟩)⟩)
 ·have he:e ≠ 0:=by simpa using he
  refine lay _ ⟨[],0,0,false,0,e⟩ f14 r1' rfl ?_
  unfold bgP
  rw [hP,if_pos he]
 ·have he:e=0:=by simpa using he
  have h7:x.k ≠ 7:=by simpa using h7
  refine lay _ ⟨[],0,0,false,0,3⟩ f14 r1' rfl ?_
  unfold bgP
  rw [hP,if_neg (fun g=>g he),if_pos (.inl h7)]
 ·have he:e=0:=by simpa using he
  have hn:x.n ≠ n:=by simpa using hn
  refine lay _ ⟨[],0,0,false,0,3⟩ f14 r1' rfl ?_
  unfold bgP
  rw [hP,if_neg (fun g=>g he),if_pos (.inr hn)]
 ·have he:e=0:=by simpa using he
  have h7:x.k=7:=by simpa using h7
  have hn:x.n=n:=by simpa using hn
  refine lay _ ⟨[],x.sq,z,false,z,0⟩ f14 r1' rfl ?_
  unfold bgP
  rw [hP,if_neg (fun g=>g he),if_neg (fun g=>g.elim (fun g=>g h7) (fun g=>g hn))]
set_option maxHeartbeats 2000000 in
theorem ft_calls (A:Option Addr) (m c:Nat) (b:List UInt8) (s:Sn) (A1:Option Addr) (c1:Nat) (w:World) (h:Sl w 1 A m (b.map bv)) (hc:m<=c) (hm:m<=1099511627776) :
  Calls Tryz.prog 59 #[ofL (snC s A1 c1),.slice A m c] w fun e w'=>e=.returned (.tuple #[ofL (snC (ftP b s).1 A1 c1),.bool (ftP b s).2])/\Fr (fun _=>False) w w':=by
 refine (F59.of _ A m c w (Q:=fun v w'=>v=.tuple #[ofL (snC (ftP b s).1 A1 c1),.bool (ftP b s).2]/\Fr (fun _=>False) w w') ?_).mono (fun e w' ⟨v,he,hv,h⟩=>⟨by rw [he,hv],h⟩)
 refine rec_new (fun b1 w2 f1 hb1 r1=>rec_new (fun b3 w4 f3 hb3 r3=>?_))
 have hl:=sl_len h
 have Z6:Z27.length=6:=rfl
 have f14:=f1.trans1 f3
 have r1:=r1.fr f3 (fun h=>h)
 refine ⟨s.e,r1.cell (o:=2) rfl,(parse_calls A m c b s.e w4 (f14.sl h (fun _ _ _ h=>h)) hc hm).mono ?_⟩
 rintro e w5 ⟨_,rfl,f5,A2,n2,c2,rfl,hd2,hc2⟩
 refine ⟨_,_,_,rfl,var_new (sz:=38) rfl (rcC_len (recP_len b s.e) _ _ _) (rcC_one _ _ _ _) (fun b11 w6 f6 hb11 r11=>?_)⟩
 have f16:=(f14.trans1 f5).trans1 f6
 have l3:=r3.lt
 have l1:=r1.lt
 have hs5:=f5.size
 have r1:=(r1.fr f5 (fun h=>h)).fr f6 (fun h=>h)
 have r3:=(r3.fr f5 (fun h=>h)).fr f6 (fun h=>h)
 have hb1':w.heap.size<=b1:=hb1
 have hb3':w.heap.size<=b3:=by have:=f1.size; omega
 have n13:b1 ≠ b3:=by
  intro e
  have:=(RecAt.lt (w:=w2) (by assumption:RecAt w2 b1 _ _))
  omega
 have n11:b11 ≠ b1:=by omega
 have fin:∀ (u:World) (x:Sn) (t:Bool),Fr (fun k=>k=b1) w6 u->RecAt u b1 27 (snC x A1 c1)->ftP b s=(x,t) ->
   ldA 6 u b1 0 fun a=>gd (a.length == 6) (st u b3 0 a fun w1=>ldA 6 w1 b3 0 fun a'=>Value.tuple #[ofL a',Value.bool t]=.tuple #[ofL (snC (ftP b s).1 A1 c1),.bool (ftP b s).2]/\Fr (fun _=>False) w w1):=by
  intro u x t g q1 hx
  rw [hx]
  exact cp_mk (N:=6) (K:=fun a' w1=>Value.tuple #[ofL a',Value.bool t]=.tuple #[ofL (snC x A1 c1),.bool t]/\Fr (fun _=>False) w w1) q1 rfl (r3.fr g (fun h=>n13 h.symm)) Z6 (snC_one _ _ _) (fun w' g2=>⟨rfl,fr_var (fr_var f16 hb1' g) hb3' g2⟩)
 have F0:Fr (fun k=>k=b1) w6 w6:=Fr.refl _ _
 generalize hP:recP b s.e=P at r11 hd2 ⊢
 obtain ⟨x,z,e⟩:=P
 have hdx:x.d.length=32:=by have:=recP_len b s.e; rw [hP] at this; exact this
 dsimp only at r11 hd2 ⊢
 have k7:e=0->x.k=8->¬ (x.sq<=s.sq\/x.n ≠ (s.ws.length:Int)\/x.z ≠ s.e\/z ≠ (b.length:Int))->jnC (F59.k7 (fun v w'=>v=.tuple #[ofL (snC (ftP b s).1 A1 c1),.bool (ftP b s).2]/\Fr (fun _=>False) w w')) ((b1,0),(b3,0),(b11,0),z,()) w6:=by
  intro he h8 hno
  refine jnC_mk (fun _=>⟨_,r11.cell (o:=1) (rc_sq _ _ _),r1.st_mk (o:=1) (by show 1+1<=6; omega) (fun v hv=>by simp at hv; subst hv; rfl) (fun q1 g1=>q1.st_mk (o:=2) (by show 2+1<=6; omega) (fun v hv=>by simp at hv; subst hv; rfl) (fun q2 g2=>q2.st_mk (o:=4) (by show 4+1<=6; omega) (fun v hv=>by simp at hv; subst hv; rfl) (fun q3 g3=>q3.st_mk (o:=3) (by show 3+1<=6; omega) (fun v hv=>by simp at hv; subst hv; rfl) (fun q4 g4=>?_))))⟩)
  refine fin _ ⟨s.ws,x.sq,z,true,z,s.r⟩ true (((g1.trans1 g2).trans1 g3).trans1 g4) q4 ?_
  unfold ftP
  rw [hP,if_neg (fun g=>g.elim (fun g=>g he) (fun g=>g h8)),if_neg hno]
 have k5:∀ t:Bool,e=0->x.k=8->(t=true ↔ (x.sq<=s.sq\/x.n ≠ (s.ws.length:Int)\/x.z ≠ s.e\/z ≠ (b.length:Int)))->jnC (F59.k5 (fun v w'=>v=.tuple #[ofL (snC (ftP b s).1 A1 c1),.bool (ftP b s).2]/\Fr (fun _=>False) w w')) ((b1,0),(b3,0),(b11,0),z,t,()) w6:=by
  intro t he h8 ht
  refine jnC_mk (fun _=>vIf_mk (fun h=>?_) (fun h=>k7 he h8 (fun q=>by rw [ht.2 q] at h; cases h)))
  refine r1.st_mk (o:=5) (by show 5+1<=6; omega) (fun v hv=>by simp at hv; subst hv; rfl) (fun q1 g1=>fin _ { s with r:=3 } true g1 q1 ?_)
  unfold ftP
  rw [hP,if_neg (fun g=>g.elim (fun g=>g he) (fun g=>g h8)),if_pos (ht.1 h)]
 have k4:e=0->x.k=8->jnC (F59.k4 (fun v w'=>v=.tuple #[ofL (snC (ftP b s).1 A1 c1),.bool (ftP b s).2]/\Fr (fun _=>False) w w')) ((A,m,c),(b1,0),(b3,0),(b11,0),z,()) w6:=by
  intro he h8
  refine jnC_mk (fun _=>⟨_,r11.cell (o:=1) (rc_sq _ _ _),_,r1.cell (o:=1) (v:=.int .u64 (s.sq:Nat)) rfl,vIf_mk (fun h1=>k5 true he h8 ?_) (fun h1=>⟨_,r11.cell (o:=36) (rc_n hdx _ _ _),_,_,_,r1.cell (o:=0) (v:=.slice A1 s.ws.length c1) rfl,vIf_mk (fun h2=>k5 true he h8 ?_) (fun h2=>⟨_,r11.cell (o:=37) (rc_z hdx _ _ _),_,r1.cell (o:=2) (v:=.int .i64 s.e) rfl,vIf_mk (fun h3=>k5 true he h8 ?_) (fun h3=>k5 _ he h8 ?_)⟩)⟩)⟩)
  ·have h1:(x.sq:Int)<=(s.sq:Int):=of_decide_eq_true h1
   exact ⟨fun _=>.inl (by omega),fun _=>rfl⟩
  ·have h2:x.n ≠ (s.ws.length:Int):=by simpa using h2
   exact ⟨fun _=>.inr (.inl h2),fun _=>rfl⟩
  ·have h3:x.z ≠ s.e:=by simpa using h3
   exact ⟨fun _=>.inr (.inr (.inl h3)),fun _=>rfl⟩
  ·have h1:¬ (x.sq:Int)<=(s.sq:Int):=of_decide_eq_false h1
   have h2:x.n=(s.ws.length:Int):=by simpa using h2
   have h3:x.z=s.e:=by simpa using h3
   rw [bne_iff_ne]
   have hl':(m:Int)=(b.length:Int):=by omega
   show z ≠ (m:Int) ↔ _
   rw [hl']
   exact ⟨fun q=>.inr (.inr (.inr q)),fun q=>q.elim (fun g=>absurd (Int.ofNat_le.2 g) h1) (fun q=>q.elim (fun g=>absurd h2 g) (fun q=>q.elim (fun g=>absurd h3 g) (fun g=>g)))⟩
 have k3:∀ t:Bool,(t=true ↔ (e ≠ 0\/x.k ≠ 8))->jnC (F59.k3 (fun v w'=>v=.tuple #[ofL (snC (ftP b s).1 A1 c1),.bool (ftP b s).2]/\Fr (fun _=>False) w w')) ((A,m,c),(b1,0),(b3,0),(b11,0),z,t,()) w6:=by
  intro t ht
  refine jnC_mk (fun _=>vIf_mk (fun h=>fin w6 s false F0 r1 ?_) (fun h=>?_))
  ·unfold ftP
   rw [hP,if_pos (ht.1 h)]
  ·have hno:¬ (e ≠ 0\/x.k ≠ 8):=fun q=>by rw [ht.2 q] at h; cases h
   exact k4 (Decidable.byContradiction (fun g=>hno (.inl g))) (Decidable.byContradiction (fun g=>hno (.inr g)))
 refine vIf_mk (fun he=>k3 true ?_) (fun he=>⟨_,r11.cell (o:=0) (rc_k _ _ _),k3 _ ?_⟩)
 ·have he:e ≠ 0:=by simpa using he
  exact ⟨fun _=>.inl he,fun _=>rfl⟩
 ·have he:e=0:=by simpa using he
  rw [bne_iff_ne]
  exact ⟨fun q=>.inr q,fun q=>q.elim (fun g=>absurd he g) (fun g=>g)⟩
theorem stop_calls (e:Int) (b:Nat) (s:Sn) (A1:Option Addr) (c1:Nat) (w:World) (r:RecAt w b 27 (snC s A1 c1)) :
  Calls Tryz.prog 58 #[.int .i64 e,.pointer (some ⟨b,0,none⟩)] w fun x w'=>x=.returned (ofL (snC { s with r:=e } A1 c1))/\Fr (fun k=>k=b) w w':=by
 refine (F58.of e (b,0) w (Q:=fun v w'=>v=ofL (snC { s with r:=e } A1 c1)/\Fr (fun k=>k=b) w w') ?_).mono (fun e w' ⟨v,he,hv,h⟩=>⟨by rw [he,hv],h⟩)
 refine rec_new (fun b1 w2 f1 hb1 r1=>?_)
 have Z6:Z27.length=6:=rfl
 have l:=r.lt
 have nb:b1 ≠ b:=by omega
 have r:=r.fr f1 (fun h=>h)
 refine r.st_mk (o:=5) (by show 5+1<=6; omega) (fun v hv=>by simp at hv; subst hv; rfl) (fun q1 g1=>?_)
 refine cp_mk (N:=6) (cs:=snC { s with r:=e } A1 c1) (K:=fun a' w1=>ofL a'=ofL (snC { s with r:=e } A1 c1)/\Fr (fun k=>k=b) w w1) q1 rfl (r1.fr g1 (fun h=>nb h)) Z6 (snC_one _ _ _) (fun w' g2=>⟨rfl,?_⟩)
 exact (f1.trans g1 (fun _ _ h=>h.elim) (fun _ _ h=>h)).trans g2 (fun _ _ h=>h) (fun k hk h=>by omega)
theorem RW.var {w0 w w':World} {A:Option Addr} {n c b:Nat} {l:List Wo} (h:RW w0 w A n c l) (g:Fr (fun k=>k=b) w w') (hb:w0.heap.size<=b) (hn:blkOf A ≠ some b):RW w0 w' A n c l :=
 ⟨fr_var h.f hb g,g.row h.row (fun k hk e=>hn (by rw [hk,e])),h.len,h.d⟩
theorem bgP_in {b:List UInt8} {n:Int} (h:(bgP b n).r=0):(bgP b n).ws=[]/\0<=(bgP b n).e/\(bgP b n).e<=(b.length:Int)/\(bgP b n).sq < 18446744073709551616/\(bgP b n).s=false:=by
 unfold bgP at h ⊢
 by_cases h0:(recP b 0).2.2=0
 ·rw [if_neg (fun g=>g h0)] at h ⊢
  have hr:=recP_in h0
  have i1:=hr.lt
  by_cases h1:(recP b 0).1.k ≠ 7\/(recP b 0).1.n ≠ n
  ·rw [if_pos h1] at h; cases h
  ·rw [if_neg h1]
   exact ⟨rfl,by show 0<=(recP b 0).2.1; omega,hr.le,hr.sq,rfl⟩
 ·rw [if_pos h0] at h
  exact absurd h h0
theorem hdS_get {l:List Wo} (h:l ≠ []):∃ y,l[0]?=some y/\hdS l=y.sq:=by
 cases l with
 | nil=>exact absurd rfl h
 | cons x l=>exact ⟨x,rfl,rfl⟩
set_option maxHeartbeats 4000000 in
theorem scan_calls (A:Option Addr) (m c:Nat) (b:List UInt8) (n:Int) (w:World) (h:Sl w 1 A m (b.map bv)) (hc:m<=c) (hm:m<=1099511627776) :
  Calls Tryz.prog 29 #[.slice A m c,.int .i64 n] w fun e w'=>∃ v,e=.returned v/\ScA w w' v (scP b n):=by
 refine F29.of A m c n w (Q:=fun v w'=>ScA w w' v (scP b n)) ?_
 have hl:=sl_len h
 refine rec_new (fun b1 w2 f1 hb1 r1=>?_)
 have Z6:Z27.length=6:=rfl
 refine (bg_calls A m c b n w2 (f1.sl h (fun _ _ _ h=>h)) hc hm).mono ?_
 rintro e w3 ⟨rfl,f3⟩
 refine ⟨_,rfl,var_new (sz:=6) Z6 rfl (snC_one (bgP b n) none 0) (fun b6 w4 f4 hb6 r6=>?_)⟩
 have l1:=r1.lt
 have f14:=(f1.trans1 f3).trans1 f4
 have r1:=(r1.fr f3 (fun h=>h)).fr f4 (fun h=>h)
 have s3:=f3.size
 have hb6':w.heap.size<=b6:=by have:=(f1.trans1 f3).size; omega
 have n61:b6 ≠ b1:=by omega
 have fin:∀ (u:World) (x:Sn) (A1:Option Addr) (c1:Nat),RecAt u b6 27 (snC x A1 c1)->RecAt u b1 27 Z27->RW w u A1 x.ws.length c1 x.ws->blkOf A1 ≠ some b1->x=scP b n ->
   ldA 6 u b6 0 fun a=>gd (a.length == 6) (st u b1 0 a fun w1=>ldA 6 w1 b1 0 fun a'=>ScA w w1 (ofL a') (scP b n)):=by
  rintro u x A1 c1 q6 q1 hr hn1 rfl
  exact cp_mk (N:=6) (K:=fun a' w1=>ScA w w1 (ofL a') (scP b n)) q6 rfl q1 Z6 (snC_one _ _ _) (fun w' g2=>⟨A1,c1,rfl,hr.var g2 hb1 hn1⟩)
 refine ⟨(bgP b n).r,r6.cell (o:=5) rfl,vIf_mk (fun h0=>fin w4 (bgP b n) none 0 r6 r1 ?_ (fun h=>by cases h) ?_) (fun h0=>?_)⟩
 ·have h0:(bgP b n).r ≠ 0:=by simpa using h0
  have:(bgP b n).ws=[]:=by
   unfold bgP
   split
   ·rfl
   ·split <;> rfl
  rw [this]
  exact RW.nile f14
 ·have h0:(bgP b n).r ≠ 0:=by simpa using h0
  unfold scP
  rw [if_pos h0]
 have h0:(bgP b n).r=0:=by simpa using h0
 obtain ⟨g1,g2,g3,g4,g5⟩:=bgP_in h0
 have hsc:scP b n=scF b n (bgP b n):=by unfold scP; rw [if_neg (fun h=>h h0)]
 refine jnC_mk (loop_ruleN (fun k s u=>∃ (x:Sn) (A1:Option Addr) (c1:Nat),s=((A,m,c),n,(b1,0),(b6,0),(b6,0),())/\k=lfB b x.e/\RecAt u b6 27 (snC x A1 c1)/\RecAt u b1 27 Z27/\RW w u A1 x.ws.length c1 x.ws/\blkOf A1 ≠ some b1/\blkOf A1 ≠ some b6/\scF b n x=scP b n/\0<=x.e/\x.e<=(b.length:Int)/\(x.ws.length:Int)<=x.e) ?_ (lfB b (bgP b n).e) _ _ ⟨bgP b n,none,0,rfl,rfl,r6,r1,?_,(fun h=>by cases h),(fun h=>by cases h),hsc.symm,g2,g3,?_⟩)
 rotate_left
 ·rw [g1]; exact RW.nile f14
 ·rw [g1]; exact g2
 rintro k s u C ⟨x,A1,c1,rfl,rfl,q6,q1,hr,hn1,hn6,hx,x0,x1,x2⟩ hC _
 rw [scF_eq] at hx
 have hl6:=q6.lt
 have hl1:=q1.lt
 refine ⟨x.e,q6.cell (o:=2) rfl,vIf_mk (fun hlt=>?_) (fun hge=>fin u x A1 c1 q6 q1 hr hn1 ?_)⟩
 rotate_left
 ·have hge:¬ x.e < (m:Int):=of_decide_eq_false hge
  rw [if_neg (by omega)] at hx
  exact hx
 have hlt:x.e < (m:Int):=of_decide_eq_true hlt
 rw [if_pos (by omega)] at hx
 refine ⟨_,rfl,rec_all q6,(ft_calls A m c b x A1 c1 u (hr.f.sl h (fun _ _ _ h=>h)) hc hm).mono ?_⟩
 rintro e u1 ⟨rfl,fu1⟩
 refine ⟨_,_,rfl,var_new (sz:=6) Z6 rfl (snC_one (ftP b x).1 A1 c1) (fun b19 u2 fu2 hb19 r19=>?_)⟩
 have fu:=fu1.trans1 fu2
 have q6:=q6.fr fu (fun h=>h)
 have q1:=q1.fr fu (fun h=>h)
 have hr:=hr.fr fu
 have su1:=fu1.size
 have su:=fu.size
 refine vIf_mk (fun ht=>?_) (fun ht=>⟨x.e,q6.cell (o:=2) rfl,(bparse_calls A m c b x.e n u2 (hr.f.sl h (fun _ _ _ h=>h)) hc hm).mono ?_⟩)
 ·rw [if_pos ht] at hx
  have hws:(ftP b x).1.ws=x.ws:=by
   unfold ftP
   split
   ·rfl
   ·split <;> rfl
  refine ⟨_,rfl,rec_all r19,gd_mk rfl (q6.st_mk (o:=0) (by show 0+6<=6; omega) (snC_one _ _ _) (fun p6 gp=>?_))⟩
  exact fin _ (ftP b x).1 A1 c1 p6 (q1.fr gp (fun h=>n61 h.symm)) (by rw [hws]; exact hr.var gp hb6' hn6) hn1 hx
 have ht':¬ (ftP b x).2=true:=by rw [ht]; exact fun h=>by cases h
 rw [if_neg ht'] at hx
 rintro e u3 ⟨_,rfl,A3,c3,rfl,hr3⟩
 have fu3:=hr3.f
 have q6:=q6.fr fu3 (fun h=>h)
 have q1:=q1.fr fu3 (fun h=>h)
 have hr:=hr.fr fu3
 have su3:=fu3.size
 have hstop:∀ (e:Int) (u4:World),Fr (fun _=>False) u3 u4->(btP b n x)=({ x with r:=e },true) ->
   Calls Tryz.prog 58 #[Value.int .i64 e,Value.pointer (some ⟨b6,0,none⟩)] u4 fun e37 w36 =>
    ∃ a38:List Value,e37=.returned (ofL a38)/\(
     gd (a38.length == 6) <|
     st w36 b1 0 a38 fun w39 =>
     ldA 6 w39 b1 0 fun a40 =>
     ScA w w39 (ofL a40) (scP b n)):=by
  intro e u4 g hbt
  rw [hbt,if_pos rfl] at hx
  refine (stop_calls e b6 x A1 c1 u4 (q6.fr g (fun h=>h))).mono ?_
  rintro e w36 ⟨rfl,g36⟩
  refine ⟨_,rfl,ansN_mk (N:=6) (cs:=snC { x with r:=e } A1 c1) (K:=fun a w1=>ScA w w1 (ofL a) (scP b n)) ((q1.fr g (fun h=>h)).fr g36 (fun h=>n61 h.symm)) Z6 rfl (snC_one _ _ _) (fun w' g2=>?_)⟩
  rw [<- hx]
  exact ⟨A1,c1,rfl,((hr.fr g).var g36 hb6' hn6).var g2 hb1 hn1⟩
 dsimp only
 refine ⟨_,_,_,_,_,_,rfl,vIf_mk (fun h3=>hstop _ _ (Fr.refl _ _) ?_) (fun h3=>?_)⟩
 ·have h3:(baP n b x.e).2.2.2 ≠ 0:=by simpa using h3
  unfold btP
  rw [if_pos h3]
 have h3:(baP n b x.e).2.2.2=0:=by simpa using h3
 have hbk:=baP_in h3
 have k1:=hbk.lt
 have k2:=hbk.le
 have k3:=hbk.len
 obtain ⟨y,hy,hys⟩:=hdS_get hbk.ne
 have fd:Fr (fun _=>False) u3 u3.drew:=Fr.drew _ _
 obtain ⟨b41,o41,hA,hcs⟩:=((hr3.fr fd).sw).get hy
 have hlp:0 < (baP n b x.e).1.length:=(List.getElem?_eq_some_iff.1 hy).1
 subst hA
 rw [Nat.zero_mul,Nat.add_zero] at hcs
 refine dr_mk (gd_mk (decide_eq_true (by omega)) ⟨_,hcs 1 _ (wo_sq y),_,(q6.fr fd (fun h=>h)).cell (o:=1) (v:=.int .u64 (x.sq:Nat)) rfl,vIf_mk (fun h4=>hstop _ _ fd ?_) (fun h4=>?_)⟩)
 ·have h4:(y.sq:Int)<=(x.sq:Int):=of_decide_eq_true h4
  unfold btP
  rw [if_neg (fun g=>g h3),if_pos (by rw [hys]; omega)]
 have h4:¬ (y.sq:Int)<=(x.sq:Int):=of_decide_eq_false h4
 have hbt:btP b n x=({ x with ws:=x.ws ++ (baP n b x.e).1,sq:=(baP n b x.e).2.2.1,e:=(baP n b x.e).2.1,a:=(baP n b x.e).2.1 },false):=by
  unfold btP
  rw [if_neg (fun g=>g h3),if_neg (by rw [hys]; omega)]
 rw [hbt] at hx
 rw [if_neg (fun g=>by cases g)] at hx
 have q6:=q6.fr fd (fun h=>h)
 have q1:=q1.fr fd (fun h=>h)
 refine ⟨A1,x.ws.length,c1,q6.cell (o:=0) rfl,appW_mk (hr.fr fd) ((hr3.fr fd).sw) (by omega) (fun A5 c5 u5 hr5 g5 hb5=>?_)⟩
 have q6:=q6.fr g5 (fun h=>hn6 h.2)
 have q1:=q1.fr g5 (fun h=>hn1 h.2)
 have sd:=fd.size
 have m6:blkOf A5 ≠ some b6:=fun e=>(hb5 _ e).elim (fun h=>hn6 h) (fun h=>by omega)
 have m1:blkOf A5 ≠ some b1:=fun e=>(hb5 _ e).elim (fun h=>hn1 h) (fun h=>by omega)
 refine q6.st_mk (o:=0) (by show 0+1<=6; omega) (fun v hv=>by simp at hv; subst hv; rfl) (fun p1 g1=>p1.st_mk (o:=1) (by show 1+1<=6; omega) (fun v hv=>by simp at hv; subst hv; rfl) (fun p2 g2=>p2.st_mk (o:=2) (by show 2+1<=6; omega) (fun v hv=>by simp at hv; subst hv; rfl) (fun p3 g3=>p3.st_mk (o:=4) (by show 4+1<=6; omega) (fun v hv=>by simp at hv; subst hv; rfl) (fun p4 g4=>?_))))
 have gg:=((g1.trans1 g2).trans1 g3).trans1 g4
 refine jnC_mk (hC _ _ _ ?_ ⟨{ x with ws:=x.ws ++ (baP n b x.e).1,sq:=(baP n b x.e).2.2.1,e:=(baP n b x.e).2.1,a:=(baP n b x.e).2.1 },A5,c5,rfl,rfl,?_,q1.fr gg (fun h=>n61 h.symm),?_,m1,m6,hx,?_,k2,?_⟩)
 ·show lfB b (baP n b x.e).2.1 < lfB b x.e
  unfold lfB
  omega
 ·unfold snC
  rw [List.length_append]
  exact p4
 ·rw [List.length_append]
  exact hr5.var gg hb6' m6
 ·show 0<=(baP n b x.e).2.1
  omega
 ·rw [List.length_append]
  show ((x.ws.length+(baP n b x.e).1.length:Nat):Int)<=(baP n b x.e).2.1
  omega
theorem ld_b {w:World} {b o:Nat} {t:Bool} {K:Bool->Prop} (h:cellAt w b o=some (.bool t)) (hK:K t):ldB w b o K:=⟨t,h,hK⟩
set_option maxHeartbeats 4000000 in
theorem rscan_calls (A:Option Addr) (m c:Nat) (b:List UInt8) (n:Int) (w:World) (hsl:Sl w 1 A m (b.map bv)) (hc:m<=c) (hm:m<=1099511627776) :
  Calls Tryz.prog 4 #[.slice A m c,.int .i64 n] w fun e w'=>∃ v,e=.returned v/\ScA w w' v (scP b n):=by
 refine F4.of A m c n w (Q:=fun v w'=>ScA w w' v (scP b n)) ?_
 have hl:=sl_len hsl
 refine rec_new (fun b1 w2 f1 hb1 r1=>rec_new (fun b3 w4 f3 hb3 r3=>?_))
 have Z6:Z27.length=6:=rfl
 have f14:=f1.trans1 f3
 have l1:=r1.lt
 have r1:=r1.fr f3 (fun h=>h)
 have hb3':w.heap.size<=b3:=by have:=f1.size; omega
 have n31:b3 ≠ b1:=by omega
 refine (rparse_calls A m c b 0 w4 (f14.sl hsl (fun _ _ _ h=>h)) hc hm).mono ?_
 rintro e w5 ⟨_,rfl,f5,A2,n2,c2,rfl,hd2,hc2⟩
 have l3:=r3.lt
 refine ⟨_,_,_,rfl,var_new (sz:=38) rfl (rcC_len (recP_len b 0) _ _ _) (rcC_one _ _ _ _) (fun b10 w6 f6 hb10 r10=>?_)⟩
 have f16:=(f14.trans1 f5).trans1 f6
 have r1:=(r1.fr f5 (fun h=>h)).fr f6 (fun h=>h)
 have r3:=(r3.fr f5 (fun h=>h)).fr f6 (fun h=>h)
 have s5:=f5.size
 have n10:b10 ≠ b3:=by omega
 have fin:∀ (u:World) (x:Sn) (A1:Option Addr) (c1:Nat),RecAt u b3 27 (snC x A1 c1)->RecAt u b1 27 Z27->RW w u A1 x.ws.length c1 x.ws->blkOf A1 ≠ some b1->x=scP b n ->
   ldA 6 u b3 0 fun a=>gd (a.length == 6) (st u b1 0 a fun w1=>ldA 6 w1 b1 0 fun a'=>ScA w w1 (ofL a') (scP b n)):=by
  rintro u x A1 c1 q6 q1 hr hn1 rfl
  exact cp_mk (N:=6) (K:=fun a' w1=>ScA w w1 (ofL a') (scP b n)) q6 rfl q1 Z6 (snC_one _ _ _) (fun w' g2=>⟨A1,c1,rfl,hr.var g2 hb1 hn1⟩)
 generalize hP:recP b 0=P at r10 hd2 ⊢
 obtain ⟨x,z,e⟩:=P
 have hdx:x.d.length=32:=by have:=recP_len b 0; rw [hP] at this; exact this
 have hin0:e=0->RokP b 0 x z:=fun he=>by have:=recP_in (b:=b) (at_:=0) (by rw [hP]; exact he); rw [hP] at this; exact this
 dsimp only at r10 hd2 ⊢
 have r3z:RecAt w6 b3 27 (snC ⟨[],0,0,false,0,0⟩ none 0):=r3
 refine vIf_mk (fun he=>?_) (fun he=>?_)
 ·have he:e ≠ 0:=by simpa using he
  refine r3z.st_mk (o:=5) (by show 5+1<=6; omega) (fun v hv=>by simp at hv; subst hv; rfl) (fun q3 g3=>fin _ ⟨[],0,0,false,0,e⟩ none 0 q3 (r1.fr g3 (fun h=>n31 h.symm)) (RW.nile (fr_var f16 hb3' g3)) (fun h=>by cases h) ?_)
  have hbg:bgP b n=⟨[],0,0,false,0,e⟩:=by
   unfold bgP
   rw [hP,if_pos he]
  unfold scP
  rw [hbg]
  exact (if_pos he).symm
 have he:e=0:=by simpa using he
 have hin:=hin0 he
 have i2:=hin.lt
 have i3:=hin.le
 have k7:∀ t:Bool,(t=true ↔ (x.k ≠ 7\/x.n ≠ n))->jnC (F4.k7 (fun v w'=>ScA w w' v (scP b n))) ((A,m,c),n,(b1,0),(b3,0),(b10,0),z,t,()) w6:=by
  intro t ht
  refine jnC_mk (fun _=>vIf_mk (fun h=>?_) (fun h=>?_))
  ·refine r3z.st_mk (o:=5) (by show 5+1<=6; omega) (fun v hv=>by simp at hv; subst hv; rfl) (fun q3 g3=>fin _ ⟨[],0,0,false,0,3⟩ none 0 q3 (r1.fr g3 (fun h=>n31 h.symm)) (RW.nile (fr_var f16 hb3' g3)) (fun h=>by cases h) ?_)
   have hbg:bgP b n=⟨[],0,0,false,0,3⟩:=by
    unfold bgP
    rw [hP,if_neg (fun g=>g he),if_pos (ht.1 h)]
   unfold scP
   rw [hbg]; rfl
  have hno:¬ (x.k ≠ 7\/x.n ≠ n):=fun q=>by rw [ht.2 q] at h; cases h
  have hbg:bgP b n=⟨[],x.sq,z,false,z,0⟩:=by
   unfold bgP
   rw [hP,if_neg (fun g=>g he),if_neg hno]
  have hsc:scP b n=scF b n (bgP b n):=by
   unfold scP
   rw [hbg]; rfl
  refine jnC_mk (fun _=>⟨_,r10.cell (o:=1) (rc_sq _ _ _),r3z.st_mk (o:=1) (by show 1+1<=6; omega) (fun v hv=>by simp at hv; subst hv; rfl) (fun p1 e1=>p1.st_mk (o:=2) (by show 2+1<=6; omega) (fun v hv=>by simp at hv; subst hv; rfl) (fun p2 e2=>p2.st_mk (o:=4) (by show 4+1<=6; omega) (fun v hv=>by simp at hv; subst hv; rfl) (fun p3 e3=>?_)))⟩)
  have ge:=(e1.trans1 e2).trans1 e3
  refine jnC_mk (loop_ruleN (fun k s u=>∃ (x:Sn) (A1:Option Addr) (c1:Nat),s=((A,m,c),n,(b1,0),(b3,0),())/\k=lfB b x.e/\RecAt u b3 27 (snC x A1 c1)/\RecAt u b1 27 Z27/\RW w u A1 x.ws.length c1 x.ws/\blkOf A1 ≠ some b1/\blkOf A1 ≠ some b3/\scF b n x=scP b n/\0<=x.e/\x.e<=(b.length:Int)/\(x.ws.length:Int)<=x.e/\x.s=false) ?_ (lfB b z) _ _ ⟨⟨[],x.sq,z,false,z,0⟩,none,0,rfl,rfl,p3,r1.fr ge (fun h=>n31 h.symm),RW.nile (fr_var f16 hb3' ge),(fun h=>by cases h),(fun h=>by cases h),?_,?_,i3,?_,rfl⟩)
  rotate_left
  ·rw [hsc,hbg]
  ·show 0<=z; omega
  ·show ((0:Nat):Int)<=z; omega
  clear hP hdx r10 hd2 hin hin0 i2 i3 hno hbg ht h hsc p1 p2 p3 e1 e2 e3 ge r3z r3 r1 n10
  rintro k s u C ⟨x,A1,c1,rfl,rfl,q3,q1,hr,hn1,hn3,hx,x0,x1,x2,x3⟩ hC _
  rw [scF_eq] at hx
  have hl3:=q3.lt
  have hl1:=q1.lt
  refine ⟨x.e,q3.cell (o:=2) rfl,vIf_mk (fun hlt=>?_) (fun hge=>fin u x A1 c1 q3 q1 hr hn1 ?_)⟩
  rotate_left
  ·have hge:¬ x.e < (m:Int):=of_decide_eq_false hge
   rw [if_neg (by omega)] at hx
   exact hx
  have hlt:x.e < (m:Int):=of_decide_eq_true hlt
  rw [if_pos (by omega)] at hx
  refine ld_b (q3.cell (o:=3) (v:=.bool x.s) rfl) (vIf_mk (fun _=>?_) (fun hs=>by rw [x3] at hs; cases hs))
  refine jnC_mk (fun _=>⟨x.e,q3.cell (o:=2) rfl,(rparse_calls A m c b x.e u (hr.f.sl hsl (fun _ _ _ h=>h)) hc hm).mono ?_⟩)
  rintro e u1 ⟨_,rfl,fu1,A4,n4,c4,rfl,hd4,hc4⟩
  have su1:=fu1.size
  refine ⟨_,_,_,rfl,var_new (sz:=38) rfl (rcC_len (recP_len b x.e) _ _ _) (rcC_one _ _ _ _) (fun b34 u2 fu2 hb34 r34=>?_)⟩
  have fu:=fu1.trans1 fu2
  have q3:=q3.fr fu (fun h=>h)
  have q1:=q1.fr fu (fun h=>h)
  have hr:=hr.fr fu
  have su:=fu.size
  have n34:b34 ≠ b3:=by omega
  generalize hP:recP b x.e=P at r34 hd4 ⊢
  obtain ⟨y,z,e⟩:=P
  have hdy:y.d.length=32:=by have:=recP_len b x.e; rw [hP] at this; exact this
  dsimp only at r34 hd4 ⊢
  have k16:∀ t:Bool,e=0->y.k=8->(t=true ↔ (y.sq<=x.sq\/y.n ≠ (x.ws.length:Int)\/y.z ≠ x.e\/z ≠ (b.length:Int)))->jnC (F4.k16 (fun v w'=>ScA w w' v (scP b n)) C) ((b1,0),(b3,0),(b34,0),z,t,()) u2:=by
   intro t he h8 ht
   refine jnC_mk (fun _=>vIf_mk (fun h=>?_) (fun h=>jnC_mk (fun _=>?_)))
   ·have hf:ftP b x=({ x with r:=3 },true):=by
     unfold ftP
     rw [hP,if_neg (fun g=>g.elim (fun g=>g he) (fun g=>g h8)),if_pos (ht.1 h)]
    rw [hf,if_pos rfl] at hx
    refine q3.st_mk (o:=5) (by show 5+1<=6; omega) (fun v hv=>by simp at hv; subst hv; rfl) (fun p3 g3=>fin _ { x with r:=3 } A1 c1 p3 (q1.fr g3 (fun h=>n31 h.symm)) (hr.var g3 hb3' hn3) hn1 hx)
   ·have hf:ftP b x=({ x with sq:=y.sq,e:=z,a:=z,s:=true },true):=by
     unfold ftP
     rw [hP,if_neg (fun g=>g.elim (fun g=>g he) (fun g=>g h8)),if_neg (fun q=>by rw [ht.2 q] at h; cases h)]
    rw [hf,if_pos rfl] at hx
    refine q3.st_mk (o:=3) (by show 3+1<=6; omega) (fun v hv=>by simp at hv; subst hv; rfl) (fun p0 g0=>⟨_,(r34.fr g0 (fun h=>n34 h)).cell (o:=1) (rc_sq _ _ _),p0.st_mk (o:=1) (by show 1+1<=6; omega) (fun v hv=>by simp at hv; subst hv; rfl) (fun p1 g1=>p1.st_mk (o:=2) (by show 2+1<=6; omega) (fun v hv=>by simp at hv; subst hv; rfl) (fun p2 g2=>p2.st_mk (o:=4) (by show 4+1<=6; omega) (fun v hv=>by simp at hv; subst hv; rfl) (fun p3 g3=>?_)))⟩)
    have gg:=((g0.trans1 g1).trans1 g2).trans1 g3
    exact fin _ { x with sq:=y.sq,e:=z,a:=z,s:=true } A1 c1 p3 (q1.fr gg (fun h=>n31 h.symm)) (hr.var gg hb3' hn3) hn1 hx
  have k23:¬ (ftP b x).2=true->jnC (F4.k23 (fun v w'=>ScA w w' v (scP b n)) C) ((A,m,c),n,(b1,0),(b3,0),()) u2:=by
   intro hft
   rw [if_neg hft] at hx
   refine jnC_mk (fun _=>⟨x.e,q3.cell (o:=2) rfl,(rbparse_calls A m c b x.e n u2 (hr.f.sl hsl (fun _ _ _ h=>h)) hc hm).mono ?_⟩)
   rintro e u3 ⟨_,rfl,A3,c3,rfl,hr3⟩
   have fd:Fr (fun _=>False) u3 u3.drew:=Fr.drew _ _
   have fu3:=hr3.f.trans1 fd
   have q3:=q3.fr fu3 (fun h=>h)
   have q1:=q1.fr fu3 (fun h=>h)
   have hr:=hr.fr fu3
   have hr3:=hr3.fr fd
   have su3:=fu3.size
   have k26:∀ e:Int,(e ≠ 0->btP b n x=({ x with r:=e },true))->(e=0->(baP n b x.e).2.2.2=0/\btP b n x=({ x with ws:=x.ws ++ (baP n b x.e).1,sq:=(baP n b x.e).2.2.1,e:=(baP n b x.e).2.1,a:=(baP n b x.e).2.1 },false)) ->
     jnC (F4.k26 (fun v w'=>ScA w w' v (scP b n)) C) ((A,m,c),n,(b1,0),(b3,0),(A3,(baP n b x.e).1.length,c3),(baP n b x.e).2.1,((baP n b x.e).2.2.1:Int),e,()) u3.drew:=by
    intro e he1 he0
    refine jnC_mk (fun _=>vIf_mk (fun h=>?_) (fun h=>?_))
    ·have h:e ≠ 0:=by simpa using h
     rw [he1 h,if_pos rfl] at hx
     exact q3.st_mk (o:=5) (by show 5+1<=6; omega) (fun v hv=>by simp at hv; subst hv; rfl) (fun p3 g3=>fin _ { x with r:=e } A1 c1 p3 (q1.fr g3 (fun h=>n31 h.symm)) (hr.var g3 hb3' hn3) hn1 hx)
    have h:e=0:=by simpa using h
    obtain ⟨h3,hbt⟩:=he0 h
    have hbk:=baP_in h3
    have j1:=hbk.lt
    have j2:=hbk.le
    have j3:=hbk.len
    rw [hbt] at hx
    rw [if_neg (fun g=>by cases g)] at hx
    dsimp only
    refine ⟨A1,x.ws.length,c1,q3.cell (o:=0) rfl,appW_mk hr hr3.sw (by omega) (fun A5 c5 u5 hr5 g5 hb5=>?_)⟩
    have q3:=q3.fr g5 (fun h=>hn3 h.2)
    have q1:=q1.fr g5 (fun h=>hn1 h.2)
    have m3:blkOf A5 ≠ some b3:=fun e=>(hb5 _ e).elim (fun h=>hn3 h) (fun h=>by omega)
    have m1:blkOf A5 ≠ some b1:=fun e=>(hb5 _ e).elim (fun h=>hn1 h) (fun h=>by omega)
    refine q3.st_mk (o:=0) (by show 0+1<=6; omega) (fun v hv=>by simp at hv; subst hv; rfl) (fun p1 g1=>p1.st_mk (o:=1) (by show 1+1<=6; omega) (fun v hv=>by simp at hv; subst hv; rfl) (fun p2 g2=>p2.st_mk (o:=2) (by show 2+1<=6; omega) (fun v hv=>by simp at hv; subst hv; rfl) (fun p3 g3=>p3.st_mk (o:=4) (by show 4+1<=6; omega) (fun v hv=>by simp at hv; subst hv; rfl) (fun p4 g4=>?_))))
    have gg:=((g1.trans1 g2).trans1 g3).trans1 g4
    refine jnC_mk (hC _ _ _ ?_ ⟨{ x with ws:=x.ws ++ (baP n b x.e).1,sq:=(baP n b x.e).2.2.1,e:=(baP n b x.e).2.1,a:=(baP n b x.e).2.1 },A5,c5,rfl,rfl,?_,q1.fr gg (fun h=>n31 h.symm),?_,m1,m3,hx,?_,j2,?_,x3⟩)
    ·show lfB b (baP n b x.e).2.1 < lfB b x.e
     unfold lfB
     omega
    ·unfold snC
     rw [List.length_append]
     exact p4
    ·rw [List.length_append]
     exact hr5.var gg hb3' m3
    ·show 0<=(baP n b x.e).2.1
     omega
    ·rw [List.length_append]
     show ((x.ws.length+(baP n b x.e).1.length:Nat):Int)<=(baP n b x.e).2.1
     omega
   refine ⟨_,_,_,_,_,_,rfl,vIf_mk (fun h3=>?_) (fun h3=>k26 _ ?_ (fun g=>?_))⟩
   ·have h3:(baP n b x.e).2.2.2=0:=by simpa using h3
    have hbk:=baP_in h3
    obtain ⟨y,hy,hys⟩:=hdS_get hbk.ne
    obtain ⟨b41,o41,hA,hcs⟩:=(hr3.sw).get hy
    have hlp:0 < (baP n b x.e).1.length:=(List.getElem?_eq_some_iff.1 hy).1
    subst hA
    rw [Nat.zero_mul,Nat.add_zero] at hcs
    refine dr_mk (gd_mk (decide_eq_true (by omega)) ⟨_,hcs 1 _ (wo_sq y),_,q3.cell (o:=1) (v:=.int .u64 (x.sq:Nat)) rfl,vIf_mk (fun h4=>k26 3 (fun _=>?_) (fun g=>by cases g)) (fun h4=>k26 _ (fun g=>absurd h3 g) (fun _=>⟨h3,?_⟩))⟩)
    ·have h4:(y.sq:Int)<=(x.sq:Int):=of_decide_eq_true h4
     unfold btP
     rw [if_neg (fun g=>g h3),if_pos (by rw [hys]; omega)]
    ·have h4:¬ (y.sq:Int)<=(x.sq:Int):=of_decide_eq_false h4
     unfold btP
     rw [if_neg (fun g=>g h3),if_neg (by rw [hys]; omega)]
   ·intro g
    unfold btP
    rw [if_pos g]
   ·have h3:(baP n b x.e).2.2.2 ≠ 0:=by simpa using h3
    exact absurd g h3
  have k15:∀ t:Bool,(t=true ↔ (e=0/\y.k=8))->jnC (F4.k15 (fun v w'=>ScA w w' v (scP b n)) C) ((A,m,c),n,(b1,0),(b3,0),(b34,0),z,t,()) u2:=by
   intro t ht
   refine jnC_mk (fun _=>vIf_mk (fun h=>?_) (fun h=>k23 ?_))
   ·obtain ⟨he,h8⟩:=ht.1 h
    refine ⟨_,r34.cell (o:=1) (rc_sq _ _ _),_,q3.cell (o:=1) (v:=.int .u64 (x.sq:Nat)) rfl,vIf_mk (fun h1=>k16 true he h8 ?_) (fun h1=>⟨_,r34.cell (o:=36) (rc_n hdy _ _ _),_,_,_,q3.cell (o:=0) (v:=.slice A1 x.ws.length c1) rfl,vIf_mk (fun h2=>k16 true he h8 ?_) (fun h2=>⟨_,r34.cell (o:=37) (rc_z hdy _ _ _),_,q3.cell (o:=2) (v:=.int .i64 x.e) rfl,vIf_mk (fun h3=>k16 true he h8 ?_) (fun h3=>k16 _ he h8 ?_)⟩)⟩)⟩
    ·have h1:(y.sq:Int)<=(x.sq:Int):=of_decide_eq_true h1
     exact ⟨fun _=>.inl (by omega),fun _=>rfl⟩
    ·have h2:y.n ≠ (x.ws.length:Int):=by simpa using h2
     exact ⟨fun _=>.inr (.inl h2),fun _=>rfl⟩
    ·have h3:y.z ≠ x.e:=by simpa using h3
     exact ⟨fun _=>.inr (.inr (.inl h3)),fun _=>rfl⟩
    ·have h1:¬ (y.sq:Int)<=(x.sq:Int):=of_decide_eq_false h1
     have h2:y.n=(x.ws.length:Int):=by simpa using h2
     have h3:y.z=x.e:=by simpa using h3
     rw [bne_iff_ne]
     have hl':(m:Int)=(b.length:Int):=by omega
     show z ≠ (m:Int) ↔ _
     rw [hl']
     exact ⟨fun q=>.inr (.inr (.inr q)),fun q=>q.elim (fun g=>absurd (Int.ofNat_le.2 g) h1) (fun q=>q.elim (fun g=>absurd h2 g) (fun q=>q.elim (fun g=>absurd h3 g) (fun g=>g)))⟩
   ·have hno:e ≠ 0\/y.k ≠ 8:=by
     by_cases g:e=0
     ·exact .inr (fun g'=>by rw [ht.2 ⟨g,g'⟩] at h; cases h)
     ·exact .inl g
    have hf:ftP b x=(x,false):=by
     unfold ftP
     rw [hP,if_pos hno]
    rw [hf]
    exact fun g=>by cases g
  refine vIf_mk (fun he=>⟨_,r34.cell (o:=0) (rc_k _ _ _),k15 _ ?_⟩) (fun he=>k15 false ?_)
  ·have he:e=0:=by simpa using he
   rw [beq_iff_eq]
   exact ⟨fun q=>⟨he,q⟩,fun q=>q.2⟩
  ·have he:e ≠ 0:=by simpa using he
   exact ⟨fun q=>(by cases q),fun q=>absurd q.1 he⟩
 refine ⟨_,r10.cell (o:=0) (rc_k _ _ _),vIf_mk (fun h7=>k7 true ?_) (fun h7=>⟨_,r10.cell (o:=36) (rc_n hdx _ _ _),k7 _ ?_⟩)⟩
 ·have h7:x.k ≠ 7:=by simpa using h7
  exact ⟨fun _=>.inl h7,fun _=>rfl⟩
 ·have h7:x.k=7:=by simpa using h7
  rw [bne_iff_ne]
  exact ⟨fun q=>.inr q,fun q=>q.elim (fun g=>absurd h7 g) (fun g=>g)⟩
end Go.Proofs.YtodmachaofepkaaGreatDoor
namespace Go.Proofs.YtodmachaofepkaaGreatDoor
open Go.GV
abbrev RdS:=List UInt8×Int
def nmP (r:RdS) (most:Int):Int×RdS :=
 if r.2 ≠ 0 then (0,r)
 else if (vaT r.1 0).2.2 ≠ 0 then (0,([],(vaT r.1 0).2.2))
 else if most < 0\/((vaT r.1 0).1:Int) > most then (0,([],20))
 else (((vaT r.1 0).1:Int),(r.1.drop (vaT r.1 0).2.1.toNat,0))
def sqP (r:RdS):Nat×RdS :=
 if r.2 ≠ 0 then (0,r)
 else if (vaT r.1 0).2.2 ≠ 0 then (0,([],(vaT r.1 0).2.2))
 else ((vaT r.1 0).1,(r.1.drop (vaT r.1 0).2.1.toNat,0))
def txtP (r:RdS):List UInt8×RdS :=
 if r.2 ≠ 0 then ([],r)
 else match txP r.1 0 with
  | none=>([],([],4))
  | some (s,e)=>(s,(r.1.drop e.toNat,0))
def dgP (r:RdS):List UInt8×RdS :=
 if r.2 ≠ 0 then (z32,r)
 else if r.1.length < 32 then (z32,([],4))
 else (r.1.take 32,(r.1.drop 32,0))
abbrev ofD (k:Int):Prop:=k=1\/k=2\/k=3\/k=5
abbrev ofN (k:Int):Prop:=k=3\/k=4
abbrev ofZ (k:Int):Prop:=k=1\/k=2
def hwD (k:Int) (r:RdS):List UInt8×RdS:=if ofD k then dgP r else (z32,r)
def hwN (k:Int) (r:RdS):List UInt8×RdS:=if ofN k then txtP r else ([],r)
def hwZ (k:Int) (r:RdS):Int×RdS:=if ofZ k then nmP r 1048576 else (0,r)
def hw2 (r:RdS):RdS:=(sqP (nmP r 8).2).2
def hw3 (r:RdS):RdS:=(hwD (nmP r 8).1 (hw2 r)).2
def hw4 (r:RdS):RdS:=(hwN (nmP r 8).1 (hw3 r)).2
def hw5 (r:RdS):RdS:=(hwZ (nmP r 8).1 (hw4 r)).2
def hw6 (r:RdS):RdS:=(nmP (hw5 r) 1048576).2
def wdH (r:RdS) (n:Int):Wo×RdS :=
 (⟨(nmP r 8).1,(sqP (nmP r 8).2).1,(hwD (nmP r 8).1 (hw2 r)).1,(hwN (nmP r 8).1 (hw3 r)).1,(hwZ (nmP r 8).1 (hw4 r)).1,n,(nmP (hw5 r) 1048576).1,(nmP (hw6 r) 1048576).1⟩,(nmP (hw6 r) 1048576).2)
structure RgW (x:Wo) (n:Int):Prop where
 k:ofD x.k\/ofN x.k
 s:x.s=n
 o:0<=x.o/\x.o<=1048576
 q:0<=x.q/\x.q<=1048576
 z:0<=x.z/\x.z<=1048576
 z0:¬ ofZ x.k->x.z=0
 d0:¬ ofD x.k->x.d=z32
 nm:ofN x.k->TagP ⟨x.nm.toArray⟩
 n0:¬ ofN x.k->x.nm=[]
def hwL (n:Int):Nat->RdS->List Wo->List Wo×RdS
 | 0,r,out=>(out,r)
 | k+1,r,out=>if r.2 ≠ 0 then (out,r) else hwL n k (wdH r n).2 (out ++ [(wdH r n).1])
def hwQ (n:Int):Nat->RdS->List Wo->List Wo×RdS
 | 0,r,out=>(out,r)
 | k+1,r,out=>hwQ n k (wdH r n).2 (out ++ [(wdH r n).1])
def endP (r:RdS):Int:=if r.2=0/\0 < r.1.length then 3 else r.2
def rdP (m b:List UInt8):RdS :=
 if b.length < m.length+4 then ([],4)
 else if leT (b.drop (b.length - 4)) ≠ (crcS (b.take (b.length - 4))).toNat then ([],5)
 else if b.take m.length ≠ m then ([],3)
 else ((b.take (b.length - 4)).drop m.length,0)
def mgH:List UInt8:=[104,105,110,116,32,49]
def h1P (b:List UInt8):Int×RdS:=nmP (rdP mgH b) 99999999
def h2P (b:List UInt8):Int×RdS:=nmP (h1P b).2 1048576
def h3P (b:List UInt8):Nat×RdS:=sqP (h2P b).2
def h4P (b:List UInt8):Int×RdS:=nmP (h3P b).2 1048576
open Classical in
noncomputable def hrP (b:List UInt8) (n size:Int):List Wo×Nat×Int :=
 if endP (hwL n (h4P b).1.toNat (h4P b).2 []).2 ≠ 0 then ([],0,endP (hwL n (h4P b).1.toNat (h4P b).2 []).2)
 else if (h1P b).1 ≠ n\/(h2P b).1 ≠ size\/¬ ∀ x ∈ (hwL n (h4P b).1.toNat (h4P b).2 []).1,RgW x n then ([],0,3)
 else ((hwL n (h4P b).1.toNat (h4P b).2 []).1,(h3P b).1,0)
structure Stp (k:Nat) (r r':RdS):Prop where
 err:r.2 ≠ 0->r'=r
 len:r'.2=0->r.2=0/\r'.1.length+k<=r.1.length
 nil:r.2=0->r'.2 ≠ 0->r'.1=[]
theorem Stp.comp {k j:Nat} {a b c:RdS} (h:Stp k a b) (g:Stp j b c):Stp (k+j) a c:=by
 refine ⟨fun e=>?_,fun e=>?_,fun e e'=>?_⟩
 ·have:=h.err e
  subst this
  exact g.err e
 ·obtain ⟨g1,g2⟩:=g.len e
  obtain ⟨h1,h2⟩:=h.len g1
  exact ⟨h1,by omega⟩
 ·by_cases hb:b.2=0
  ·exact g.nil hb e'
  ·rw [g.err hb]; exact h.nil e hb
theorem Stp.rfl0 (r:RdS):Stp 0 r r:=⟨fun _=>rfl,fun h=>⟨h,Nat.le_refl _⟩,fun h h'=>absurd h h'⟩
theorem va0_ok {b:List UInt8} (h:(vaT b 0).2.2=0):1<=(vaT b 0).2.1/\(vaT b 0).2.1<=(b.length:Int):=by
 have e:vaT b 0=if (vaGo 0 b).2.2=0 then ((vaGo 0 b).1,0+((vaGo 0 b).2.1:Int),0) else (0,0,(vaGo 0 b).2.2):=by
  have:=vaT_in (b:=b) (a:=0) (Nat.zero_le _)
  rw [List.drop_zero] at this
  exact this
 rw [e] at h ⊢
 have hl:=vaGo_len b 0
 split at h
 ·rename_i h0
  have:=hl.2 h0
  rw [if_pos h0]
  exact ⟨by show 1<=0+((vaGo 0 b).2.1:Int); omega,by show 0+((vaGo 0 b).2.1:Int)<=_; omega⟩
 ·rename_i h0
  exact absurd h h0
theorem nm_stp (r:RdS) (most:Int):Stp 1 r (nmP r most).2:=by
 unfold nmP
 by_cases h:r.2=0
 ·rw [if_neg (fun g=>g h)]
  by_cases h1:(vaT r.1 0).2.2=0
  ·rw [if_neg (fun g=>g h1)]
   have:=va0_ok h1
   split
   ·exact ⟨fun g=>absurd h g,(fun g=>by cases g),fun _ _=>rfl⟩
   ·exact ⟨fun g=>absurd h g,fun g=>⟨h,by show (r.1.drop _).length+1<=_; rw [List.length_drop]; omega⟩,fun _ g=>absurd rfl g⟩
  ·rw [if_pos h1]
   exact ⟨fun g=>absurd h g,fun g=>absurd g h1,fun _ _=>rfl⟩
 ·rw [if_pos h]
  exact ⟨fun _=>rfl,fun g=>absurd g h,fun g=>absurd g h⟩
theorem sq_stp (r:RdS):Stp 1 r (sqP r).2:=by
 unfold sqP
 by_cases h:r.2=0
 ·rw [if_neg (fun g=>g h)]
  by_cases h1:(vaT r.1 0).2.2=0
  ·rw [if_neg (fun g=>g h1)]
   have:=va0_ok h1
   exact ⟨fun g=>absurd h g,fun g=>⟨h,by show (r.1.drop _).length+1<=_; rw [List.length_drop]; omega⟩,fun _ g=>absurd rfl g⟩
  ·rw [if_pos h1]
   exact ⟨fun g=>absurd h g,fun g=>absurd g h1,fun _ _=>rfl⟩
 ·rw [if_pos h]
  exact ⟨fun _=>rfl,fun g=>absurd g h,fun g=>absurd g h⟩
theorem txt_stp (r:RdS):Stp 0 r (txtP r).2:=by
 unfold txtP
 by_cases h:r.2=0
 ·rw [if_neg (fun g=>g h)]
  cases h1:txP r.1 0 with
  | none=>exact ⟨fun g=>absurd h g,(fun g=>by cases g),fun _ _=>rfl⟩
  | some x=>exact ⟨fun g=>absurd h g,fun g=>⟨h,by show (r.1.drop _).length+0<=_; rw [List.length_drop]; omega⟩,fun _ g=>absurd rfl g⟩
 ·rw [if_pos h]
  exact ⟨fun _=>rfl,fun g=>absurd g h,fun g=>absurd g h⟩
theorem dg_stp (r:RdS):Stp 0 r (dgP r).2:=by
 unfold dgP
 by_cases h:r.2=0
 ·rw [if_neg (fun g=>g h)]
  split
  ·exact ⟨fun g=>absurd h g,(fun g=>by cases g),fun _ _=>rfl⟩
  ·exact ⟨fun g=>absurd h g,fun g=>⟨h,by show (r.1.drop _).length+0<=_; rw [List.length_drop]; omega⟩,fun _ g=>absurd rfl g⟩
 ·rw [if_pos h]
  exact ⟨fun _=>rfl,fun g=>absurd g h,fun g=>absurd g h⟩
theorem hwD_stp (k:Int) (r:RdS):Stp 0 r (hwD k r).2:=by
 unfold hwD
 split
 ·exact dg_stp r
 ·exact Stp.rfl0 r
theorem hwN_stp (k:Int) (r:RdS):Stp 0 r (hwN k r).2:=by
 unfold hwN
 split
 ·exact txt_stp r
 ·exact Stp.rfl0 r
theorem hwZ_stp (k:Int) (r:RdS):Stp 0 r (hwZ k r).2:=by
 unfold hwZ
 split
 ·exact ⟨(nm_stp r _).err,fun h=>⟨((nm_stp r _).len h).1,by have:=((nm_stp r _).len h).2; omega⟩,(nm_stp r _).nil⟩
 ·exact Stp.rfl0 r
theorem wdH_stp (r:RdS) (n:Int):Stp 4 r (wdH r n).2:=by
 have h2:Stp 2 r (hw2 r):=(nm_stp r 8).comp (sq_stp _)
 have h3:Stp 2 r (hw3 r):=h2.comp (hwD_stp _ _)
 have h4:Stp 2 r (hw4 r):=h3.comp (hwN_stp _ _)
 have h5:Stp 2 r (hw5 r):=h4.comp (hwZ_stp _ _)
 exact (h5.comp (nm_stp _ _)).comp (nm_stp _ _)
theorem dgP_len {r:RdS}:(dgP r).1.length=32:=by
 unfold dgP
 split
 ·exact z32_len
 ·split
  ·exact z32_len
  ·rw [List.length_take]; omega
theorem wdH_d (r:RdS) (n:Int):(wdH r n).1.d.length=32:=by
 show (hwD _ _).1.length=32
 unfold hwD
 split
 ·exact dgP_len
 ·exact z32_len
theorem hwQ_err (n:Int):∀ (k:Nat) (r:RdS) (out:List Wo),r.2 ≠ 0->(hwQ n k r out).2=r
 | 0,_,_,_=>rfl
 | k+1,r,out,h=>by
  have e:=(wdH_stp r n).err h
  show (hwQ n k (wdH r n).2 _).2=r
  rw [e]
  exact hwQ_err n k r _ h
theorem hwQ_eq (n:Int):∀ (k:Nat) (r:RdS) (out:List Wo),(hwQ n k r out).2=(hwL n k r out).2/\((hwL n k r out).2.2=0->hwQ n k r out=hwL n k r out)
 | 0,_,_=>⟨rfl,fun _=>rfl⟩
 | k+1,r,out=>by
  by_cases h:r.2=0
  ·have:=hwQ_eq n k (wdH r n).2 (out ++ [(wdH r n).1])
   unfold hwL
   rw [if_neg (fun g=>g h)]
   exact this
  ·unfold hwL
   rw [if_pos h]
   exact ⟨hwQ_err n (k+1) r out h,fun g=>absurd g h⟩
theorem hwL_len (n:Int):∀ (k:Nat) (r:RdS) (out:List Wo),(hwL n k r out).2.2=0->r.2=0/\(hwL n k r out).2.1.length+k<=r.1.length/\(hwL n k r out).1.length=out.length+k
 | 0,r,out,h=>⟨h,Nat.le_refl _,rfl⟩
 | k+1,r,out,h=>by
  unfold hwL at h ⊢
  by_cases h0:r.2=0
  ·rw [if_neg (fun g=>g h0)] at h ⊢
   obtain ⟨i1,i2,i3⟩:=hwL_len n k _ _ h
   have:=((wdH_stp r n).len i1).2
   rw [List.length_append] at i3
   exact ⟨h0,by omega,by rw [i3]; show out.length+1+k=_; omega⟩
  ·rw [if_pos h0] at h
   exact absurd h h0
theorem hwL_err (n:Int) (k:Nat) {r:RdS} (out:List Wo) (h:r.2 ≠ 0):hwL n k r out=(out,r):=by
 cases k with
 | zero=>rfl
 | succ k=>unfold hwL; rw [if_pos h]
theorem hwL_stop (n:Int):∀ (m k:Nat) (r:RdS) (out:List Wo),m<=k->(hwL n m r out).2.2 ≠ 0->hwL n k r out=hwL n m r out
 | 0,k,r,out,_,h=>hwL_err n k out h
 | m+1,0,_,_,h,_=>absurd h (by omega)
 | m+1,k+1,r,out,hm,h=>by
  unfold hwL at h ⊢
  by_cases h0:r.2=0
  ·rw [if_neg (fun g=>g h0)] at h ⊢
   rw [if_neg (fun g=>g h0)]
   exact hwL_stop n m k _ _ (by omega) h
  ·rw [if_pos h0,if_pos h0]
theorem hwL_cut (n:Int) (m k:Nat) (r:RdS) (hm:m<=k) (hr:m=k\/r.1.length < m):hwL n k r []=hwL n m r []:=by
 rcases hr with rfl | hr
 ·rfl
 ·refine hwL_stop n m k r [] hm (fun h=>?_)
  have:=(hwL_len n m r [] h).2.1
  omega
end Go.Proofs.YtodmachaofepkaaGreatDoor
namespace Go.Proofs.YtodmachaofepkaaGreatDoor
open Go.GV Go.RowKit Go.Lib
structure RdA (w:World) (M B:Nat) (r:RdS):Prop where
 lt:B < M
 ex:∃ (A:Option Addr) (n c a:Nat) (b:List UInt8),RecAt w B 162 [.slice A n c,.int .i64 (a:Nat),.int .i64 r.2]/\(r.2=0->Sl w 1 A n (b.map bv)/\n<=c/\n<=1099511627776/\a<=n/\r.1=b.drop a/\(n ≠ 0->∀ k,blkOf A=some k->k ≠ B/\k < M))
theorem RdA.fr {S:Nat->Prop} {w w':World} {M B:Nat} {r:RdS} (h:RdA w M B r) (f:Fr S w w') (hS:∀ k,k < M->¬ S k):RdA w' M B r:=by
 obtain ⟨A,n,c,a,b,hr,h0⟩:=h.ex
 exact ⟨h.lt,A,n,c,a,b,hr.fr f (hS _ h.lt),fun e=>⟨f.sl (h0 e).1 (fun hn k hk=>hS _ ((h0 e).2.2.2.2.2 hn k hk).2),(h0 e).2⟩⟩
theorem va_rel {b:List UInt8} {a:Nat} (h:a<=b.length):vaT b (a:Int)=if (vaT (b.drop a) 0).2.2=0 then ((vaT (b.drop a) 0).1,(a:Int)+(vaT (b.drop a) 0).2.1,0) else (0,0,(vaT (b.drop a) 0).2.2):=by
 have e:vaT (b.drop a) 0=if (vaGo 0 (b.drop a)).2.2=0 then ((vaGo 0 (b.drop a)).1,0+((vaGo 0 (b.drop a)).2.1:Int),0) else (0,0,(vaGo 0 (b.drop a)).2.2):=by
  have:=vaT_in (b:=b.drop a) (a:=0) (Nat.zero_le _)
  rw [List.drop_zero] at this
  exact this
 rw [vaT_in h,e]
 by_cases h0:(vaGo 0 (b.drop a)).2.2=0
 ·rw [if_pos h0,if_pos h0]
  show _=if (0:Int)=0 then ((vaGo 0 (b.drop a)).1,(a:Int)+(0+((vaGo 0 (b.drop a)).2.1:Int)),0) else _
  rw [if_pos rfl,Int.zero_add]
 ·rw [if_neg h0,if_neg h0]
  show _=if (vaGo 0 (b.drop a)).2.2=0 then _ else _
  rw [if_neg h0]
structure CkA (a:Nat) (r r':RdS) (e er:Int):Prop where
 eq:er=r'.2
 ok:er=0->∃ k:Nat,e=((a+k:Nat):Int)/\r'.1=r.1.drop k/\k<=r.1.length
theorem nm_ck {b:List UInt8} {a:Nat} {r:RdS} (most:Int) (h:a<=b.length) (h0:r.2=0) (hb:r.1=b.drop a) :
  ((vaT b a).2.2 ≠ 0->(nmP r most).1=0/\CkA a r (nmP r most).2 0 (vaT b a).2.2)/\((vaT b a).2.2=0->(most < 0\/((vaT b a).1:Int) > most)->(nmP r most).1=0/\CkA a r (nmP r most).2 0 20)/\((vaT b a).2.2=0->¬ (most < 0\/((vaT b a).1:Int) > most)->(nmP r most).1=((vaT b a).1:Int)/\CkA a r (nmP r most).2 (vaT b a).2.1 0):=by
 unfold nmP
 rw [if_neg (fun g=>g h0),va_rel h,<- hb]
 by_cases h1:(vaT r.1 0).2.2=0
 ·rw [if_pos h1,if_neg (fun g=>g h1)]
  have:=va0_ok h1
  refine ⟨fun g=>absurd rfl g,fun _ g=>?_,fun _ g=>?_⟩
  ·have g:most < 0\/((vaT r.1 0).1:Int) > most:=g
   rw [if_pos g]
   exact ⟨rfl,rfl,fun g=>by cases g⟩
  ·have g:¬ (most < 0\/((vaT r.1 0).1:Int) > most):=g
   rw [if_neg g]
   exact ⟨rfl,rfl,fun _=>⟨(vaT r.1 0).2.1.toNat,by show (a:Int)+(vaT r.1 0).2.1=_; omega,rfl,by omega⟩⟩
 ·rw [if_neg h1,if_pos h1]
  exact ⟨fun _=>⟨rfl,rfl,fun g=>absurd g h1⟩,fun g=>absurd g h1,fun g=>absurd g h1⟩
theorem num1_calls (a B b1 b3 b5:Nat) (A:Option Addr) (n c:Nat) (b:List UInt8) (most:Int) (r:RdS) (w:World) (h1:cellAt w b1 0=some (.pointer (some ⟨B,0,none⟩))) (h3:cellAt w b3 0=some (.int .i64 most)) (r5:RecAt w b5 3 [.int .i64 0]) (hB:cellAt w B 0=some (.slice A n c)) (hs:Sl w 1 A n (b.map bv)) (hc:n<=c) (hn:n<=1099511627776) (ha:a<=n) (h0:r.2=0) (hb:r.1=b.drop a) (hm:most<=1099511627776) :
  Calls Tryz.prog 85 #[.int .i64 (a:Nat),.pointer (some ⟨b1,0,none⟩),.pointer (some ⟨b3,0,none⟩),.pointer (some ⟨b5,0,none⟩)] w fun e w'=>∃ x er,e=.returned (.tuple #[.int .i64 x,.int .i64 er])/\CkA a r (nmP r most).2 x er/\RecAt w' b5 3 [.int .i64 (nmP r most).1]/\Fr (fun k=>k=b5) w w':=by
 have hl:=sl_len hs
 refine (F85.of a (b1,0) (b3,0) (b5,0) w (Q:=fun v w'=>∃ x er,v=.tuple #[.int .i64 x,.int .i64 er]/\CkA a r (nmP r most).2 x er/\RecAt w' b5 3 [.int .i64 (nmP r most).1]/\Fr (fun k=>k=b5) w w') ?_).mono (fun e w' ⟨v,he,x,er,hv,h⟩=>⟨x,er,by rw [he,hv],h⟩)
 obtain ⟨k1,k2,k3⟩:=nm_ck most (by omega:a<=b.length) h0 hb
 refine ⟨_,h1,dr_mk ⟨A,n,c,hB,(va_calls A n c b a w hs hc hn).mono ?_⟩⟩
 rintro e w2 ⟨rfl,hw⟩
 obtain rfl:w=w2:=hw.symm
 refine ⟨_,_,_,rfl,vIf_mk (fun g=>?_) (fun g=>⟨_,h3,vIf_mk (fun g1=>?_) (fun g1=>⟨_,h3,vIf_mk (fun g2=>?_) (fun g2=>jnC_mk (fun _=>?_))⟩)⟩)⟩
 ·have g:(vaT b a).2.2 ≠ 0:=by simpa using g
  have:=k1 g
  exact ⟨_,_,rfl,this.2,by rw [this.1]; exact r5,Fr.refl _ _⟩
 ·have g:(vaT b a).2.2=0:=by simpa using g
  have g1:most < 0:=of_decide_eq_true g1
  have:=k2 g (.inl g1)
  exact ⟨_,_,rfl,this.2,by rw [this.1]; exact r5,Fr.refl _ _⟩
 ·have g:(vaT b a).2.2=0:=by simpa using g
  have g1:¬ most < 0:=of_decide_eq_false g1
  rw [u64_id (by omega) (by omega)] at g2
  have g2:((vaT b a).1:Int) > most:=of_decide_eq_true g2
  have:=k2 g (.inr g2)
  exact ⟨_,_,rfl,this.2,by rw [this.1]; exact r5,Fr.refl _ _⟩
 ·have g:(vaT b a).2.2=0:=by simpa using g
  have g1:¬ most < 0:=of_decide_eq_false g1
  rw [u64_id (by omega) (by omega)] at g2
  have g2:¬ ((vaT b a).1:Int) > most:=of_decide_eq_false g2
  have:=k3 g (fun h=>h.elim g1 g2)
  show st w b5 0 [Value.int .i64 (IntKind.wrap .i64 ((vaT b a).1:Int))] _
  rw [i64_id (by omega) (by omega)]
  refine r5.st_mk (o:=0) (by show 0+1<=1; omega) (fun v hv=>by simp at hv; subst hv; rfl) (fun q1 f1=>⟨_,_,rfl,this.2,?_,f1⟩)
  rw [this.1]; exact q1
theorem seq1_calls (a B b1 b5:Nat) (A:Option Addr) (n c:Nat) (b:List UInt8) (r:RdS) (w:World) (h1:cellAt w b1 0=some (.pointer (some ⟨B,0,none⟩))) (r5:RecAt w b5 24 [.int .u64 0]) (hB:cellAt w B 0=some (.slice A n c)) (hs:Sl w 1 A n (b.map bv)) (hc:n<=c) (hn:n<=1099511627776) (ha:a<=n) (h0:r.2=0) (hb:r.1=b.drop a) :
  Calls Tryz.prog 87 #[.int .i64 (a:Nat),.pointer (some ⟨b1,0,none⟩),.pointer (some ⟨b5,0,none⟩)] w fun e w'=>∃ x er,e=.returned (.tuple #[.int .i64 x,.int .i64 er])/\CkA a r (sqP r).2 x er/\RecAt w' b5 24 [.int .u64 ((sqP r).1:Nat)]/\Fr (fun k=>k=b5) w w':=by
 have hl:=sl_len hs
 refine (F87.of a (b1,0) (b5,0) w (Q:=fun v w'=>∃ x er,v=.tuple #[.int .i64 x,.int .i64 er]/\CkA a r (sqP r).2 x er/\RecAt w' b5 24 [.int .u64 ((sqP r).1:Nat)]/\Fr (fun k=>k=b5) w w') ?_).mono (fun e w' ⟨v,he,x,er,hv,h⟩=>⟨x,er,by rw [he,hv],h⟩)
 refine ⟨_,h1,dr_mk ⟨A,n,c,hB,(va_calls A n c b a w hs hc hn).mono ?_⟩⟩
 rintro e w2 ⟨rfl,rfl⟩
 refine ⟨_,_,_,rfl,r5.st_mk (o:=0) (by show 0+1<=1; omega) (fun v hv=>by simp at hv; subst hv; rfl) (fun q1 f1=>⟨_,_,rfl,?_⟩)⟩
 have key:(vaT b a).1=(sqP r).1/\CkA a r (sqP r).2 (vaT b a).2.1 (vaT b a).2.2:=by
  unfold sqP
  rw [if_neg (fun g=>g h0),va_rel (show a<=b.length by omega),<- hb]
  by_cases h1:(vaT r.1 0).2.2=0
  ·rw [if_pos h1,if_neg (fun g=>g h1)]
   have:=va0_ok h1
   exact ⟨rfl,rfl,fun _=>⟨(vaT r.1 0).2.1.toNat,by show (a:Int)+(vaT r.1 0).2.1=_; omega,rfl,by omega⟩⟩
  ·rw [if_neg h1,if_pos h1]
   exact ⟨rfl,rfl,fun g=>absurd g h1⟩
 rw [<- key.1]
 exact ⟨key.2,q1,f1⟩
theorem txP_rel {b:List UInt8} {a:Nat} (h:a<=b.length):txP b (a:Int)=(txP (b.drop a) 0).map (fun x=>(x.1,(a:Int)+x.2)):=by
 unfold txP
 have hl:(b.drop a).length=b.length - a:=List.length_drop
 by_cases h1:a < b.length
 ·have e1:okT b.length a 1:=⟨by omega,by omega,by omega,by omega⟩
  have e2:okT (b.drop a).length 0 1:=⟨by omega,by omega,by omega,by omega⟩
  have e3:tkN (b.drop a) 0 1=tkN b a 1:=by
   unfold tkN
   rw [if_pos e1,if_pos e2]
   rfl
  rw [e3]
  by_cases h2:(a:Int)+1+(tkN b a 1:Int)<=(b.length:Int)
  ·rw [if_pos ⟨e1,h2⟩,if_pos ⟨e2,by omega⟩,List.drop_drop]
   show _=some (_,_)
   rw [show (a:Int).toNat+1=a+((0:Int).toNat+1) by rw [Int.toNat_natCast]; rfl]
   congr 2
   omega
  ·rw [if_neg (fun g=>h2 g.2),if_neg (fun g=>h2 (by have:=g.2; omega))]; rfl
 ·rw [if_neg (fun g=>by have:=g.1.2.2.2; omega),if_neg (fun g=>by have:=g.1.2.2.2; omega)]; rfl
theorem txP_in {b s:List UInt8} {e:Int} (h:txP b 0=some (s,e)):1<=e/\e<=(b.length:Int)/\s.length<=255:=by
 unfold txP at h
 split at h
 ·rename_i g
  cases h
  refine ⟨by omega,g.2,?_⟩
  have:=tkOne_lt b 0
  rw [List.length_take]; omega
 ·cases h
theorem txt1_calls (a B b1 b5:Nat) (A:Option Addr) (n c:Nat) (b:List UInt8) (r:RdS) (w:World) (h1:cellAt w b1 0=some (.pointer (some ⟨B,0,none⟩))) (r5:RecAt w b5 9 [.string (⟨#[]⟩:ByteArray)]) (hB:cellAt w B 0=some (.slice A n c)) (hs:Sl w 1 A n (b.map bv)) (hc:n<=c) (hn:n<=1099511627776) (ha:a<=n) (h0:r.2=0) (hb:r.1=b.drop a) :
  Calls Tryz.prog 109 #[.int .i64 (a:Nat),.pointer (some ⟨b1,0,none⟩),.pointer (some ⟨b5,0,none⟩)] w fun e w'=>∃ x er,e=.returned (.tuple #[.int .i64 x,.int .i64 er])/\CkA a r (txtP r).2 x er/\RecAt w' b5 9 [.string ⟨(txtP r).1.toArray⟩]/\Fr (fun k=>k=b5) w w':=by
 have hl:=sl_len hs
 refine (F109.of a (b1,0) (b5,0) w (Q:=fun v w'=>∃ x er,v=.tuple #[.int .i64 x,.int .i64 er]/\CkA a r (txtP r).2 x er/\RecAt w' b5 9 [.string ⟨(txtP r).1.toArray⟩]/\Fr (fun k=>k=b5) w w') ?_).mono (fun e w' ⟨v,he,x,er,hv,h⟩=>⟨x,er,by rw [he,hv],h⟩)
 refine ⟨_,h1,dr_mk ⟨A,n,c,hB,(text_calls A n c b a w hs hc hn ⟨by omega,by omega⟩).mono ?_⟩⟩
 rintro e w2 ⟨rfl,rfl⟩
 rw [txP_rel (show a<=b.length by omega),<- hb]
 unfold txtP
 rw [if_neg (fun g=>g h0)]
 cases ht:txP r.1 0 with
 | none=>exact ⟨_,_,_,rfl,vIf_t rfl ⟨_,_,rfl,⟨rfl,fun g=>by cases g⟩,r5,Fr.refl _ _⟩⟩
 | some p =>
  obtain ⟨s,e⟩:=p
  obtain ⟨e1,e2,_⟩:=txP_in ht
  refine ⟨_,_,_,rfl,vIf_f rfl (r5.st_mk (o:=0) (by show 0+1<=1; omega) (fun v hv=>by simp at hv; subst hv; rfl) (fun q1 f1=>⟨_,_,rfl,⟨rfl,fun _=>⟨e.toNat,by show (a:Int)+e=_; omega,rfl,by omega⟩⟩,q1,f1⟩))⟩
theorem dig1_calls (a B b1 b5:Nat) (A:Option Addr) (n c:Nat) (b:List UInt8) (r:RdS) (w:World) (h1:cellAt w b1 0=some (.pointer (some ⟨B,0,none⟩))) (r5:RecAt w b5 46 (z32.map bv)) (hB:cellAt w B 0=some (.slice A n c)) (hs:Sl w 1 A n (b.map bv)) (hc:n<=c) (hn:n<=1099511627776) (ha:a<=n) (h0:r.2=0) (hb:r.1=b.drop a) :
  Calls Tryz.prog 108 #[.int .i64 (a:Nat),.pointer (some ⟨b1,0,none⟩),.pointer (some ⟨b5,0,none⟩)] w fun e w'=>∃ x er,e=.returned (.tuple #[.int .i64 x,.int .i64 er])/\CkA a r (dgP r).2 x er/\RecAt w' b5 46 ((dgP r).1.map bv)/\Fr (fun k=>k=b5) w w':=by
 have hl:=sl_len hs
 refine (F108.of a (b1,0) (b5,0) w (Q:=fun v w'=>∃ x er,v=.tuple #[.int .i64 x,.int .i64 er]/\CkA a r (dgP r).2 x er/\RecAt w' b5 46 ((dgP r).1.map bv)/\Fr (fun k=>k=b5) w w') ?_).mono (fun e w' ⟨v,he,x,er,hv,h⟩=>⟨x,er,by rw [he,hv],h⟩)
 have hrl:r.1.length=n - a:=by rw [hb,List.length_drop,hl]
 unfold dgP
 rw [if_neg (fun g=>g h0)]
 refine ⟨_,h1,dr_mk ⟨A,n,c,hB,?_⟩⟩
 dsimp only
 rw [i64_id (by omega) (by omega)]
 refine vIf_mk (fun g=>?_) (fun g=>?_)
 ·have g:(n:Int) - (a:Int) < 32:=of_decide_eq_true g
  rw [if_pos (by omega)]
  exact ⟨_,_,rfl,⟨rfl,fun g=>by cases g⟩,r5,Fr.refl _ _⟩
 ·have g:¬ (n:Int) - (a:Int) < 32:=of_decide_eq_false g
  rw [if_neg (by omega)]
  have fd:Fr (fun _=>False) w w.drew:=Fr.drew _ _
  refine ⟨_,fd.cell h1 (fun h=>h),dr_mk ⟨A,n,c,fd.cell hB (fun h=>h),gd_mk (decide_eq_true (by omega)) (gd_mk (decide_eq_true (by omega)) ?_)⟩⟩
  have hS:=sl_drop (fd.sl hs (fun _ _ _ h=>h)) ha hc
  rw [Int.toNat_natCast]
  refine cpy_rec (o:=0) (N:=32) (r5.fr fd (fun h=>h)) (by rw [List.length_map,z32_len]; omega) hS (fun w' q1 f1=>?_)
  rw [<- hb] at q1
  have hmin:min (n - a) 32=32:=by omega
  rw [hmin]
  refine ⟨_,_,rfl,⟨rfl,fun _=>⟨32,?_,rfl,by omega⟩⟩,?_,(fd.trans f1 (fun _ _ h=>h.elim) (fun _ _ h=>h))⟩
  ·show IntKind.wrap .i64 ((a:Int)+((32:Nat):Int))=((a+32:Nat):Int)
   rw [i64_id (by omega) (by omega)]; omega
  ·rw [hmin,splice_full (by rw [List.length_map,List.length_map,List.length_take,z32_len]; omega)] at q1
   exact q1
theorem num1_e {r:RdS} (most:Int) (h:r.2 ≠ 0):(nmP r most).1=0/\(nmP r most).2=r:=by
 unfold nmP
 rw [if_pos h]
 exact ⟨rfl,rfl⟩
theorem num1_part (M B:Nat) (b1 b3 b5:Nat) (most:Int) (r:RdS) (w:World) (h:RdA w M B r) (h1:cellAt w b1 0=some (.pointer (some ⟨B,0,none⟩))) (h3:cellAt w b3 0=some (.int .i64 most)) (hm:most<=1099511627776) (r5:RecAt w b5 3 [.int .i64 0]) (hb5:M<=b5) :
  Calls Tryz.prog 84 #[.pointer (some ⟨B,0,none⟩),.func (.func 85) #[] #[.pointer (some ⟨b1,0,none⟩),.pointer (some ⟨b3,0,none⟩),.pointer (some ⟨b5,0,none⟩)]] w fun e w'=>e=.returned (.tuple #[])/\RdA w' M B (nmP r most).2/\RecAt w' b5 3 [.int .i64 (nmP r most).1]/\Fr (fun k=>k=B\/k=b5) w w':=by
 refine (F84a.of (some ⟨B,0,none⟩) ((b1,0),(b3,0),(b5,0),()) w (Q:=fun v w'=>v=.tuple #[]/\RdA w' M B (nmP r most).2/\RecAt w' b5 3 [.int .i64 (nmP r most).1]/\Fr (fun k=>k=B\/k=b5) w w') ?_).mono (fun e w' ⟨v,he,hv,h⟩=>⟨by rw [he,hv],h⟩)
 obtain ⟨A,n,c,a,b,hr,hd⟩:=h.ex
 have hB:=h.lt
 refine vIf_f rfl (dr_mk ⟨r.2,hr.cell (o:=2) rfl,vIf_mk (fun g=>?_) (fun g=>jnC_mk (fun _=>dr_mk ⟨(a:Int),hr.cell (o:=1) rfl,?_⟩))⟩)
 ·have g:r.2 ≠ 0:=by simpa using g
  obtain ⟨e1,e2⟩:=num1_e (most:=most) g
  rw [e1,e2]
  exact ⟨rfl,h,r5,Fr.refl _ _⟩
 ·have h:r.2=0:=by simpa using g
  obtain ⟨hs,hc,hn,ha,hb,hM⟩:=hd h
  refine (num1_calls a B b1 b3 b5 A n c b most r w h1 h3 r5 (hr.cell (o:=0) rfl) hs hc hn ha h hb hm).mono ?_
  rintro e w2 ⟨x,er,rfl,ck,q5,f2⟩
  have hr:=hr.fr f2 (fun g=>by omega)
  have hl:=sl_len hs
  refine ⟨_,_,rfl,vIf_mk (fun g=>dr_mk ?_) (fun g=>dr_mk ?_)⟩
  ·have g:er ≠ 0:=by simpa using g
   refine hr.st_mk (o:=2) (by show 2+1<=3; omega) (fun v hv=>by simp at hv; subst hv; rfl) (fun q1 f1=>⟨rfl,⟨hB,A,n,c,a,b,?_,fun g'=>?_⟩,q5.fr f1 (fun g=>by omega),f2.trans f1 (fun _ _ h=>.inr h) (fun _ _ h=>.inl h)⟩)
   ·rw [<- ck.eq]; exact q1
   ·rw [<- ck.eq] at g'; exact absurd g' g
  ·have g:er=0:=by simpa using g
   obtain ⟨k,rfl,hk,hkl⟩:=ck.ok g
   have hrl:r.1.length=n - a:=by rw [hb,List.length_drop,hl]
   refine hr.st_mk (o:=1) (by show 1+1<=3; omega) (fun v hv=>by simp at hv; subst hv; rfl) (fun q1 f1=>⟨rfl,⟨hB,A,n,c,a+k,b,?_,fun g'=>⟨?_,hc,hn,by omega,?_,hM⟩⟩,q5.fr f1 (fun g=>by omega),f2.trans f1 (fun _ _ h=>.inr h) (fun _ _ h=>.inl h)⟩)
   ·rw [<- ck.eq,g,<- h]; exact q1
   ·exact f1.sl (f2.sl hs (fun h0 k hk e=>by have:=(hM h0 k hk).2; omega)) (fun h0 k hk e=>(hM h0 k hk).1 e)
   ·rw [hk,hb,List.drop_drop]
theorem seq1_e {r:RdS} (h:r.2 ≠ 0):(sqP r).1=0/\(sqP r).2=r:=by
 unfold sqP
 rw [if_pos h]
 exact ⟨rfl,rfl⟩
theorem seq1_part (M B:Nat) (b1 b5:Nat) (r:RdS) (w:World) (h:RdA w M B r) (h1:cellAt w b1 0=some (.pointer (some ⟨B,0,none⟩)))  (r5:RecAt w b5 24 [.int .u64 0]) (hb5:M<=b5) :
  Calls Tryz.prog 84 #[.pointer (some ⟨B,0,none⟩),.func (.func 87) #[] #[.pointer (some ⟨b1,0,none⟩),.pointer (some ⟨b5,0,none⟩)]] w fun e w'=>e=.returned (.tuple #[])/\RdA w' M B (sqP r).2/\RecAt w' b5 24 [.int .u64 ((sqP r).1:Nat)]/\Fr (fun k=>k=B\/k=b5) w w':=by
 refine (F84b.of (some ⟨B,0,none⟩) ((b1,0),(b5,0),()) w (Q:=fun v w'=>v=.tuple #[]/\RdA w' M B (sqP r).2/\RecAt w' b5 24 [.int .u64 ((sqP r).1:Nat)]/\Fr (fun k=>k=B\/k=b5) w w') ?_).mono (fun e w' ⟨v,he,hv,h⟩=>⟨by rw [he,hv],h⟩)
 obtain ⟨A,n,c,a,b,hr,hd⟩:=h.ex
 have hB:=h.lt
 refine vIf_f rfl (dr_mk ⟨r.2,hr.cell (o:=2) rfl,vIf_mk (fun g=>?_) (fun g=>jnC_mk (fun _=>dr_mk ⟨(a:Int),hr.cell (o:=1) rfl,?_⟩))⟩)
 ·have g:r.2 ≠ 0:=by simpa using g
  obtain ⟨e1,e2⟩:=seq1_e g
  rw [e1,e2]
  exact ⟨rfl,h,r5,Fr.refl _ _⟩
 ·have h:r.2=0:=by simpa using g
  obtain ⟨hs,hc,hn,ha,hb,hM⟩:=hd h
  refine (seq1_calls a B b1 b5 A n c b r w h1 r5 (hr.cell (o:=0) rfl) hs hc hn ha h hb).mono ?_
  rintro e w2 ⟨x,er,rfl,ck,q5,f2⟩
  have hr:=hr.fr f2 (fun g=>by omega)
  have hl:=sl_len hs
  refine ⟨_,_,rfl,vIf_mk (fun g=>dr_mk ?_) (fun g=>dr_mk ?_)⟩
  ·have g:er ≠ 0:=by simpa using g
   refine hr.st_mk (o:=2) (by show 2+1<=3; omega) (fun v hv=>by simp at hv; subst hv; rfl) (fun q1 f1=>⟨rfl,⟨hB,A,n,c,a,b,?_,fun g'=>?_⟩,q5.fr f1 (fun g=>by omega),f2.trans f1 (fun _ _ h=>.inr h) (fun _ _ h=>.inl h)⟩)
   ·rw [<- ck.eq]; exact q1
   ·rw [<- ck.eq] at g'; exact absurd g' g
  ·have g:er=0:=by simpa using g
   obtain ⟨k,rfl,hk,hkl⟩:=ck.ok g
   have hrl:r.1.length=n - a:=by rw [hb,List.length_drop,hl]
   refine hr.st_mk (o:=1) (by show 1+1<=3; omega) (fun v hv=>by simp at hv; subst hv; rfl) (fun q1 f1=>⟨rfl,⟨hB,A,n,c,a+k,b,?_,fun g'=>⟨?_,hc,hn,by omega,?_,hM⟩⟩,q5.fr f1 (fun g=>by omega),f2.trans f1 (fun _ _ h=>.inr h) (fun _ _ h=>.inl h)⟩)
   ·rw [<- ck.eq,g,<- h]; exact q1
   ·exact f1.sl (f2.sl hs (fun h0 k hk e=>by have:=(hM h0 k hk).2; omega)) (fun h0 k hk e=>(hM h0 k hk).1 e)
   ·rw [hk,hb,List.drop_drop]
theorem dig1_e {r:RdS} (h:r.2 ≠ 0):(dgP r).1=z32/\(dgP r).2=r:=by
 unfold dgP
 rw [if_pos h]
 exact ⟨rfl,rfl⟩
theorem dig1_part (M B:Nat) (b1 b5:Nat) (r:RdS) (w:World) (h:RdA w M B r) (h1:cellAt w b1 0=some (.pointer (some ⟨B,0,none⟩)))  (r5:RecAt w b5 46 (z32.map bv)) (hb5:M<=b5) :
  Calls Tryz.prog 84 #[.pointer (some ⟨B,0,none⟩),.func (.func 108) #[] #[.pointer (some ⟨b1,0,none⟩),.pointer (some ⟨b5,0,none⟩)]] w fun e w'=>e=.returned (.tuple #[])/\RdA w' M B (dgP r).2/\RecAt w' b5 46 ((dgP r).1.map bv)/\Fr (fun k=>k=B\/k=b5) w w':=by
 refine (F84c.of (some ⟨B,0,none⟩) ((b1,0),(b5,0),()) w (Q:=fun v w'=>v=.tuple #[]/\RdA w' M B (dgP r).2/\RecAt w' b5 46 ((dgP r).1.map bv)/\Fr (fun k=>k=B\/k=b5) w w') ?_).mono (fun e w' ⟨v,he,hv,h⟩=>⟨by rw [he,hv],h⟩)
 obtain ⟨A,n,c,a,b,hr,hd⟩:=h.ex
 have hB:=h.lt
 refine vIf_f rfl (dr_mk ⟨r.2,hr.cell (o:=2) rfl,vIf_mk (fun g=>?_) (fun g=>jnC_mk (fun _=>dr_mk ⟨(a:Int),hr.cell (o:=1) rfl,?_⟩))⟩)
 ·have g:r.2 ≠ 0:=by simpa using g
  obtain ⟨e1,e2⟩:=dig1_e g
  rw [e1,e2]
  exact ⟨rfl,h,r5,Fr.refl _ _⟩
 ·have h:r.2=0:=by simpa using g
  obtain ⟨hs,hc,hn,ha,hb,hM⟩:=hd h
  refine (dig1_calls a B b1 b5 A n c b r w h1 r5 (hr.cell (o:=0) rfl) hs hc hn ha h hb).mono ?_
  rintro e w2 ⟨x,er,rfl,ck,q5,f2⟩
  have hr:=hr.fr f2 (fun g=>by omega)
  have hl:=sl_len hs
  refine ⟨_,_,rfl,vIf_mk (fun g=>dr_mk ?_) (fun g=>dr_mk ?_)⟩
  ·have g:er ≠ 0:=by simpa using g
   refine hr.st_mk (o:=2) (by show 2+1<=3; omega) (fun v hv=>by simp at hv; subst hv; rfl) (fun q1 f1=>⟨rfl,⟨hB,A,n,c,a,b,?_,fun g'=>?_⟩,q5.fr f1 (fun g=>by omega),f2.trans f1 (fun _ _ h=>.inr h) (fun _ _ h=>.inl h)⟩)
   ·rw [<- ck.eq]; exact q1
   ·rw [<- ck.eq] at g'; exact absurd g' g
  ·have g:er=0:=by simpa using g
   obtain ⟨k,rfl,hk,hkl⟩:=ck.ok g
   have hrl:r.1.length=n - a:=by rw [hb,List.length_drop,hl]
   refine hr.st_mk (o:=1) (by show 1+1<=3; omega) (fun v hv=>by simp at hv; subst hv; rfl) (fun q1 f1=>⟨rfl,⟨hB,A,n,c,a+k,b,?_,fun g'=>⟨?_,hc,hn,by omega,?_,hM⟩⟩,q5.fr f1 (fun g=>by omega),f2.trans f1 (fun _ _ h=>.inr h) (fun _ _ h=>.inl h)⟩)
   ·rw [<- ck.eq,g,<- h]; exact q1
   ·exact f1.sl (f2.sl hs (fun h0 k hk e=>by have:=(hM h0 k hk).2; omega)) (fun h0 k hk e=>(hM h0 k hk).1 e)
   ·rw [hk,hb,List.drop_drop]
theorem txt1_e {r:RdS} (h:r.2 ≠ 0):(txtP r).1=[]/\(txtP r).2=r:=by
 unfold txtP
 rw [if_pos h]
 exact ⟨rfl,rfl⟩
theorem txt1_part (M B:Nat) (b1 b5:Nat) (r:RdS) (w:World) (h:RdA w M B r) (h1:cellAt w b1 0=some (.pointer (some ⟨B,0,none⟩)))  (r5:RecAt w b5 9 [.string (⟨#[]⟩:ByteArray)]) (hb5:M<=b5) :
  Calls Tryz.prog 84 #[.pointer (some ⟨B,0,none⟩),.func (.func 109) #[] #[.pointer (some ⟨b1,0,none⟩),.pointer (some ⟨b5,0,none⟩)]] w fun e w'=>e=.returned (.tuple #[])/\RdA w' M B (txtP r).2/\RecAt w' b5 9 [.string ⟨(txtP r).1.toArray⟩]/\Fr (fun k=>k=B\/k=b5) w w':=by
 refine (F84d.of (some ⟨B,0,none⟩) ((b1,0),(b5,0),()) w (Q:=fun v w'=>v=.tuple #[]/\RdA w' M B (txtP r).2/\RecAt w' b5 9 [.string ⟨(txtP r).1.toArray⟩]/\Fr (fun k=>k=B\/k=b5) w w') ?_).mono (fun e w' ⟨v,he,hv,h⟩=>⟨by rw [he,hv],h⟩)
 obtain ⟨A,n,c,a,b,hr,hd⟩:=h.ex
 have hB:=h.lt
 refine vIf_f rfl (dr_mk ⟨r.2,hr.cell (o:=2) rfl,vIf_mk (fun g=>?_) (fun g=>jnC_mk (fun _=>dr_mk ⟨(a:Int),hr.cell (o:=1) rfl,?_⟩))⟩)
 ·have g:r.2 ≠ 0:=by simpa using g
  obtain ⟨e1,e2⟩:=txt1_e g
  rw [e1,e2]
  exact ⟨rfl,h,r5,Fr.refl _ _⟩
 ·have h:r.2=0:=by simpa using g
  obtain ⟨hs,hc,hn,ha,hb,hM⟩:=hd h
  refine (txt1_calls a B b1 b5 A n c b r w h1 r5 (hr.cell (o:=0) rfl) hs hc hn ha h hb).mono ?_
  rintro e w2 ⟨x,er,rfl,ck,q5,f2⟩
  have hr:=hr.fr f2 (fun g=>by omega)
  have hl:=sl_len hs
  refine ⟨_,_,rfl,vIf_mk (fun g=>dr_mk ?_) (fun g=>dr_mk ?_)⟩
  ·have g:er ≠ 0:=by simpa using g
   refine hr.st_mk (o:=2) (by show 2+1<=3; omega) (fun v hv=>by simp at hv; subst hv; rfl) (fun q1 f1=>⟨rfl,⟨hB,A,n,c,a,b,?_,fun g'=>?_⟩,q5.fr f1 (fun g=>by omega),f2.trans f1 (fun _ _ h=>.inr h) (fun _ _ h=>.inl h)⟩)
   ·rw [<- ck.eq]; exact q1
   ·rw [<- ck.eq] at g'; exact absurd g' g
  ·have g:er=0:=by simpa using g
   obtain ⟨k,rfl,hk,hkl⟩:=ck.ok g
   have hrl:r.1.length=n - a:=by rw [hb,List.length_drop,hl]
   refine hr.st_mk (o:=1) (by show 1+1<=3; omega) (fun v hv=>by simp at hv; subst hv; rfl) (fun q1 f1=>⟨rfl,⟨hB,A,n,c,a+k,b,?_,fun g'=>⟨?_,hc,hn,by omega,?_,hM⟩⟩,q5.fr f1 (fun g=>by omega),f2.trans f1 (fun _ _ h=>.inr h) (fun _ _ h=>.inl h)⟩)
   ·rw [<- ck.eq,g,<- h]; exact q1
   ·exact f1.sl (f2.sl hs (fun h0 k hk e=>by have:=(hM h0 k hk).2; omega)) (fun h0 k hk e=>(hM h0 k hk).1 e)
   ·rw [hk,hb,List.drop_drop]
theorem rdNum_calls (M B:Nat) (r:RdS) (most:Int) (w:World) (h:RdA w M B r) (hM:M<=w.heap.size) (hm:most<=1099511627776) :
  Calls Tryz.prog 52 #[.pointer (some ⟨B,0,none⟩),.int .i64 most] w fun e w'=>e=.returned (.int .i64 (nmP r most).1)/\RdA w' M B (nmP r most).2/\Fr (fun k=>k=B) w w':=by
 refine (F52.of (some ⟨B,0,none⟩) most w (Q:=fun v w'=>v=.int .i64 (nmP r most).1/\RdA w' M B (nmP r most).2/\Fr (fun k=>k=B) w w') ?_).mono (fun e w' ⟨v,he,hv,h⟩=>⟨by rw [he,hv],h⟩)
 refine rec_new (fun b1 w2 f1 hb1 r1=>rec_new (fun b3 w4 f3 hb3 r3=>rec_new (fun b5 w6 f5 hb5 r5=>?_)))
 have s1:=f1.size
 have s3:=f3.size
 have l1:=r1.lt
 have l3:=r3.lt
 have r1:=(r1.fr f3 (fun h=>h)).fr f5 (fun h=>h)
 have r3:=r3.fr f5 (fun h=>h)
 have f6:=(f1.trans1 f3).trans1 f5
 refine r5.st_mk (o:=0) (by show 0+1<=1; omega) (fun v hv=>by simp at hv; subst hv; rfl) (fun q5 g5=>⟨_,(r1.fr g5 (fun h=>by omega)).cell (o:=0) rfl,?_⟩)
 have hB:=h.lt
 have h6:=(h.fr f6 (fun _ _ h=>h)).fr g5 (fun k hk e=>by omega)
 refine (num1_part M B b1 b3 b5 most r _ h6 ((r1.fr g5 (fun h=>by omega)).cell (o:=0) rfl) ((r3.fr g5 (fun h=>by omega)).cell (o:=0) rfl) hm q5 (by omega)).mono ?_
 rintro e w9 ⟨rfl,h9,q9,f9⟩
 exact ⟨rfl,_,q9.cell (o:=0) rfl,rfl,h9,(f6.trans g5 (fun _ _ h=>h.elim) (fun k hk h=>by omega)).trans f9 (fun _ _ h=>h) (fun k hk h=>h.elim id (fun h=>by omega))⟩
theorem rdSeq_calls (M B:Nat) (r:RdS) (w:World) (h:RdA w M B r) (hM:M<=w.heap.size) :
  Calls Tryz.prog 53 #[.pointer (some ⟨B,0,none⟩)] w fun e w'=>e=.returned (.int .u64 ((sqP r).1:Nat))/\RdA w' M B (sqP r).2/\Fr (fun k=>k=B) w w':=by
 refine (F53.of (some ⟨B,0,none⟩) w (Q:=fun v w'=>v=.int .u64 ((sqP r).1:Nat)/\RdA w' M B (sqP r).2/\Fr (fun k=>k=B) w w') ?_).mono (fun e w' ⟨v,he,hv,h⟩=>⟨by rw [he,hv],h⟩)
 refine rec_new (fun b1 w2 f1 hb1 r1=>rec_new (fun b5 w6 f5 hb5 r5=>?_))
 have s1:=f1.size
 have l1:=r1.lt
 have r1:=r1.fr f5 (fun h=>h)
 have f6:=f1.trans1 f5
 refine r5.st_mk (o:=0) (by show 0+1<=1; omega) (fun v hv=>by simp at hv; subst hv; rfl) (fun q5 g5=>⟨_,(r1.fr g5 (fun h=>by omega)).cell (o:=0) rfl,?_⟩)
 have hB:=h.lt
 have h6:=(h.fr f6 (fun _ _ h=>h)).fr g5 (fun k hk e=>by omega)
 refine (seq1_part M B b1 b5 r _ h6 ((r1.fr g5 (fun h=>by omega)).cell (o:=0) rfl) q5 (by omega)).mono ?_
 rintro e w9 ⟨rfl,h9,q9,f9⟩
 exact ⟨rfl,_,q9.cell (o:=0) rfl,rfl,h9,(f6.trans g5 (fun _ _ h=>h.elim) (fun k hk h=>by omega)).trans f9 (fun _ _ h=>h) (fun k hk h=>h.elim id (fun h=>by omega))⟩
theorem rdTxt_calls (M B:Nat) (r:RdS) (w:World) (h:RdA w M B r) (hM:M<=w.heap.size) :
  Calls Tryz.prog 90 #[.pointer (some ⟨B,0,none⟩)] w fun e w'=>e=.returned (.string ⟨(txtP r).1.toArray⟩)/\RdA w' M B (txtP r).2/\Fr (fun k=>k=B) w w':=by
 refine (F90.of (some ⟨B,0,none⟩) w (Q:=fun v w'=>v=.string ⟨(txtP r).1.toArray⟩/\RdA w' M B (txtP r).2/\Fr (fun k=>k=B) w w') ?_).mono (fun e w' ⟨v,he,hv,h⟩=>⟨by rw [he,hv],h⟩)
 refine rec_new (fun b1 w2 f1 hb1 r1=>rec_new (fun b5 w6 f5 hb5 r5=>?_))
 have s1:=f1.size
 have l1:=r1.lt
 have r1:=r1.fr f5 (fun h=>h)
 have f6:=f1.trans1 f5
 refine r5.st_mk (o:=0) (by show 0+1<=1; omega) (fun v hv=>by simp at hv; subst hv; rfl) (fun q5 g5=>⟨_,(r1.fr g5 (fun h=>by omega)).cell (o:=0) rfl,?_⟩)
 have hB:=h.lt
 have h6:=(h.fr f6 (fun _ _ h=>h)).fr g5 (fun k hk e=>by omega)
 refine (txt1_part M B b1 b5 r _ h6 ((r1.fr g5 (fun h=>by omega)).cell (o:=0) rfl) q5 (by omega)).mono ?_
 rintro e w9 ⟨rfl,h9,q9,f9⟩
 exact ⟨rfl,_,q9.cell (o:=0) rfl,rfl,h9,(f6.trans g5 (fun _ _ h=>h.elim) (fun k hk h=>by omega)).trans f9 (fun _ _ h=>h) (fun k hk h=>h.elim id (fun h=>by omega))⟩
theorem rdDig_calls (M B:Nat) (r:RdS) (w:World) (h:RdA w M B r) (hM:M<=w.heap.size) :
  Calls Tryz.prog 89 #[.pointer (some ⟨B,0,none⟩)] w fun e w'=>e=.returned (ofL ((dgP r).1.map bv))/\RdA w' M B (dgP r).2/\Fr (fun k=>k=B) w w':=by
 refine (F89.of (some ⟨B,0,none⟩) w (Q:=fun v w'=>v=ofL ((dgP r).1.map bv)/\RdA w' M B (dgP r).2/\Fr (fun k=>k=B) w w') ?_).mono (fun e w' ⟨v,he,hv,h⟩=>⟨by rw [he,hv],h⟩)
 refine rec_new (fun b1 w2 f1 hb1 r1=>rec_new (fun b3 w4 f3 hb3 r3=>rec_new (fun b5 w6 f5 hb5 r5=>?_)))
 have s1:=f1.size
 have s3:=f3.size
 have l1:=r1.lt
 have l3:=r3.lt
 have r1:=(r1.fr f3 (fun h=>h)).fr f5 (fun h=>h)
 have r3:=r3.fr f5 (fun h=>h)
 have f6:=(f1.trans1 f3).trans1 f5
 have hB:=h.lt
 refine ⟨_,r1.cell (o:=0) rfl,(dig1_part M B b1 b5 r w6 (h.fr f6 (fun _ _ h=>h)) (r1.cell (o:=0) rfl) r5 (by omega)).mono ?_⟩
 rintro e w9 ⟨rfl,h9,q9,f9⟩
 refine ⟨rfl,cp_mk (N:=32) (cs:=(dgP r).1.map bv) (K:=fun a' w1=>ofL a'=ofL ((dgP r).1.map bv)/\RdA w1 M B (dgP r).2/\Fr (fun k=>k=B) w w1) q9 (by rw [List.length_map,dgP_len]) (r3.fr f9 (fun h=>by omega)) rfl (bvs_one _) (fun w' g2=>⟨rfl,h9.fr g2 (fun k hk e=>by omega),?_⟩)⟩
 exact (f6.trans f9 (fun _ _ h=>h.elim) (fun k hk h=>h.elim id (fun h=>by omega))).trans g2 (fun _ _ h=>h) (fun k hk h=>by omega)
theorem rdEnd_calls (M B:Nat) (r:RdS) (w:World) (h:RdA w M B r) :
  Calls Tryz.prog 55 #[.pointer (some ⟨B,0,none⟩)] w fun e w'=>e=.returned (.int .i64 (endP r))/\Fr (fun _=>False) w w':=by
 refine (F55.of (some ⟨B,0,none⟩) w (Q:=fun v w'=>v=.int .i64 (endP r)/\Fr (fun _=>False) w w') ?_).mono (fun e w' ⟨v,he,hv,h⟩=>⟨by rw [he,hv],h⟩)
 obtain ⟨A,n,c,a,b,hr,hd⟩:=h.ex
 refine vIf_f rfl (dr_mk ⟨r.2,hr.cell (o:=2) rfl,vIf_mk (fun g=>dr_mk ⟨r.2,hr.cell (o:=2) rfl,?_,Fr.refl _ _⟩) (fun g=>dr_mk ?_)⟩)
 ·have g:r.2 ≠ 0:=by simpa using g
  unfold endP
  rw [if_neg (fun h=>g h.1)]
 ·have g:r.2=0:=by simpa using g
  obtain ⟨hs,hc,hn,ha,hb,hM⟩:=hd g
  have hl:=sl_len hs
  have fd:Fr (fun _=>False) w w.drew:=Fr.drew _ _
  have hr:=hr.fr fd (fun h=>h)
  refine ⟨(a:Int),hr.cell (o:=1) rfl,dr_mk ⟨A,n,c,hr.cell (o:=0) rfl,vIf_mk (fun g1=>⟨?_,fd⟩) (fun g1=>⟨?_,fd⟩)⟩⟩
  ·have g1:(a:Int) ≠ (n:Int):=by simpa using g1
   unfold endP
   rw [if_pos ⟨g,by rw [hb,List.length_drop]; omega⟩]
  ·have g1:(a:Int)=(n:Int):=by simpa using g1
   unfold endP
   rw [if_neg (fun h=>by have:=h.2; rw [hb,List.length_drop] at this; omega),g]
theorem ext_l (s:ByteArray) (a b:Nat):(s.extract a b).data.toList=(s.data.toList.drop a).take (b - a):=by simp
theorem pre_calls (l p:List UInt8) (w:World):Calls Tryz.prog 103 #[.string ⟨l.toArray⟩,.string ⟨p.toArray⟩] w fun e w'=>e=.returned (.bool (decide (l.take p.length=p)))/\w=w':=by
 refine (F103.of ⟨l.toArray⟩ ⟨p.toArray⟩ w (Q:=fun v w'=>v=.bool (decide (l.take p.length=p))/\w=w') ?_).mono (fun e w' ⟨v,he,hv,h⟩=>⟨by rw [he,hv],h⟩)
 have hs:(⟨l.toArray⟩:ByteArray).size=l.length:=List.size_toArray
 have hp:(⟨p.toArray⟩:ByteArray).size=p.length:=List.size_toArray
 refine vIf_mk (fun h=>?_) (fun h=>?_)
 ·have h:((⟨l.toArray⟩:ByteArray).size:Int) >= ((⟨p.toArray⟩:ByteArray).size:Int):=of_decide_eq_true h
  refine gd_mk (decide_eq_true (Int.natCast_nonneg _)) (gd_mk (decide_eq_true (by omega)) ⟨?_,rfl⟩)
  rw [Int.toNat_natCast,ByteArray.toList_eq,ByteArray.toList_eq,ext_l,List.drop_zero,Nat.sub_zero,hp]
  congr 1
  by_cases hh:l.take p.length=p
  ·rw [decide_eq_true hh]; simpa using hh
  ·rw [decide_eq_false hh]; simpa using hh
 ·have h:¬ ((⟨l.toArray⟩:ByteArray).size:Int) >= ((⟨p.toArray⟩:ByteArray).size:Int):=of_decide_eq_false h
  refine ⟨?_,rfl⟩
  rw [decide_eq_false (fun g=>by have:=congrArg List.length g; rw [List.length_take] at this; omega)]
theorem prefix_calls (l p:List UInt8) (w:World):Calls Tryz.prog 76 #[.string ⟨l.toArray⟩,.string ⟨p.toArray⟩] w fun e w'=>e=.returned (.bool (decide (l.take p.length=p)))/\w=w':=by
 refine (F76.of ⟨l.toArray⟩ ⟨p.toArray⟩ w (Q:=fun v w'=>v=.bool (decide (l.take p.length=p))/\w=w') ?_).mono (fun e w' ⟨v,he,hv,h⟩=>⟨by rw [he,hv],h⟩)
 refine (pre_calls l p w).mono ?_
 rintro e w2 ⟨rfl,rfl⟩
 exact ⟨_,rfl,rfl,rfl⟩
set_option maxHeartbeats 1000000 in
theorem newR_calls (m:List UInt8) (A:Option Addr) (n c:Nat) (b:List UInt8) (w:World) (h:Sl w 1 A n (b.map bv)) (hc:n<=c) (hn:n<=137438953000) (hm:m.length<=1000) :
  Calls Tryz.prog 51 #[.string ⟨m.toArray⟩,.slice A n c] w fun e w'=>∃ B,e=.returned (.pointer (some ⟨B,0,none⟩))/\RdA w' w'.heap.size B (rdP m b)/\Fr (fun _=>False) w w'/\w.heap.size<=B:=by
 refine (F51.of ⟨m.toArray⟩ A n c w (Q:=fun v w'=>∃ B,v=.pointer (some ⟨B,0,none⟩)/\RdA w' w'.heap.size B (rdP m b)/\Fr (fun _=>False) w w'/\w.heap.size<=B) ?_).mono (fun e w' ⟨v,he,B,hv,h⟩=>⟨B,by rw [he,hv],h⟩)
 have hl:=sl_len h
 have hms:(⟨m.toArray⟩:ByteArray).size=m.length:=List.size_toArray
 unfold F51.vc
 rw [i64_id (show -9223372036854775808<=(n:Int) - 4 by omega) (by omega),hms]
 refine vIf_mk (fun g=>rec_new (fun b1 w2 f1 hb1 r1=>⟨b1,rfl,⟨r1.lt,none,0,0,0,[],?_,fun g'=>?_⟩,f1,hb1⟩)) (fun g=>?_)
 ·have g:(n:Int) - 4 < (m.length:Int):=of_decide_eq_true g
  unfold rdP
  rw [if_pos (by omega)]
  exact r1
 ·have g:(n:Int) - 4 < (m.length:Int):=of_decide_eq_true g
  unfold rdP at g'
  rw [if_pos (by omega)] at g'
  cases g'
 have g:¬ (n:Int) - 4 < (m.length:Int):=of_decide_eq_false g
 have hn4:((n:Int) - 4).toNat=n - 4:=by omega
 rw [hn4]
 have hz:Sl w 1 (slA A c 0 1) (n - 4) ((b.take (n - 4)).map bv):=sl_take (sl_zero h hc) (by omega)
 refine gd_mk (decide_eq_true (by omega)) (gd_mk (decide_eq_true (by omega)) ((clone_by _ (n - 4) c (b.take (n - 4)) w hz (by omega)).mono ?_))
 rintro e w3 ⟨f3,A5,c5,rfl,hr5⟩
 refine ⟨A5,n - 4,c5,rfl,rec_new (fun b8 w4 f4 hb8 r8=>?_)⟩
 have hs5:Sl w3 1 A5 (n - 4) ((b.take (n - 4)).map bv):=hr5.sl
 have hb5:n - 4 ≠ 0->∀ k,blkOf A5=some k->k < w3.heap.size:=fun _ k hk=>(hr5.blt hk).2
 have hle5:=hr5.le
 have f14:=f3.trans1 f4
 refine (take_calls A n c b ((n:Int) - 4) 4 w4 (f14.sl h (fun _ _ _ h=>h)) (by omega)).mono ?_
 rintro e w5 ⟨rfl,hw⟩
 obtain rfl:w4=w5:=hw.symm
 have hs6:=f4.sl hs5 (fun _ _ _ h=>h)
 refine ⟨_,_,rfl,A5,n - 4,c5,r8.cell (o:=0) rfl,(crc_calls A5 (n - 4) c5 (b.take (n - 4)) w4 hs6 (by omega)).mono ?_⟩
 rintro e w6 ⟨rfl,f6⟩
 have r8:=r8.fr f6 (fun h=>h)
 have hs7:=f6.sl hs6 (fun _ _ _ h=>h)
 have hw4:=f4.size
 have l8:=r8.lt
 have htk:tkN b ((n:Int) - 4) 4=leT (b.drop (b.length - 4)):=by
  unfold tkN
  rw [if_pos ⟨by omega,by omega,by omega,by omega⟩,hn4,hl]
  show leT ((b.drop (n - 4)).take 4)=_
  rw [List.take_of_length_le (by rw [List.length_drop]; omega)]
 have htl:leT (b.drop (b.length - 4)) < 4294967296:=by
  have:=le4_lt (b.drop (b.length - 4))
  rw [List.take_of_length_le (by rw [List.length_drop]; omega)] at this
  exact this
 have hlen:¬ b.length < m.length+4:=by omega
 refine ⟨_,rfl,?_⟩
 rw [htk,u32_id (by omega) (by omega)]
 have fin:∀ (u:World) (e:Int),RecAt u b8 162 [.slice A5 (n - 4) c5,.int .i64 (m.length:Int),.int .i64 e]->Fr (fun k=>k=b8) w6 u->(rdP m b).2=e->(e=0->(rdP m b).1=(b.take (n - 4)).drop m.length)->∃ B,Value.pointer (some ⟨b8,0,none⟩)=.pointer (some ⟨B,0,none⟩)/\RdA u u.heap.size B (rdP m b)/\Fr (fun _=>False) w u/\w.heap.size<=B:=by
  intro u e q8 gu h2 h1
  have su:=gu.size
  have s6:=f6.size
  have s3:=f3.size
  refine ⟨b8,rfl,⟨q8.lt,A5,n - 4,c5,m.length,b.take (n - 4),?_,fun g'=>?_⟩,fr_var (f14.trans1 f6) (by omega) gu,by omega⟩
  ·rw [h2]; exact q8
  ·rw [h2] at g'
   exact ⟨gu.sl hs7 (fun h0 k hk e=>by have:=hb5 h0 k hk; omega),hle5,by omega,by omega,h1 g',fun h0 k hk=>⟨by have:=hb5 h0 k hk; omega,by have:=hb5 h0 k hk; omega⟩⟩
 refine vIf_mk (fun g1=>?_) (fun g1=>⟨A5,n - 4,c5,r8.cell (o:=0) rfl,b2s_sl hs7 ((prefix_calls (b.take (n - 4)) m w6).mono ?_)⟩)
 ·have g1:(leT (b.drop (b.length - 4)):Int) ≠ ((crcS (b.take (n - 4))).toNat:Int):=by simpa using g1
  refine r8.st_mk (o:=2) (by show 2+1<=3; omega) (fun v hv=>by simp at hv; subst hv; rfl) (fun q1 e1=>fin _ 5 ?_ e1 ?_ (fun h=>by cases h))
  ·exact q1
  ·unfold rdP
   rw [if_neg hlen,if_pos (fun h=>g1 (by rw [hl] at h ⊢; omega))]
 ·have g1:(leT (b.drop (b.length - 4)):Int)=((crcS (b.take (n - 4))).toNat:Int):=by simpa using g1
  have g1':¬ leT (b.drop (b.length - 4)) ≠ (crcS (b.take (b.length - 4))).toNat:=fun h=>h (by rw [hl] at g1 ⊢; omega)
  have htt:(b.take (n - 4)).take m.length=b.take m.length:=by rw [List.take_take,Nat.min_eq_left (by omega)]
  rintro e w7 ⟨rfl,rfl⟩
  refine ⟨_,rfl,vIf_mk (fun g2=>?_) (fun g2=>?_)⟩
  ·have g2:¬ b.take m.length=m:=fun h=>by rw [htt,decide_eq_true h] at g2; cases g2
   refine r8.st_mk (o:=2) (by show 2+1<=3; omega) (fun v hv=>by simp at hv; subst hv; rfl) (fun q1 e1=>fin _ 3 ?_ e1 ?_ (fun h=>by cases h))
   ·exact q1
   ·unfold rdP
    rw [if_neg hlen,if_neg g1',if_pos g2]
  ·have g2:b.take m.length=m:=by
    rw [htt] at g2
    exact of_decide_eq_true (by simpa using g2)
   have hrd:rdP m b=((b.take (b.length - 4)).drop m.length,0):=by
    unfold rdP
    rw [if_neg hlen,if_neg g1',if_neg (fun h=>h g2)]
   refine fin w6 0 r8 (Fr.refl _ _) (by rw [hrd]) (fun _=>by rw [hrd,hl])
def ptC (k:Int):List Value:=[.bool (decide (ofD k)),.bool (decide (ofN k)),.bool (decide (ofZ k))]
theorem ptC_one (k:Int):∀ v ∈ ptC k,v.oneCell'=true:=by
 intro v hv
 simp only [ptC,List.mem_cons,List.not_mem_nil,or_false] at hv
 rcases hv with rfl | rfl | rfl <;> rfl
abbrev okK (k:Int):Prop:=ofD k\/ofN k
set_option maxHeartbeats 1000000 in
theorem of_calls (k:Int) (w:World):Calls Tryz.prog 88 #[.int .i64 k] w fun e w'=>e=.returned (.tuple #[ofL (ptC k),.bool (decide (okK k))])/\Fr (fun _=>False) w w':=by
 refine (F88.of k w (Q:=fun v w'=>v=.tuple #[ofL (ptC k),.bool (decide (okK k))]/\Fr (fun _=>False) w w') ?_).mono (fun e w' ⟨v,he,hv,h⟩=>⟨by rw [he,hv],h⟩)
 refine rec_new (fun b1 w2 f1 hb1 r1=>rec_new (fun b3 w4 f3 hb3 r3=>?_))
 have l1:=r1.lt
 have r1:=r1.fr f3 (fun h=>h)
 have f14:=f1.trans1 f3
 have hb3':w.heap.size<=b3:=by have:=f1.size; omega
 have n31:b3 ≠ b1:=by omega
 have fin:∀ (u:World) (cs:List Value) (t:Bool),RecAt u b3 169 cs->cs=ptC k->t=decide (okK k)->Fr (fun j=>j=b3) w4 u->ldA 3 u b3 0 fun a=>gd (a.length == 3) (st u b1 0 a fun w1=>ldA 3 w1 b1 0 fun a'=>Value.tuple #[ofL a',Value.bool t]=.tuple #[ofL (ptC k),.bool (decide (okK k))]/\Fr (fun _=>False) w w1):=by
  rintro u cs t q3 rfl rfl g
  exact cp_mk (N:=3) (K:=fun a' w1=>Value.tuple #[ofL a',Value.bool (decide (okK k))]=.tuple #[ofL (ptC k),.bool (decide (okK k))]/\Fr (fun _=>False) w w1) q3 rfl (r1.fr g (fun h=>n31 h.symm)) rfl (ptC_one k) (fun w' g2=>⟨rfl,fr_var (fr_var f14 hb3' g) hb1 g2⟩)
 have k9:∀ (u:World) (z:Bool),RecAt u b3 169 [.bool false,.bool false,.bool z]->ofD k->¬ ofN k->z=decide (ofZ k)->Fr (fun j=>j=b3) w4 u->jnC (F88.k9 (fun v w'=>v=.tuple #[ofL (ptC k),.bool (decide (okK k))]/\Fr (fun _=>False) w w')) ((b1,0),(b3,0),()) u:=by
  rintro u z q3 hD hN rfl g
  refine jnC_mk (fun _=>q3.st_mk (o:=0) (by show 0+1<=3; omega) (fun v hv=>by simp at hv; subst hv; rfl) (fun q1 g1=>fin _ _ true q1 ?_ (decide_eq_true (.inl hD)).symm (g.trans1 g1)))
  unfold ptC
  rw [decide_eq_true hD,decide_eq_false hN]; rfl
 have k12:∀ (u:World) (d:Bool),RecAt u b3 169 [.bool d,.bool false,.bool false]->ofN k->d=decide (ofD k)->Fr (fun j=>j=b3) w4 u->jnC (F88.k12 (fun v w'=>v=.tuple #[ofL (ptC k),.bool (decide (okK k))]/\Fr (fun _=>False) w w')) ((b1,0),(b3,0),()) u:=by
  rintro u d q3 hN rfl g
  refine jnC_mk (fun _=>q3.st_mk (o:=1) (by show 1+1<=3; omega) (fun v hv=>by simp at hv; subst hv; rfl) (fun q1 g1=>fin _ _ true q1 ?_ (decide_eq_true (.inr hN)).symm (g.trans1 g1)))
  unfold ptC
  rw [decide_eq_true hN,decide_eq_false (show ¬ ofZ k by omega)]; rfl
 have k5:¬ ofZ k->jnC (F88.k5 (fun v w'=>v=.tuple #[ofL (ptC k),.bool (decide (okK k))]/\Fr (fun _=>False) w w')) ((b1,0),(b3,0),k,()) w4:=by
  intro hZ
  refine jnC_mk (fun _=>vIf_mk (fun h5=>?_) (fun h5=>vIf_mk (fun h3=>?_) (fun h3=>vIf_mk (fun h4=>?_) (fun h4=>jnC_mk (fun _=>?_)))))
  ·have h5:k=5:=by simpa using h5
   exact k9 w4 false r3 (by omega) (by omega) (decide_eq_false hZ).symm (Fr.refl _ _)
  ·have h3:k=3:=by simpa using h3
   exact r3.st_mk (o:=0) (by show 0+1<=3; omega) (fun v hv=>by simp at hv; subst hv; rfl) (fun q1 g1=>k12 _ true q1 (by omega) (decide_eq_true (by omega)).symm g1)
  ·have h4:k=4:=by simpa using h4
   exact k12 w4 false r3 (by omega) (decide_eq_false (by omega)).symm (Fr.refl _ _)
  ·have h5:¬ k=5:=by simpa using h5
   have h3:¬ k=3:=by simpa using h3
   have h4:¬ k=4:=by simpa using h4
   refine fin w4 _ false r3 ?_ (decide_eq_false (by omega)).symm (Fr.refl _ _)
   unfold ptC
   rw [decide_eq_false (show ¬ ofD k by omega),decide_eq_false (show ¬ ofN k by omega),decide_eq_false hZ]
 have k9z:ofZ k->st w4 b3 (0+2) [Value.bool true] fun w5=>jnC (F88.k9 (fun v w'=>v=.tuple #[ofL (ptC k),.bool (decide (okK k))]/\Fr (fun _=>False) w w')) ((b1,0),(b3,0),()) w5:=by
  intro hZ
  exact r3.st_mk (o:=2) (by show 2+1<=3; omega) (fun v hv=>by simp at hv; subst hv; rfl) (fun q1 g1=>k9 _ true q1 (by omega) (by omega) (decide_eq_true hZ).symm g1)
 refine vIf_mk (fun h1=>vIf_mk (fun h1'=>k9z ?_) (fun h1'=>by rw [h1] at h1'; cases h1')) (fun h1=>vIf_mk (fun h2=>k9z ?_) (fun h2=>k5 ?_))
 ·have h1:k=1:=by simpa using h1
  exact .inl h1
 ·have h2:k=2:=by simpa using h2
  exact .inr h2
 ·have h1:¬ k=1:=by simpa using h1
  have h2:¬ k=2:=by simpa using h2
  exact fun h=>h.elim h1 h2
theorem hfile_calls (k:Int) (w:World):Calls Tryz.prog 111 #[.int .i64 k] w fun e w'=>e=.returned (.bool (decide (0<=k/\k<=1048576)))/\w=w':=by
 refine (F111.of k w (Q:=fun v w'=>v=.bool (decide (0<=k/\k<=1048576))/\w=w') ?_).mono (fun e w' ⟨v,he,hv,h⟩=>⟨by rw [he,hv],h⟩)
 refine vIf_mk (fun h=>⟨?_,rfl⟩) (fun h=>⟨?_,rfl⟩)
 ·have h:k >= 0:=of_decide_eq_true h
  congr 1
  by_cases h5:k<=1048576
  ·rw [decide_eq_true h5,decide_eq_true (show 0<=k/\k<=1048576 from ⟨h,h5⟩)]
  ·rw [decide_eq_false h5,decide_eq_false (fun g=>h5 g.2)]
 ·have h:¬ k >= 0:=of_decide_eq_false h
  rw [decide_eq_false (fun g=>h g.1)]
theorem wo_k (x:Wo):(woC x)[0]?=some (.int .i64 x.k):=rfl
theorem wo_nm {x:Wo} (h:x.d.length=32):(woC x)[34]?=some (.string ⟨x.nm.toArray⟩):=woC_end h 0
theorem wo_z {x:Wo} (h:x.d.length=32):(woC x)[35]?=some (.int .i64 x.z):=woC_end h 1
theorem wo_s {x:Wo} (h:x.d.length=32):(woC x)[36]?=some (.int .i64 x.s):=woC_end h 2
theorem wo_o {x:Wo} (h:x.d.length=32):(woC x)[37]?=some (.int .i64 x.o):=woC_end h 3
theorem wo_q {x:Wo} (h:x.d.length=32):(woC x)[38]?=some (.int .i64 x.q):=woC_end h 4
theorem wo_d {x:Wo} (h:x.d.length=32) (j:Nat) (v:Value) (hv:(x.d.map bv)[j]?=some v):(woC x)[2+j]?=some v:=by
 have hj:=(List.getElem?_eq_some_iff.1 hv).1
 unfold woC
 rw [List.getElem?_append_right (by simp),List.getElem?_append_left (by simpa using hj)]
 rw [<- hv]; congr 1; simp
theorem nm_nil (l:List UInt8):((⟨l.toArray⟩:ByteArray).toList == (⟨#[]⟩:ByteArray).toList)=decide (l=[]):=by
 rw [nil_iff]
 have:(⟨l.toArray⟩:ByteArray).size=l.length:=List.size_toArray
 rw [this]
 by_cases h:l=[]
 ·rw [decide_eq_true h,decide_eq_true (List.length_eq_zero_iff.2 h)]
 ·rw [decide_eq_false h,decide_eq_false (fun g=>h (List.length_eq_zero_iff.1 g))]
abbrev Rg1 (x:Wo) (n:Int):Prop:=okK x.k/\x.s=n/\(0<=x.o/\x.o<=1048576)/\(0<=x.q/\x.q<=1048576)/\(0<=x.z/\x.z<=1048576)
abbrev Rg2 (x:Wo):Prop:=(¬ ofZ x.k->x.z=0)/\(¬ ofD x.k->x.d=z32)
abbrev Rg3 (x:Wo):Prop:=(ofN x.k->TagP ⟨x.nm.toArray⟩)/\(¬ ofN x.k->x.nm=[])
theorem rgW_iff (x:Wo) (n:Int):RgW x n ↔ Rg1 x n/\Rg2 x/\Rg3 x :=
 ⟨fun h=>⟨⟨h.k,h.s,h.o,h.q,h.z⟩,⟨h.z0,h.d0⟩,⟨h.nm,h.n0⟩⟩,fun ⟨h,g,k⟩=>⟨h.1,h.2.1,h.2.2.1,h.2.2.2.1,h.2.2.2.2,g.1,g.2,k.1,k.2⟩⟩
set_option maxHeartbeats 2000000 in
theorem hright_calls (x:Wo) (n:Int) (w:World) (hd:x.d.length=32) (hm:x.nm.length<=1099511627775) :
  Calls Tryz.prog 91 #[ofL (woC x),.int .i64 n] w fun e w'=>(∃ t,e=.returned (.bool t)/\(t=true ↔ RgW x n))/\Fr (fun _=>False) w w':=by
 refine (F91.of _ n w (Q:=fun v w'=>(∃ t,v=.bool t/\(t=true ↔ RgW x n))/\Fr (fun _=>False) w w') ?_).mono (fun e w' ⟨v,he,⟨t,hv,h⟩,h'⟩=>⟨⟨t,by rw [he,hv],h⟩,h'⟩)
 refine rec_new (fun b1 w2 f1 hb1 r1=>⟨_,r1.cell (o:=0) (wo_k x),(of_calls x.k w2).mono ?_⟩)
 rintro e w4 ⟨rfl,f4⟩
 refine ⟨_,_,rfl,var_new (sz:=3) rfl rfl (ptC_one x.k) (fun b8 w5 f5 hb8 r8=>?_)⟩
 have r1:=(r1.fr f4 (fun h=>h)).fr f5 (fun h=>h)
 have f15:=(f1.trans1 f4).trans1 f5
 have no:∀ (u:World),Fr (fun _=>False) w u->¬ RgW x n->(∃ t,Value.bool false=.bool t/\(t=true ↔ RgW x n))/\Fr (fun _=>False) w u:=fun u f h=>⟨⟨false,rfl,(fun g=>by cases g),fun g=>absurd g h⟩,f⟩
 have k5:∀ t:Bool,Rg1 x n->(t=true ↔ ¬ Rg2 x)->jnC (F91.k5 (fun v w'=>(∃ t,v=.bool t/\(t=true ↔ RgW x n))/\Fr (fun _=>False) w w')) ((b1,0),(b8,0),t,()) w5:=by
  intro t h1 ht
  refine jnC_mk (fun _=>vIf_mk (fun h=>no w5 f15 (fun g=>ht.1 h ((rgW_iff x n).1 g).2.1)) (fun h=>?_))
  have h2:Rg2 x:=Decidable.byContradiction (fun g=>by rw [ht.2 g] at h; cases h)
  refine ⟨_,r8.cell (o:=1) (v:=.bool (decide (ofN x.k))) rfl,vIf_mk (fun hN=>?_) (fun hN=>jnC_mk (fun _=>?_))⟩
  ·have hN:=of_decide_eq_true hN
   refine ⟨_,r1.cell (o:=34) (wo_nm hd),(tag_calls _ w5 (by show x.nm.toArray.size<=_; rw [List.size_toArray]; omega)).mono ?_⟩
   rintro e u ⟨⟨t,rfl,ht⟩,rfl⟩
   refine ⟨t,rfl,⟨t,rfl,?_⟩,f15⟩
   rw [ht,rgW_iff]
   exact ⟨fun g=>⟨h1,h2,fun _=>g,fun g'=>absurd hN g'⟩,fun g=>g.2.2.1 hN⟩
  ·have hN:=of_decide_eq_false hN
   refine ⟨_,r1.cell (o:=34) (wo_nm hd),⟨_,rfl,?_⟩,f15⟩
   rw [nm_nil,decide_eq_true_iff,rgW_iff]
   exact ⟨fun g=>⟨h1,h2,fun g'=>absurd g' hN,fun _=>g⟩,fun g=>g.2.2.2 hN⟩
 have cD:cellsAt w5 b1 2 (x.d.map bv):=r1.cells (o:=2) (fun j v hj=>wo_d hd j v hj)
 have k3:∀ t:Bool,(t=true ↔ ¬ Rg1 x n)->jnC (F91.k3 (fun v w'=>(∃ t,v=.bool t/\(t=true ↔ RgW x n))/\Fr (fun _=>False) w w')) ((b1,0),(b8,0),t,()) w5:=by
  intro t ht
  refine jnC_mk (fun _=>vIf_mk (fun h=>no w5 f15 (fun g=>ht.1 h ((rgW_iff x n).1 g).1)) (fun h=>?_))
  have h1:Rg1 x n:=Decidable.byContradiction (fun g=>by rw [ht.2 g] at h; cases h)
  refine ⟨_,r8.cell (o:=2) (v:=.bool (decide (ofZ x.k))) rfl,vIf_mk (fun hZ=>?_) (fun hZ=>?_)⟩
  ·have hZ:¬ ofZ x.k:=fun g=>by rw [decide_eq_true g] at hZ; cases hZ
   refine ⟨_,r1.cell (o:=35) (wo_z hd),vIf_mk (fun hz=>k5 true h1 ⟨fun _ g=>?_,fun _=>rfl⟩) (fun hz=>⟨_,r8.cell (o:=0) (v:=.bool (decide (ofD x.k))) rfl,vIf_mk (fun hD=>?_) (fun hD=>k5 false h1 ⟨(fun g=>by cases g),fun g=>absurd ?_ g⟩)⟩)⟩
   ·have hz:x.z ≠ 0:=by simpa using hz
    exact hz (g.1 hZ)
   ·have hz:x.z=0:=by simpa using hz
    have hD:¬ ofD x.k:=fun g=>by rw [decide_eq_true g] at hD; cases hD
    refine ⟨x.d.map bv,by rw [List.length_map,hd],cD,x.d,z32,hd,z32_len,rfl,rfl,k5 _ h1 ?_⟩
    by_cases hh:x.d=z32
    ·rw [hh]
     exact ⟨fun g=>by simp at g,fun g=>absurd ⟨fun _=>hz,fun _=>hh⟩ g⟩
    ·refine ⟨fun _ g=>hh (g.2 hD),fun _=>?_⟩
     rw [show (x.d == z32)=false from beq_eq_false_iff_ne.2 hh]; rfl
   ·have hz:x.z=0:=by simpa using hz
    have hD:ofD x.k:=by
     by_cases g:ofD x.k
     ·exact g
     ·rw [decide_eq_false g] at hD; cases hD
    exact ⟨fun _=>hz,fun g=>absurd hD g⟩
  ·have hZ:ofZ x.k:=by
    by_cases g:ofZ x.k
    ·exact g
    ·rw [decide_eq_false g] at hZ; cases hZ
   refine ⟨_,r8.cell (o:=0) (v:=.bool (decide (ofD x.k))) rfl,vIf_mk (fun hD=>?_) (fun hD=>k5 false h1 ⟨(fun g=>by cases g),fun g=>absurd ⟨fun g=>absurd hZ g,fun g=>absurd ?_ g⟩ g⟩)⟩
   ·have hD:¬ ofD x.k:=fun g=>by rw [decide_eq_true g] at hD; cases hD
    omega
   ·omega
 refine vIf_mk (fun h=>k3 true ⟨fun _ g=>?_,fun _=>rfl⟩) (fun h=>⟨_,r1.cell (o:=36) (wo_s hd),vIf_mk (fun h1=>k3 true ⟨fun _ g=>?_,fun _=>rfl⟩) (fun h1=>⟨_,r1.cell (o:=37) (wo_o hd),(hfile_calls x.o w5).mono ?_⟩)⟩)
 ·rw [decide_eq_true g.1] at h; cases h
 ·have h1:x.s ≠ n:=by simpa using h1
  exact h1 g.2.1
 have hk:okK x.k:=by
  by_cases g:okK x.k
  ·exact g
  ·rw [decide_eq_false g] at h; cases h
 have h1:x.s=n:=by simpa using h1
 rintro e u ⟨rfl,rfl⟩
 refine ⟨_,rfl,vIf_mk (fun h2=>k3 true ⟨fun _ g=>?_,fun _=>rfl⟩) (fun h2=>⟨_,r1.cell (o:=38) (wo_q hd),(hfile_calls x.q w5).mono ?_⟩)⟩
 ·rw [decide_eq_true g.2.2.1] at h2; cases h2
 have h2:0<=x.o/\x.o<=1048576:=by
  by_cases g:0<=x.o/\x.o<=1048576
  ·exact g
  ·rw [decide_eq_false g] at h2; cases h2
 rintro e u ⟨rfl,rfl⟩
 refine ⟨_,rfl,vIf_mk (fun h3=>k3 true ⟨fun _ g=>?_,fun _=>rfl⟩) (fun h3=>⟨_,r1.cell (o:=35) (wo_z hd),(hfile_calls x.z w5).mono ?_⟩)⟩
 ·rw [decide_eq_true g.2.2.2.1] at h3; cases h3
 have h3:0<=x.q/\x.q<=1048576:=by
  by_cases g:0<=x.q/\x.q<=1048576
  ·exact g
  ·rw [decide_eq_false g] at h3; cases h3
 rintro e u ⟨rfl,rfl⟩
 refine ⟨_,rfl,k3 _ ?_⟩
 by_cases g:0<=x.z/\x.z<=1048576
 ·rw [decide_eq_true g]
  exact ⟨(fun h=>by cases h),fun h=>absurd ⟨hk,h1,h2,h3,g⟩ h⟩
 ·rw [decide_eq_false g]
  exact ⟨fun _ h=>g h.2.2.2.2,fun _=>rfl⟩
abbrev SmW (l:List Wo):Prop:=∀ x ∈ l,x.nm.length<=255
set_option maxHeartbeats 1000000 in
theorem rights_calls (A:Option Addr) (m c:Nat) (l:List Wo) (n:Int) (w:World) (h:SW w A m l) (hs:SmW l) (hm:m<=1099511627776) :
  Calls Tryz.prog 56 #[.slice A m c,.int .i64 n] w fun e w'=>(∃ t,e=.returned (.bool t)/\(t=true ↔ ∀ x ∈ l,RgW x n))/\Fr (fun _=>False) w w':=by
 refine (F56.of A m c n w (Q:=fun v w'=>(∃ t,v=.bool t/\(t=true ↔ ∀ x ∈ l,RgW x n))/\Fr (fun _=>False) w w') ?_).mono (fun e w' ⟨v,he,⟨t,hv,h⟩,h'⟩=>⟨⟨t,by rw [he,hv],h⟩,h'⟩)
 refine jnC_mk (loop_rule (fun s u=>∃ i:Nat,s=(n,(A,m,c),(m:Int),(i:Int),())/\i<=m/\Fr (fun _=>False) w u/\∀ j (y:Wo),j < i->l[j]?=some y->RgW y n) (fun s _=>(m - s.2.2.2.1).toNat) ?_ _ _ ⟨0,rfl,Nat.zero_le _,Fr.refl _ _,fun j _ hj=>absurd hj (Nat.not_lt_zero _)⟩)
 rintro s u C ⟨i,rfl,hi,hf,hr⟩ hC _
 have hl:=h.len
 refine vIf_mk (fun hlt=>?_) (fun hge=>⟨⟨true,rfl,fun _ x hx=>?_,fun _=>rfl⟩,hf⟩)
 ·have hlt':(i:Int) < (m:Int):=of_decide_eq_true hlt
  have hil:i < l.length:=by omega
  have hx:=List.getElem?_eq_getElem hil
  obtain ⟨b1,o1,hA1,hc1⟩:=(h.fr hf).get hx
  have hd:=h.d _ (List.getElem_mem hil)
  have hsm:=hs _ (List.getElem_mem hil)
  generalize hX:l[i]=x at hx hc1 hd hsm
  subst hA1
  have g1:decide (0<=(i:Int))=true:=decide_eq_true (by omega)
  have g2:decide ((i:Int) < (m:Int))=true:=decide_eq_true hlt'
  refine dr_mk (gd_mk g1 (gd_mk g2 ⟨woC x,woC_len hd,?_,var_new (sz:=39) rfl (woC_len hd) (woC_one x) (fun b4 w4 f4 hb4 r4=>⟨woC x,woC_len hd,rec_all r4,(hright_calls x n w4 hd (by omega)).mono ?_⟩)⟩))
  ·exact hc1
  ·rintro e w5 ⟨⟨t,rfl,ht⟩,f5⟩
   have hf5:=(hf.trans1 f4).trans1 f5
   refine ⟨t,rfl,vIf_mk (fun g=>⟨⟨false,rfl,(fun g=>by cases g),fun g'=>?_⟩,hf5⟩) (fun g=>jnC_mk (hC _ _ ⟨i+1,?_,by omega,hf5,fun j y hj hy=>?_⟩ ?_))⟩
   ·rw [ht.2 (g' x (by rw [<- hX]; exact List.getElem_mem hil))] at g; cases g
   ·show (_,_,_,IntKind.wrap .i64 ((i:Int)+1),())=_
    rw [i64_id (by omega) (by omega)]; rfl
   ·by_cases hji:j=i
    ·subst hji
     rw [hx] at hy
     cases hy
     exact ht.1 (by cases t <;> simp_all)
    ·exact hr j y (by omega) hy
   ·show ((m:Int) - IntKind.wrap .i64 ((i:Int)+1)).toNat < ((m:Int) - (i:Int)).toNat
    rw [i64_id (by omega) (by omega)]; omega
 ·have hge:¬ (i:Int) < (m:Int):=of_decide_eq_false hge
  obtain ⟨j,hj,hjx⟩:=List.mem_iff_getElem.1 hx
  exact hr j x (by omega) (by rw [<- hjx]; exact List.getElem?_eq_getElem hj)
theorem woC_sts (x:Wo) (s:Nat):splice (woC x) 1 [.int .u64 (s:Nat)]=woC { x with sq:=s }:=by
 unfold woC
 rfl
theorem woC_sto {x:Wo} (h:x.d.length=32) (m:Int):splice (woC x) 37 [.int .i64 m]=woC { x with o:=m }:=by
 have e:woC x=([.int .i64 x.k,.int .u64 (x.sq:Nat)] ++ x.d.map bv ++ [.string ⟨x.nm.toArray⟩,.int .i64 x.z,.int .i64 x.s]) ++ ([.int .i64 x.o] ++ [.int .i64 x.q]):=by unfold woC; simp
 rw [e,splice_app (by simp [h]) (by simp)]
 unfold woC; simp
theorem woC_stq {x:Wo} (h:x.d.length=32) (m:Int):splice (woC x) 38 [.int .i64 m]=woC { x with q:=m }:=by
 have e:woC x=([.int .i64 x.k,.int .u64 (x.sq:Nat)] ++ x.d.map bv ++ [.string ⟨x.nm.toArray⟩,.int .i64 x.z,.int .i64 x.s,.int .i64 x.o]) ++ ([.int .i64 x.q] ++ []):=by unfold woC; simp
 rw [e,splice_app (by simp [h]) (by simp)]
 unfold woC; simp
theorem nmP_rg (r:RdS) {most:Int} (h:0<=most):0<=(nmP r most).1/\(nmP r most).1<=most:=by
 unfold nmP
 split
 ·exact ⟨Int.le_refl _,h⟩
 ·split
  ·exact ⟨Int.le_refl _,h⟩
  ·split
   ·exact ⟨Int.le_refl _,h⟩
   ·rename_i g
    exact ⟨Int.natCast_nonneg _,by show ((vaT r.1 0).1:Int)<=most; omega⟩
theorem txtP_len (r:RdS):(txtP r).1.length<=255:=by
 unfold txtP
 split
 ·exact Nat.zero_le _
 ·split
  ·exact Nat.zero_le _
  ·rename_i s e h
   exact (txP_in h).2.2
theorem wdH_nm (r:RdS) (n:Int):(wdH r n).1.nm.length<=255:=by
 show (hwN _ _).1.length<=255
 unfold hwN
 split
 ·exact txtP_len _
 ·exact Nat.zero_le _
set_option maxHeartbeats 4000000 in
theorem hword_calls (M B:Nat) (r:RdS) (n:Int) (w:World) (h:RdA w M B r) (hM:M<=w.heap.size) :
  Calls Tryz.prog 54 #[.pointer (some ⟨B,0,none⟩),.int .i64 n] w fun e w'=>e=.returned (ofL (woC (wdH r n).1))/\RdA w' M B (wdH r n).2/\Fr (fun k=>k=B) w w':=by
 refine (F54.of (some ⟨B,0,none⟩) n w (Q:=fun v w'=>v=ofL (woC (wdH r n).1)/\RdA w' M B (wdH r n).2/\Fr (fun k=>k=B) w w') ?_).mono (fun e w' ⟨v,he,hv,h⟩=>⟨by rw [he,hv],h⟩)
 have hB:=h.lt
 refine rec_new (fun b1 w2 f1 hb1 r1=>(rdNum_calls M B r 8 w2 (h.fr f1 (fun _ _ h=>h)) (by have:=f1.size; omega) (by omega)).mono ?_)
 rintro e w3 ⟨rfl,h3,f3⟩
 have s1:=f1.size
 have s3:=f3.size
 have l1:=r1.lt
 have r1:=r1.fr f3 (fun g=>by omega)
 have lay:∀ (u:World) (x:Wo) (K:Nat->World->Prop),x.d=z32->x.nm=[]->x.sq=0->x.z=0->x.o=0->x.q=0->(∀ b w',Fr (fun _=>False) u w'->u.heap.size<=b->RecAt w' b 56 (woC x)->K b w')->nw u Z56 56 fun b w1=>gd ((woC ⟨x.k,0,z32,[],0,x.s,0,0⟩).length == 39) (st w1 b 0 (woC ⟨x.k,0,z32,[],0,x.s,0,0⟩) fun w2=>K b w2):=by
  rintro u ⟨k,sq,d,nm,z,s,o,q⟩ K rfl rfl rfl rfl rfl rfl hK
  exact var_new (sz:=39) rfl (woC_len z32_len) (woC_one _) hK
 refine ⟨_,rfl,gd_mk rfl (lay w3 ⟨(nmP r 8).1,0,z32,[],0,n,0,0⟩ _ rfl rfl rfl rfl rfl rfl (fun b6 w4 f4 hb6 r6=>?_))⟩
 have s4:=f4.size
 have l6:=r6.lt
 have r1:=r1.fr f4 (fun h=>h)
 refine (rdSeq_calls M B _ w4 (h3.fr f4 (fun _ _ h=>h)) (by omega)).mono ?_
 rintro e w5 ⟨rfl,h5,f5⟩
 have s5:=f5.size
 refine ⟨_,rfl,(r6.fr f5 (fun g=>by omega)).st_mk (o:=1) (by rw [woC_len z32_len]; show 1+1<=39; omega) (fun v hv=>by simp at hv; subst hv; rfl) (fun r6 g6=>?_)⟩
 rw [woC_sts] at r6
 have r1:=(r1.fr f5 (fun g=>by omega)).fr g6 (fun g=>by omega)
 have h6:=h5.fr g6 (fun k hk e=>by omega)
 have sg6:=g6.size
 refine ⟨_,r6.cell (o:=0) (wo_k _),(of_calls (nmP r 8).1 _).mono ?_⟩
 rintro e w7 ⟨rfl,f7⟩
 have s7:=f7.size
 refine ⟨_,_,rfl,var_new (sz:=3) rfl rfl (ptC_one (nmP r 8).1) (fun b18 w8 f8 hb18 r18=>?_)⟩
 have s8:=f8.size
 have r6:=(r6.fr f7 (fun h=>h)).fr f8 (fun h=>h)
 have r1:=(r1.fr f7 (fun h=>h)).fr f8 (fun h=>h)
 have h8:RdA w8 M B (hw2 r):=(h6.fr f7 (fun _ _ h=>h)).fr f8 (fun _ _ h=>h)
 have n18:b18 ≠ b6:=by omega
 have n61:b1 ≠ b6:=by omega
 have n181:b18 ≠ B:=by omega
 have n6B:b6 ≠ B:=by omega
 have n1B:b1 ≠ B:=by omega
 have F8:Fr (fun k=>k=B) w w8:=by
  refine ((((f1.trans f3 (fun _ _ h=>h.elim) (fun _ _ h=>h)).trans f4 (fun _ _ h=>h) (fun _ _ h=>h.elim)).trans1 f5).trans g6 (fun _ _ h=>h) (fun k hk h=>by omega)).trans f7 (fun _ _ h=>h) (fun _ _ h=>h.elim) |>.trans f8 (fun _ _ h=>h) (fun _ _ h=>h.elim)
 have keep:∀ {u u':World} {S:Nat->Prop},Fr (fun k=>k=B) w u->Fr S u u'->(∀ k,k < w.heap.size->S k->k=B)->Fr (fun k=>k=B) w u':=fun a b hS=>a.trans b (fun _ _ h=>h) hS
 have hb6w:w.heap.size<=b6:=by omega
 have hb1w:w.heap.size<=b1:=hb1
 generalize hw8:w8.heap.size=S8 at *
 have k10:∀ (u:World) (x:Wo),x.d.length=32->RdA u M B (hw5 r)->RecAt u b6 56 (woC x)->RecAt u b1 56 Z56->Fr (fun k=>k=B) w u->S8<=u.heap.size ->
   { x with o:=(nmP (hw5 r) 1048576).1,q:=(nmP (hw6 r) 1048576).1 }=(wdH r n).1->jnC (F54.k10 (fun v w'=>v=ofL (woC (wdH r n).1)/\RdA w' M B (wdH r n).2/\Fr (fun k=>k=B) w w')) (some ⟨B,0,none⟩,(b1,0),(b6,0),()) u:=by
  intro u x dx hu q6 q1 fu su hx
  refine jnC_mk (fun _=>(rdNum_calls M B (hw5 r) 1048576 u hu (by omega) (by omega)).mono ?_)
  rintro e u1 ⟨rfl,hu1,fu1⟩
  have su1:=fu1.size
  refine ⟨_,rfl,(q6.fr fu1 (fun g=>n6B g)).st_mk (o:=37) (by rw [woC_len dx]; show 37+1<=39; omega) (fun v hv=>by simp at hv; subst hv; rfl) (fun q6 g6=>?_)⟩
  rw [woC_sto dx] at q6
  have q1:=(q1.fr fu1 (fun g=>n1B g)).fr g6 (fun g=>n61 g)
  have fu:=keep (keep fu fu1 (fun _ _ h=>h)) g6 (fun k hk e=>by omega)
  have sg:=g6.size
  refine (rdNum_calls M B (hw6 r) 1048576 _ (hu1.fr g6 (fun k hk e=>by omega)) (by omega) (by omega)).mono ?_
  rintro e u2 ⟨rfl,hu2,fu2⟩
  refine ⟨_,rfl,(q6.fr fu2 (fun g=>n6B g)).st_mk (o:=38) (by rw [woC_len (x:={ x with o:=(nmP (hw5 r) 1048576).1 }) dx]; show 38+1<=39; omega) (fun v hv=>by simp at hv; subst hv; rfl) (fun q6 g7=>?_)⟩
  rw [woC_stq (x:={ x with o:=(nmP (hw5 r) 1048576).1 }) dx] at q6
  have q1:=(q1.fr fu2 (fun g=>n1B g)).fr g7 (fun g=>n61 g)
  have fu:=keep (keep fu fu2 (fun _ _ h=>h)) g7 (fun k hk e=>by omega)
  have hu3:=hu2.fr g7 (fun k hk e=>by omega)
  dsimp only at q6
  rw [hx] at q6
  refine cp_mk (N:=39) (cs:=woC (wdH r n).1) (K:=fun a' w1=>ofL a'=ofL (woC (wdH r n).1)/\RdA w1 M B (wdH r n).2/\Fr (fun k=>k=B) w w1) q6 (woC_len (wdH_d r n)) q1 rfl (woC_one _) (fun w' g2=>⟨rfl,hu3.fr g2 (fun k hk e=>by omega),keep fu g2 (fun k hk e=>by omega)⟩)
 have k8:∀ (u:World) (x:Wo),x.d.length=32->x.z=0->RdA u M B (hw4 r)->RecAt u b6 56 (woC x)->RecAt u b1 56 Z56->RecAt u b18 169 (ptC (nmP r 8).1)->Fr (fun k=>k=B) w u->S8<=u.heap.size ->
   { x with z:=(hwZ (nmP r 8).1 (hw4 r)).1,o:=(nmP (hw5 r) 1048576).1,q:=(nmP (hw6 r) 1048576).1 }=(wdH r n).1->jnC (F54.k8 (fun v w'=>v=ofL (woC (wdH r n).1)/\RdA w' M B (wdH r n).2/\Fr (fun k=>k=B) w w')) (some ⟨B,0,none⟩,(b1,0),(b6,0),(b18,0),()) u:=by
  intro u x dx zx hu q6 q1 q18 fu su hx
  refine jnC_mk (fun _=>⟨_,q18.cell (o:=2) (v:=.bool (decide (ofZ (nmP r 8).1))) rfl,vIf_mk (fun hZ=>?_) (fun hZ=>?_)⟩)
  ·have hZ:=of_decide_eq_true hZ
   have e1:(hwZ (nmP r 8).1 (hw4 r))=nmP (hw4 r) 1048576:=by unfold hwZ; rw [if_pos hZ]
   refine (rdNum_calls M B (hw4 r) 1048576 u hu (by omega) (by omega)).mono ?_
   rintro e u1 ⟨rfl,hu1,fu1⟩
   have su1:=fu1.size
   refine ⟨_,rfl,(q6.fr fu1 (fun g=>n6B g)).st_mk (o:=35) (by rw [woC_len dx]; show 35+1<=39; omega) (fun v hv=>by simp at hv; subst hv; rfl) (fun q6 g6=>?_)⟩
   rw [woC_stz dx] at q6
   have sg:=g6.size
   have h5:hw5 r=(nmP (hw4 r) 1048576).2:=by show (hwZ (nmP r 8).1 (hw4 r)).2=_; rw [e1]
   refine k10 _ { x with z:=(nmP (hw4 r) 1048576).1 } dx ?_ q6 ((q1.fr fu1 (fun g=>n1B g)).fr g6 (fun g=>n61 g)) (keep (keep fu fu1 (fun _ _ h=>h)) g6 (fun k hk e=>by omega)) (by omega) ?_
   ·rw [h5]; exact hu1.fr g6 (fun k hk e=>by omega)
   ·rw [<- hx,e1]
  ·have hZ:=of_decide_eq_false hZ
   have e1:(hwZ (nmP r 8).1 (hw4 r))=(0,hw4 r):=by unfold hwZ; rw [if_neg hZ]
   have h5:hw5 r=hw4 r:=by show (hwZ (nmP r 8).1 (hw4 r)).2=_; rw [e1]
   refine k10 u x dx (by rw [h5]; exact hu) q6 q1 fu su ?_
   rw [<- hx,e1,<- zx]
 have k6:∀ (u:World) (x:Wo),x.d.length=32->x.z=0->x.nm=[]->RdA u M B (hw3 r)->RecAt u b6 56 (woC x)->RecAt u b1 56 Z56->RecAt u b18 169 (ptC (nmP r 8).1)->Fr (fun k=>k=B) w u->S8<=u.heap.size ->
   { x with nm:=(hwN (nmP r 8).1 (hw3 r)).1,z:=(hwZ (nmP r 8).1 (hw4 r)).1,o:=(nmP (hw5 r) 1048576).1,q:=(nmP (hw6 r) 1048576).1 }=(wdH r n).1->jnC (F54.k6 (fun v w'=>v=ofL (woC (wdH r n).1)/\RdA w' M B (wdH r n).2/\Fr (fun k=>k=B) w w')) (some ⟨B,0,none⟩,(b1,0),(b6,0),(b18,0),()) u:=by
  intro u x dx zx nx hu q6 q1 q18 fu su hx
  refine jnC_mk (fun _=>⟨_,q18.cell (o:=1) (v:=.bool (decide (ofN (nmP r 8).1))) rfl,vIf_mk (fun hN=>?_) (fun hN=>?_)⟩)
  ·have hN:=of_decide_eq_true hN
   have e1:(hwN (nmP r 8).1 (hw3 r))=txtP (hw3 r):=by unfold hwN; rw [if_pos hN]
   refine (rdTxt_calls M B (hw3 r) u hu (by omega)).mono ?_
   rintro e u1 ⟨rfl,hu1,fu1⟩
   have su1:=fu1.size
   refine ⟨_,rfl,(q6.fr fu1 (fun g=>n6B g)).st_mk (o:=34) (by rw [woC_len dx]; show 34+1<=39; omega) (fun v hv=>by simp at hv; subst hv; rfl) (fun q6 g6=>?_)⟩
   rw [woC_stn dx] at q6
   have sg:=g6.size
   have h4:hw4 r=(txtP (hw3 r)).2:=by show (hwN (nmP r 8).1 (hw3 r)).2=_; rw [e1]
   refine k8 _ { x with nm:=(txtP (hw3 r)).1 } dx zx ?_ q6 ((q1.fr fu1 (fun g=>n1B g)).fr g6 (fun g=>n61 g)) ((q18.fr fu1 (fun g=>n181 g)).fr g6 (fun g=>n18 g)) (keep (keep fu fu1 (fun _ _ h=>h)) g6 (fun k hk e=>by omega)) (by omega) ?_
   ·rw [h4]; exact hu1.fr g6 (fun k hk e=>by omega)
   ·rw [<- hx,e1]
  ·have hN:=of_decide_eq_false hN
   have e1:(hwN (nmP r 8).1 (hw3 r))=([],hw3 r):=by unfold hwN; rw [if_neg hN]
   have h4:hw4 r=hw3 r:=by show (hwN (nmP r 8).1 (hw3 r)).2=_; rw [e1]
   refine k8 u x dx zx (by rw [h4]; exact hu) q6 q1 q18 fu su ?_
   rw [<- hx,e1,<- nx]
 refine ⟨_,r18.cell (o:=0) (v:=.bool (decide (ofD (nmP r 8).1))) rfl,vIf_mk (fun hD=>?_) (fun hD=>?_)⟩
 ·have hD:=of_decide_eq_true hD
  have e1:(hwD (nmP r 8).1 (hw2 r))=dgP (hw2 r):=by unfold hwD; rw [if_pos hD]
  refine (rdDig_calls M B (hw2 r) w8 h8 (by omega)).mono ?_
  rintro e u1 ⟨rfl,hu1,fu1⟩
  have su1:=fu1.size
  refine ⟨_,rfl,gd_mk (by rw [List.length_map,dgP_len]; rfl) ((r6.fr fu1 (fun g=>n6B g)).st_mk (o:=2) (by rw [woC_len z32_len,List.length_map,dgP_len]; omega) (bvs_one _) (fun q6 g6=>?_))⟩
  rw [woC_std (x:=⟨(nmP r 8).1,(sqP (nmP r 8).2).1,z32,[],0,n,0,0⟩) z32_len dgP_len] at q6
  have sg:=g6.size
  have h3:hw3 r=(dgP (hw2 r)).2:=by show (hwD (nmP r 8).1 (hw2 r)).2=_; rw [e1]
  refine k6 _ ⟨(nmP r 8).1,(sqP (nmP r 8).2).1,(dgP (hw2 r)).1,[],0,n,0,0⟩ dgP_len rfl rfl ?_ q6 ((r1.fr fu1 (fun g=>n1B g)).fr g6 (fun g=>n61 g)) ((r18.fr fu1 (fun g=>n181 g)).fr g6 (fun g=>n18 g)) (keep (keep F8 fu1 (fun _ _ h=>h)) g6 (fun k hk e=>by omega)) (by omega) ?_
  ·rw [h3]; exact hu1.fr g6 (fun k hk e=>by omega)
  ·unfold wdH
   rw [e1]
 ·have hD:=of_decide_eq_false hD
  have e1:(hwD (nmP r 8).1 (hw2 r))=(z32,hw2 r):=by unfold hwD; rw [if_neg hD]
  have h3:hw3 r=hw2 r:=by show (hwD (nmP r 8).1 (hw2 r)).2=_; rw [e1]
  refine k6 w8 ⟨(nmP r 8).1,(sqP (nmP r 8).2).1,z32,[],0,n,0,0⟩ z32_len rfl rfl (by rw [h3]; exact h8) r6 r1 r18 F8 (by omega) ?_
  unfold wdH
  rw [e1]
theorem pushW2_mk {w0 w:World} {A:Option Addr} {n c:Nat} {l:List Wo} {x:Wo} {K:Option Addr->Nat->Nat->World->Prop} (h:RW w0 w A n c l) (hd:x.d.length=32) (hm:n < 1099511627776)
  (hK:∀ A' c' w',RW w0 w' A' (n+1) c' (l ++ [x])->Fr (fun k=>w0.heap.size<=k/\blkOf A=some k) w w'->(∀ k,blkOf A'=some k->blkOf A=some k\/w.heap.size<=k)->K A' (n+1) c' w'):nw w (woC x ++ []) 56 fun b w1=>app w1 39 96 Z56 56 A n c (.slice (some ⟨b,0,none⟩) 1 1) K:=by
 have sa:=(Fr.alloc (fun _=>False) w (.cells (woC x ++ []).toArray 56)).size
 refine nw_mk (appW_mk (l2:=[x]) (h.fr (Fr.alloc _ _ _)) ⟨?_,rfl,fun y hy=>by simp at hy; subst hy; exact hd⟩ (by omega) (fun A' c' w' hr f hb=>hK A' c' w' hr ((Fr.alloc _ _ _).trans1 f) (fun k hk=>(hb k hk).elim .inl (fun g=>.inr (by omega)))))
 rw [wsC_one]
 have e:woC x ++ []=woC x:=List.append_nil _
 rw [e]
 exact (Row.new (sz:=39) (n:=1) (B:=0) (Nat.zero_le _) (by rw [woC_len hd])).sl
abbrev HrA (w w':World) (v:Value) (p:List Wo×Nat×Int):Prop:=∃ (A:Option Addr) (c:Nat),v=.tuple #[.slice A p.1.length c,.int .u64 (p.2.1:Nat),.int .i64 p.2.2]/\RW w w' A p.1.length c p.1
theorem hrE_ans {w w':World} (f:Fr (fun _=>False) w w') (e:Int) {p:List Wo×Nat×Int} (hp:p=([],0,e)):HrA w w' (.tuple #[.slice none 0 0,.int .u64 0,.int .i64 e]) p:=by
 subst hp
 exact ⟨none,0,rfl,RW.nile f⟩
theorem nmP_err0 {r:RdS} {most:Int} (h:(nmP r most).2.2 ≠ 0):(nmP r most).1=0:=by
 unfold nmP at h ⊢
 split at h
 ·rename_i g
  rw [if_pos g]
 ·rename_i g
  rw [if_neg g]
  split at h
  ·rename_i g
   rw [if_pos g]
  ·rename_i g
   rw [if_neg g]
   split at h
   ·rename_i g
    rw [if_pos g]
   ·exact absurd rfl h
theorem rdP_len {m b:List UInt8} (h:(rdP m b).2=0):(rdP m b).1.length+4+m.length=b.length:=by
 unfold rdP at h ⊢
 split at h
 ·cases h
 ·rename_i g0
  rw [if_neg g0]
  split at h
  ·cases h
  ·rename_i g1
   rw [if_neg g1]
   split at h
   ·cases h
   ·rename_i g2
    rw [if_neg g2]
    show ((b.take (b.length - 4)).drop m.length).length+4+m.length=_
    rw [List.length_drop,List.length_take]; omega
theorem h4_len (b:List UInt8):(h4P b).1=0\/(h4P b).2.1.length < b.length:=by
 by_cases h:(h4P b).2.2=0
 ·have st:=(((nm_stp (rdP mgH b) 99999999).comp (nm_stp (h1P b).2 1048576)).comp (sq_stp (h2P b).2)).comp (nm_stp (h3P b).2 1048576)
  have:=st.len h
  have hr:=rdP_len this.1
  have h2:(h4P b).2.1.length+_<=_:=this.2
  right
  omega
 ·exact .inl (nmP_err0 h)
theorem endP_0 {r:RdS} (h:endP r=0):r.2=0:=by
 unfold endP at h
 split at h
 ·cases h
 ·exact h
theorem hw_same (b:List UInt8) (n:Int) (M:Nat) (hM:M=min (h4P b).1.toNat b.length) :
  (hwQ n M (h4P b).2 []).2=(hwL n (h4P b).1.toNat (h4P b).2 []).2/\((hwL n (h4P b).1.toNat (h4P b).2 []).2.2=0->(hwQ n M (h4P b).2 []).1=(hwL n (h4P b).1.toNat (h4P b).2 []).1/\(hwL n (h4P b).1.toNat (h4P b).2 []).1.length=(h4P b).1.toNat):=by
 have hc:hwL n (h4P b).1.toNat (h4P b).2 []=hwL n M (h4P b).2 []:=by
  refine hwL_cut n M _ _ (by omega) ?_
  rcases h4_len b with h | h
  ·left; rw [h] at hM ⊢; omega
  ·by_cases hh:M=(h4P b).1.toNat
   ·exact .inl hh
   ·right; omega
 obtain ⟨q1,q2⟩:=hwQ_eq n M (h4P b).2 []
 rw [hc]
 refine ⟨q1,fun h=>⟨by rw [q2 h],?_⟩⟩
 rw [<- hc] at h ⊢
 have:=(hwL_len n _ _ _ h).2.2
 rw [this]; show 0+_=_; omega
set_option maxHeartbeats 2000000 in
theorem hread_calls (A:Option Addr) (m c:Nat) (b:List UInt8) (n size:Int) (w:World) (h:Sl w 1 A m (b.map bv)) (hc:m<=c) (hm:m<=137438953000) :
  Calls Tryz.prog 28 #[.slice A m c,.int .i64 n,.int .i64 size] w fun e w'=>∃ v,e=.returned v/\HrA w w' v (hrP b n size):=by
 refine F28.of A m c n size w (Q:=fun v w'=>HrA w w' v (hrP b n size)) ?_
 have hl:=sl_len h
 refine (newR_calls mgH A m c b w h hc hm (by decide)).mono ?_
 rintro e w1 ⟨B,rfl,hR,f1,hBw⟩
 generalize hMM:w1.heap.size=M at hR
 have hBM:=hR.lt
 refine ⟨_,rfl,(rdNum_calls M B _ 99999999 w1 hR (by omega) (by omega)).mono ?_⟩
 rintro e w4 ⟨rfl,hR,f4⟩
 have s4:=f4.size
 refine ⟨_,rfl,(rdNum_calls M B _ 1048576 w4 hR (by omega) (by omega)).mono ?_⟩
 rintro e w7 ⟨rfl,hR,f7⟩
 have s7:=f7.size
 refine ⟨_,rfl,(rdSeq_calls M B _ w7 hR (by omega)).mono ?_⟩
 rintro e w10 ⟨rfl,hR,f10⟩
 have s10:=f10.size
 refine ⟨_,rfl,(rdNum_calls M B _ 1048576 w10 hR (by omega) (by omega)).mono ?_⟩
 rintro e w13 ⟨rfl,hR,f13⟩
 have s13:=f13.size
 have f0:Fr (fun _=>False) w w13:=fr_var (fr_var (fr_var (fr_var f1 hBw f4) hBw f7) hBw f10) hBw f13
 have hmany:=nmP_rg (h3P b).2 (most:=1048576) (by omega)
 have hmany:0<=(h4P b).1/\(h4P b).1<=1048576:=hmany
 have hR:RdA w13 M B (h4P b).2:=hR
 generalize hK:min (h4P b).1.toNat b.length=K
 obtain ⟨p1,p2⟩:=hw_same b n K hK.symm
 refine ⟨(h4P b).1,rfl,jnC_mk (loop_rule (fun s u=>∃ (i:Nat) (r:RdS) (out:List Wo) (A1:Option Addr) (c1:Nat),s=((A,m,c),n,size,some ⟨B,0,none⟩,(h1P b).1,(h2P b).1,((h3P b).1:Int),(h4P b).1,(A1,out.length,c1),(i:Int),())/\RW w u A1 out.length c1 out/\(∀ k,blkOf A1=some k->M<=k)/\RdA u M B r/\M<=u.heap.size/\i=out.length/\i<=K/\SmW out/\hwQ n (K - i) r out=hwQ n K (h4P b).2 []) (fun s _=>(K - s.2.2.2.2.2.2.2.2.2.1).toNat) ?_ _ _ ⟨0,(h4P b).2,[],none,0,rfl,RW.nile f0,(fun k hk=>by cases hk),hR,by omega,rfl,Nat.zero_le _,(fun _ h=>by cases h),rfl⟩)⟩
 rintro s u C ⟨i,r,out,A1,c1,rfl,hr,hA1,hu,hMu,hio,hiK,hsm,hq⟩ hC _
 have k8:i=K->jnC (F28.k8 (fun v w'=>HrA w w' v (hrP b n size))) (n,size,some ⟨B,0,none⟩,(h1P b).1,(h2P b).1,((h3P b).1:Int),(h4P b).1,(A1,out.length,c1),()) u:=by
  intro hiK
  rw [hiK,Nat.sub_self] at hq
  have hq:(out,r)=hwQ n K (h4P b).2 []:=hq
  rw [<- hq] at p1 p2
  have p1:r=(hwL n (h4P b).1.toNat (h4P b).2 []).2:=p1
  rw [<- p1] at p2
  have p2:r.2=0->out=(hwL n (h4P b).1.toNat (h4P b).2 []).1/\_:=p2
  refine jnC_mk (fun _=>(rdEnd_calls M B r u hu).mono ?_)
  rintro e u1 ⟨rfl,fu1⟩
  have hr:=hr.fr fu1
  have k12:∀ (t:Bool) (u2:World),Fr (fun _=>False) u1 u2->endP r=0->(t=true ↔ ((h1P b).1 ≠ n\/(h2P b).1 ≠ size\/¬ ∀ x ∈ out,RgW x n))->jnC (F28.k12 (fun v w'=>HrA w w' v (hrP b n size))) (((h3P b).1:Int),(A1,out.length,c1),t,()) u2:=by
   intro t u2 g he ht
   have hout:=(p2 (endP_0 he)).1
   refine jnC_mk (fun _=>vIf_mk (fun h=>hrE_ans (hr.f.trans1 g) 3 ?_) (fun h=>jnC_mk (fun _=>?_)))
   ·unfold hrP
    rw [<- p1,if_neg (fun h=>h he),<- hout,if_pos (ht.1 h)]
   ·have hp:hrP b n size=(out,(h3P b).1,0):=by
     unfold hrP
     rw [<- p1,if_neg (fun h=>h he),<- hout,if_neg (fun g=>by rw [ht.2 g] at h; cases h)]
    show HrA w u2 _ (hrP b n size)
    rw [hp]
    exact ⟨A1,c1,rfl,hr.fr g⟩
  refine ⟨_,rfl,vIf_mk (fun he=>hrE_ans hr.f _ ?_) (fun he=>?_)⟩
  ·have he:endP r ≠ 0:=by simpa using he
   unfold hrP
   rw [<- p1,if_pos he]
  have he:endP r=0:=by simpa using he
  obtain ⟨hout,hlen⟩:=p2 (endP_0 he)
  refine vIf_mk (fun h1=>k12 true u1 (Fr.refl _ _) he ⟨fun _=>.inl (by simpa using h1),fun _=>rfl⟩) (fun h1=>vIf_mk (fun h2=>k12 true u1 (Fr.refl _ _) he ⟨fun _=>.inr (.inl (by simpa using h2)),fun _=>rfl⟩) (fun h2=>vIf_mk (fun h3=>?_) (fun _=>?_)))
  ·exfalso
   have h3:(out.length:Int) ≠ (h4P b).1:=by simpa using h3
   rw [hout,hlen] at h3
   omega
  ·have h1:(h1P b).1=n:=by simpa using h1
   have h2:(h2P b).1=size:=by simpa using h2
   refine (rights_calls A1 out.length c1 out n u1 hr.sw hsm (by omega)).mono ?_
   rintro e u2 ⟨⟨t,rfl,ht⟩,fu2⟩
   refine ⟨t,rfl,k12 _ u2 fu2 he ?_⟩
   constructor
   ·intro g
    refine .inr (.inr (fun g'=>?_))
    rw [ht.2 g'] at g; cases g
   ·intro g
    have g:¬ ∀ x ∈ out,RgW x n:=g.elim (fun g=>absurd h1 g) (fun g=>g.elim (fun g=>absurd h2 g) id)
    cases t with
    | false=>rfl
    | true=>exact absurd (ht.1 rfl) g
 refine vIf_mk (fun hlt=>vIf_mk (fun hlb=>jnC_mk (fun _=>?_)) (fun hge=>k8 ?_)) (fun hge=>k8 ?_)
 ·have hlt:(i:Int) < (h4P b).1:=of_decide_eq_true hlt
  have hlb:(i:Int) < (m:Int):=of_decide_eq_true hlb
  refine (hword_calls M B r n u hu hMu).mono ?_
  rintro e u1 ⟨rfl,hu1,fu1⟩
  have su1:=fu1.size
  have hr:=hr.var fu1 hBw (fun e=>by have:=hA1 _ e; omega)
  have hwd:=wdH_d r n
  refine ⟨_,rfl,gd_mk (by rw [woC_len hwd]; rfl) (pushW2_mk hr hwd (by show out.length < _; omega) (fun A5 c5 u5 hr5 g5 hb5=>jnC_mk (hC _ _ ⟨i+1,(wdH r n).2,out ++ [(wdH r n).1],A5,c5,?_,?_,?_,?_,?_,?_,by omega,?_,?_⟩ ?_)))⟩
  ·show (_,_,_,_,_,_,_,_,_,IntKind.wrap .i64 ((i:Int)+1),())=_
   rw [i64_id (by omega) (by omega),List.length_append]; rfl
  ·rw [List.length_append]; exact hr5
  ·intro k hk
   rcases hb5 k hk with g | g
   ·exact hA1 k g
   ·omega
  ·exact hu1.fr g5 (fun k hk e=>by have:=hA1 _ e.2; omega)
  ·have:=g5.size; omega
  ·rw [List.length_append,hio]; rfl
  ·intro x hx
   rcases List.mem_append.1 hx with g | g
   ·exact hsm x g
   ·simp at g; subst g; exact wdH_nm r n
  ·rw [<- hq,show K - i=(K - (i+1))+1 by omega]; rfl
  ·show ((K:Int) - IntKind.wrap .i64 ((i:Int)+1)).toNat < ((K:Int) - (i:Int)).toNat
   rw [i64_id (by omega) (by omega)]; omega
 ·have hge:¬ (i:Int) < (m:Int):=of_decide_eq_false hge
  omega
 ·have hge:¬ (i:Int) < (h4P b).1:=of_decide_eq_false hge
  omega
structure RrA (w:World) (A:Option Addr) (n c:Nat) (r:RdS):Prop where
 sl:Sl w 1 A n (r.1.map bv)
 le:n<=c
 lt:n<=1099511627776
theorem rhas_calls (k:Int) (w:World):Calls Tryz.prog 16 #[.int .i64 k] w fun e w'=>(∃ d m z,e=.returned (.tuple #[.bool d,.bool m,.bool z])/\(1<=k->k<=5->d=decide (ofD k)/\m=decide (ofN k)/\z=decide (ofZ k)))/\w=w':=by
 refine (F16.of k w (Q:=fun v w'=>(∃ d m z,v=.tuple #[.bool d,.bool m,.bool z]/\(1<=k->k<=5->d=decide (ofD k)/\m=decide (ofN k)/\z=decide (ofZ k)))/\w=w') ?_).mono (fun e w' ⟨v,he,⟨d,m,z,hv,h⟩,h'⟩=>⟨⟨d,m,z,by rw [he,hv],h⟩,h'⟩)
 have key:∀ k:Int,1<=k->k<=5->k=1\/k=2\/k=3\/k=4\/k=5:=fun k h1 h5=>by omega
 refine vIf_mk (fun h3=>vIf_mk (fun e3=>⟨⟨_,_,_,rfl,fun h1 h5=>?_⟩,rfl⟩) (fun e3=>⟨⟨_,_,_,rfl,fun h1 h5=>?_⟩,rfl⟩)) (fun h3=>vIf_mk (fun e3=>⟨⟨_,_,_,rfl,fun h1 h5=>?_⟩,rfl⟩) (fun e3=>⟨⟨_,_,_,rfl,fun h1 h5=>?_⟩,rfl⟩))
 all_goals
  rcases key k h1 h5 with rfl | rfl | rfl | rfl | rfl <;> first | exact ⟨rfl,rfl,rfl⟩ | (exfalso; revert h3; decide) | (exfalso; revert e3; decide)
end Go.Proofs.YtodmachaofepkaaGreatDoor
