import Derived.Lib.ItoaNum
import Derived.Lib.Atoi
import Derived.Lib.Repeat
import Derived.Lib.Strings
import Derived.Shelf.Small.Wraps
import Derived.Shelf.Strconv.Atoi
import Derived.Shelf.Strconv.ErrVar
import Derived.Shelf.Strconv.Itoa3
import Derived.Shelf.Strings.Repeat
import Derived.Test.YtadbakmblklncaaGreatDoorProg
import Derived.Test.YtadbakmblklncaaGreatDoorRows
import Derived.WalkKit
import Derived.ProofKit
import Derived.OpenShut
import Derived.JoinedCond
import Derived.Test.YtadbakmblklncaaGreatDoorCards
import Derived.Test.YtadbakmblklncaaGreatDoorTie
import Derived.Deep.DeepHandedRow
import Derived.Lib.LaidTab
import Derived.Stop.LaidErr
import Derived.Test.YtadbakmblklncaaGreatDoorP3
set_option linter.unusedVariables false
set_option linter.unusedSimpArgs false
namespace Go.Proofs.YtadbakmblklncaaGreatDoor
open Go.GV Go.RowKit
theorem clone_calls (A:Option Addr) (n c:Nat) (l:List UInt8) (w:World) (h:Sl w 1 A n (l.map bv)) (h0:A=none->n=0) (hn:n<=1099511627776) :
  Calls Tryz.prog 28 #[.slice A n c] w fun e w'=>Fr (fun _=>False) w w'/\∃ A' c',e=.returned (.slice A' n c')/\Row w' w.heap.size 5 1 A' n c' (l.map bv):=by
 refine (F28.of A n c w (Q:=fun v w'=>Fr (fun _=>False) w w'/\∃ A' c',v=.slice A' n c'/\Row w' w.heap.size 5 1 A' n c' (l.map bv)) ?_).mono (fun e w' ⟨v,he,hf,A',c',hv,h⟩=>⟨hf,A',c',by rw [he,hv],h⟩)
 have hl:l.length=n:=by simpa using h.1
 refine vIf_mk (fun hA=>?_) (fun hA=>nw_mk ?_)
 ·have hA:A=none:=by simpa using hA
  have:=h0 hA
  subst this
  have:l=[]:=List.length_eq_zero_iff.1 hl
  subst this
  exact ⟨Fr.refl _ _,none,0,rfl,Row.nil _ _ _ _⟩
 ·have f1:Fr (fun _=>False) w (w.alloc (.cells ([]:List Value).toArray 5)):=Fr.alloc _ _ _
  have r1:Row (w.alloc (.cells ([]:List Value).toArray 5)) w.heap.size 5 1 (some ⟨w.heap.size,0,none⟩) 0 0 []:=Row.new (Nat.le_refl _) rfl
  refine app_row r1 (f1.sl h (fun _ _ _ h=>h)).src (bvs_one l) rfl (by omega) (by omega) f1.size ?_
  intro A' c' w2 r2 f2
  rw [Nat.zero_add] at r2 ⊢
  rw [List.nil_append] at r2
  exact ⟨f1.trans f2 (fun _ _ h=>h) (fun k hk h=>by simp only [blkOf,Option.some.injEq] at h; omega),A',c',rfl,r2⟩
theorem grow_calls (m:Nat) (w:World) (hm:m<=1099511627776) :
  Calls Tryz.prog 92 #[.slice none 0 0,.int .i64 m] w fun e w'=>Fr (fun _=>False) w w'/\∃ A' c',e=.returned (.slice A' 0 c')/\Row w' w.heap.size 5 1 A' 0 c' []:=by
 refine (F92.of none 0 0 m w (Q:=fun v w'=>Fr (fun _=>False) w w'/\∃ A' c',v=.slice A' 0 c'/\Row w' w.heap.size 5 1 A' 0 c' []) ?_).mono (fun e w' ⟨v,he,hf,A',c',hv,h⟩=>⟨hf,A',c',by rw [he,hv],h⟩)
 refine vIf_f (decide_eq_false (by omega)) (jnC_mk (fun _=>?_))
 have e0:IntKind.wrap .i64 ((m:Int) - IntKind.wrap .i64 (((0:Nat):Int) - ((0:Nat):Int)))=m:=by
  rw [i64_id (n:=((0:Nat):Int) - ((0:Nat):Int)) (by omega) (by omega),i64_id (by omega) (by omega)]; omega
 show vIf (decide (IntKind.wrap .i64 ((m:Int) - IntKind.wrap .i64 (((0:Nat):Int) - ((0:Nat):Int))) > 0)) _ _
 refine vIf_mk (fun h0=>?_) (fun h0=>⟨Fr.refl _ _,none,0,rfl,Row.nil _ _ _ _⟩)
 refine gd_mk rfl (gd_mk rfl ?_)
 show appZ w 1 1 [Value.int .u8 0] 5 none 0 0 (IntKind.wrap .i64 ((m:Int) - IntKind.wrap .i64 (((0:Nat):Int) - ((0:Nat):Int)))) _
 refine appZ_row (Row.nil w w.heap.size 5 1) (m:=m) (by rw [e0,i64_id (by omega) (by omega)]) (by omega) (by intro v hv; simp only [List.mem_singleton] at hv; subst hv; rfl) rfl (by omega) (by omega) (Nat.le_refl _) ?_
 intro A' c' w2 r2 f2
 refine gd_mk rfl (gd_mk (decide_eq_true (by show ((0:Nat):Int)<=(c':Int); omega)) ⟨f2.mono (fun _ _ h=>by simp [blkOf] at h),_,c',rfl,?_⟩)
 have hsl:slA A' c' 0 1=A':=by
  unfold slA
  split
  ·rfl
  ·cases A' with
   | none=>rfl
   | some a=>simp [Addr.add]
 show Row w2 w.heap.size 5 1 (slA A' c' 0 1) 0 c' []
 rw [hsl]
 refine ⟨rfl,Nat.zero_le _,?_⟩
 rcases r2.at_ with ⟨h1,h2,h3⟩ | ⟨b,cs,h1,h2,h3,h4,h5⟩
 ·exact .inl ⟨h1,rfl,h3⟩
 ·exact .inr ⟨b,cs,h1,h2,h3,h4,by simp⟩
theorem concat_calls (A:Option Addr) (n c:Nat) (vs:List Value) (ls:List (List UInt8)) (w:World) (h:Sl w 1 A n vs) (hn:n=ls.length) (hs:∀ (i:Nat) (l:List UInt8),ls[i]?=some l->∃ (B:Option Addr) (m k:Nat),vs[i]?=some (Value.slice B m k)/\Sl w 1 B m (l.map bv))
  (hm:ls.flatten.length<=1099511627776) (hn2:n<=1099511627776) :
  Calls Tryz.prog 59 #[.slice A n c] w fun e w'=>Fr (fun _=>False) w w'/\∃ A' c',e=.returned (.slice A' ls.flatten.length c')/\Row w' w.heap.size 5 1 A' ls.flatten.length c' (ls.flatten.map bv):=by
 refine (F59.of A n c w (Q:=fun v w'=>Fr (fun _=>False) w w'/\∃ A' c',v=.slice A' ls.flatten.length c'/\Row w' w.heap.size 5 1 A' ls.flatten.length c' (ls.flatten.map bv)) ?_).mono (fun e w' ⟨v,he,hf,A',c',hv,h⟩=>⟨hf,A',c',by rw [he,hv],h⟩)
 have tk:∀ i l,ls[i]?=some l->(ls.take (i+1)).flatten=(ls.take i).flatten ++ l:=fun i l hi=>by rw [List.take_add_one,hi]; simp
 have le:∀ i,(ls.take i).flatten.length<=ls.flatten.length:=fun i=>by
  have:=congrArg (fun x=>x.flatten.length) (List.take_append_drop i ls)
  simp only [List.flatten_append,List.length_append] at this
  omega
 refine jnC_mk ?_
 refine loop_rule (fun s u=>u=w/\∃ i:Nat,i<=n/\s=((A,n,c),(((ls.take i).flatten.length:Nat):Int),(A,n,c),(n:Int),(i:Int),()))
  (fun s _=>(n - s.2.2.2.2.1).toNat) ?_ _ _ ⟨rfl,0,by omega,rfl⟩
 rintro s u C ⟨rfl,i,hi,rfl⟩ hC _
 refine vIf_mk (fun hlt=>?_) (fun hge=>?_)
 ·have hlt2:(i:Int) < n:=of_decide_eq_true hlt
  obtain ⟨l,hl⟩:∃ l,ls[i]?=some l:=⟨_,List.getElem?_eq_getElem (by omega)⟩
  obtain ⟨B,m,k,hv,hB⟩:=hs i l hl
  obtain ⟨b,o,hA',hc⟩:=h.get (i:=i) (by omega) hv
  subst hA'
  have hml:l.length=m:=by simpa using hB.1
  have h1:=le (i+1)
  rw [tk i l hl,List.length_append] at h1
  have e1:IntKind.wrap .i64 ((((ls.take i).flatten.length:Nat):Int)+(m:Int))=(((ls.take (i+1)).flatten.length:Nat):Int):=by
   rw [i64_id (by omega) (by omega),tk i l hl,List.length_append]; omega
  refine dr_mk (gd_mk (decide_eq_true (Int.natCast_nonneg i)) (gd_mk (decide_eq_true hlt2) ⟨B,m,k,hc,vIf_f (decide_eq_false ?_) (jnC_mk (hC _ _ ⟨rfl,i+1,by omega,?_⟩ ?_))⟩))
  ·show ¬ (IntKind.wrap .i64 ((((ls.take i).flatten.length:Nat):Int)+(m:Int)) < 0)
   rw [e1]; omega
  ·show ((_,n,c),IntKind.wrap .i64 ((((ls.take i).flatten.length:Nat):Int)+(m:Int)),(_,n,c),(n:Int),IntKind.wrap .i64 ((i:Int)+1),())=_
   rw [e1,i64_id (by omega) (by omega)]; rfl
  ·show ((n:Int) - IntKind.wrap .i64 ((i:Int)+1)).toNat < ((n:Int) - i).toNat
   rw [i64_id (by omega) (by omega)]; omega
 ·have hge2:¬ ((i:Int) < n):=of_decide_eq_false hge
  have hin:i=ls.length:=by omega
  subst hin
  show Calls Tryz.prog 92 #[.slice none 0 0,.int .i64 (((ls.take ls.length).flatten.length:Nat):Int)] u _
  rw [List.take_length]
  refine (grow_calls _ u hm).mono ?_
  rintro e w1 ⟨f1,R,rc,rfl,r1⟩
  refine ⟨R,0,rc,rfl,jnC_mk ?_⟩
  refine loop_rule (fun s x=>Fr (fun _=>False) u x/\∃ (i:Nat) (R:Option Addr) (rc:Nat),i<=n/\s=((R,(ls.take i).flatten.length,rc),(A,n,c),(n:Int),(i:Int),())/\Row x u.heap.size 5 1 R (ls.take i).flatten.length rc ((ls.take i).flatten.map bv))
   (fun s _=>(n - s.2.2.2.1).toNat) ?_ _ _ ⟨f1,0,R,rc,by omega,rfl,r1⟩
  rintro s x C2 ⟨hf,i,R,rc,hi,rfl,hr⟩ hC2 _
  have hRb:∀ k,k < u.heap.size->blkOf R=some k->False:=fun k hk hb=>by have:=(hr.blt hb).1; omega
  refine vIf_mk (fun hlt=>?_) (fun hge=>?_)
  ·have hlt2:(i:Int) < n:=of_decide_eq_true hlt
   obtain ⟨l,hl⟩:∃ l,ls[i]?=some l:=⟨_,List.getElem?_eq_getElem (by omega)⟩
   obtain ⟨B,m,k,hv,hB⟩:=hs i l hl
   obtain ⟨b,o,hA',hc⟩:=(hf.sl h (fun _ _ _ h=>h)).get (i:=i) (by omega) hv
   subst hA'
   have hml:l.length=m:=by simpa using hB.1
   have h1:=le (i+1)
   rw [tk i l hl,List.length_append] at h1
   refine dr_mk (gd_mk (decide_eq_true (Int.natCast_nonneg i)) (gd_mk (decide_eq_true hlt2) ⟨B,m,k,hc,?_⟩))
   refine app_row hr (hf.sl hB (fun _ _ _ h=>h)).src (bvs_one l) rfl (by show ((ls.take i).flatten.length+m) * 1<=_; omega) (by show (ls.take i).flatten.length+m<=_; omega) hf.size ?_
   intro R' rc' w4 r4 f4
   have e2:(ls.take i).flatten.length+m=(ls.take (i+1)).flatten.length:=by rw [tk i l hl,List.length_append,hml]
   refine jnC_mk (hC2 _ _ ⟨hf.trans f4 (fun _ _ h=>h) (fun k hk h=>hRb k hk h),i+1,R',rc',by omega,?_,?_⟩ ?_)
   ·show ((R',(ls.take i).flatten.length+m,rc'),(_,n,c),(n:Int),IntKind.wrap .i64 ((i:Int)+1),())=_
    rw [i64_id (by omega) (by omega),e2]; rfl
   ·rw [<- e2,tk i l hl,List.map_append]
    exact r4
   ·show ((n:Int) - IntKind.wrap .i64 ((i:Int)+1)).toNat < ((n:Int) - i).toNat
    rw [i64_id (by omega) (by omega)]; omega
  ·have hge2:¬ ((i:Int) < n):=of_decide_eq_false hge
   have hin:i=ls.length:=by omega
   subst hin
   rw [List.take_length] at hr ⊢
   exact ⟨hf,R,rc,rfl,hr⟩
end Go.Proofs.YtadbakmblklncaaGreatDoor
namespace Go.Proofs.YtadbakmblklncaaGreatDoor
open Go.GV Go.RowKit Go.Lib
theorem u8_wr (y:Nat):IntKind.wrap .u8 (y:Int)=((y % 256:Nat):Int):=by rw [IntKind.wrap_u8]; omega
theorem fdiv_8 (y:Nat):Int.fdiv (y:Int) (2 ^ 8)=((y / 256:Nat):Int):=by
 rw [Int.fdiv_eq_ediv_of_nonneg _ (by decide)]; rfl
theorem with_calls1 (A:Option Addr) (n c x:Nat) (b:List UInt8) (w:World) (h:Sl w 1 A n (b.map bv)) (hn:n+x<=1099511627776) :
  Calls Tryz.prog 91 #[.slice A n c,.int .i64 (x:Nat)] w fun e w'=>∃ A' c',e=.returned (.slice A' n c')/\RB w w' A' n c' b:=by
 refine (F91.of A n c x w (Q:=fun v w'=>∃ A' c',v=.slice A' n c'/\RB w w' A' n c' b) ?_).mono (fun e w' ⟨v,he,A',c',hv,h⟩=>⟨A',c',by rw [he,hv],h⟩)
 have hl:=sl_len h
 have e1:IntKind.wrap .i64 (((n:Nat):Int)+((x:Nat):Int))=((n+x:Nat):Int):=by rw [i64_id (by omega) (by omega)]; omega
 unfold F91.vc
 rw [e1]
 refine gd_mk (decide_eq_true (by omega)) (gd_mk (decide_eq_true (by omega)) (gd_mk (decide_eq_true (by omega)) (nw_mk ?_)))
 rw [Int.toNat_natCast,Int.toNat_natCast]
 have r3:Row (w.alloc (.cells (zeros (n+x) [Value.int .u8 0]).toArray 5)) w.heap.size 5 1 (some ⟨w.heap.size,0,none⟩) n (n+x) (zeros n [Value.int .u8 0]):=Row.made (Nat.le_refl _) rfl (by omega)
 have f3:Fr (fun _=>False) w (w.alloc (.cells (zeros (n+x) [Value.int .u8 0]).toArray 5)):=Fr.alloc _ _ _
 generalize hb3:w.heap.size=b3 at r3 ⊢
 generalize w.alloc (.cells (zeros (n+x) [Value.int .u8 0]).toArray 5)=w5 at r3 f3 ⊢
 have cp:=cpy_row (k:=0) (x:=.slice A n c) (m:=n) (us:=b.map bv) r3 (f3.sl h (fun _ _ _ h=>h)).src (by simp; omega) (Nat.zero_le _) (fun v hv=>bvs_one b v (List.mem_of_mem_take hv)) (K:=fun n3 w4 =>
  (fun v w'=>∃ A' c',v=Value.slice A' n c'/\RB w w' A' n c' b) (Value.slice (some ⟨b3,0,none⟩) n (n+x)) w4) (fun w6 r6 f6=>?_)
 ·rw [sl0,Nat.sub_zero] at cp
  exact cp
 ·refine ⟨some ⟨b3,0,none⟩,n+x,rfl,f3.trans f6 (fun _ _ h=>h) (fun k hk h=>by simp only [blkOf,Option.some.injEq] at h; omega),?_⟩
  have e2:splice (zeros n [Value.int .u8 0]) (0 * 1) ((b.map bv).take (min n (n - 0) * 1))=b.map bv:=by
   rw [Nat.sub_zero,Nat.min_self,Nat.mul_one,List.take_of_length_le (by simp; omega)]
   exact splice_full (by rw [zeros_length]; simp; omega)
  rw [e2] at r6
  rw [hb3]
  exact r6
set_option maxHeartbeats 1000000 in
theorem fput_calls (A:Option Addr) (n c:Nat) (b:List UInt8) (x k:Nat) (w:World) (h:Sl w 1 A n (b.map bv)) (hn:n<=1099511627700) (hx:x < 18446744073709551616) (hk1:1<=k) (hk:k<=8) :
  Calls Tryz.prog 60 #[.slice A n c,.int .u64 (x:Nat),.int .i64 (k:Nat)] w fun e w'=>∃ A' c',e=.returned (.slice A' (n+k) c')/\RB w w' A' (n+k) c' (b ++ leB x k):=by
 have hl:=sl_len h
 refine (F60.of A n c x k w (Q:=fun v w'=>∃ A' c',v=.slice A' (n+k) c'/\RB w w' A' (n+k) c' (b ++ leB x k)) ?_).mono (fun e w' ⟨v,he,A',c',hv,h⟩=>⟨A',c',by rw [he,hv],h⟩)
 refine (with_calls1 A n c 8 b w h (by omega)).mono ?_
 rintro e w1 ⟨A1,c1,rfl,h1⟩
 refine ⟨A1,n,c1,rfl,vIf_f (decide_eq_false (by omega)) (vIf_f (decide_eq_false (by omega)) (jnC_mk (fun _=>?_)))⟩
 refine jnC_mk (loop_rule (fun s u=>∃ (i:Nat) (A':Option Addr) (c':Nat),i<=k/\s=(((x / 256 ^ i:Nat):Int),(A',n+i,c'),(k:Int),(i:Int),())/\RB w u A' (n+i) c' (b ++ leB x i)) (fun s _=>(k - s.2.2.2.1).toNat) ?_ _ _ ⟨0,A1,c1,by omega,?_,?_⟩)
 ·rintro s u C ⟨i,A',c',hi,rfl,hr⟩ hC _
  refine vIf_mk (fun hlt=>?_) (fun hge=>?_)
  ·have hlt:(i:Int) < (k:Int):=of_decide_eq_true hlt
   have e1:Value.int .u8 (IntKind.wrap .u8 ((x / 256 ^ i:Nat):Int))=bv (UInt8.ofNat (x / 256 ^ i % 256)):=by
    have:IntKind.wrap .u8 ((x / 256 ^ i:Nat):Int)=((x / 256 ^ i % 256:Nat):Int):=by
     generalize x / 256 ^ i=y
     exact u8_wr y
    rw [this]
    exact bv_nat (Nat.mod_lt _ (by omega))
   have e2:Int.fdiv ((x / 256 ^ i:Nat):Int) (2 ^ 8)=((x / 256 ^ (i+1):Nat):Int):=by
    rw [show Int.fdiv ((x / 256 ^ i:Nat):Int) (2 ^ 8)=((x / 256 ^ i / 256:Nat):Int) from fdiv_8 _,Nat.div_div_eq_div_mul,<- Nat.pow_succ]
   show nw u ([Value.int .u8 (IntKind.wrap .u8 ((x / 256 ^ i:Nat):Int))] ++ []) _ _
   rw [e1]
   refine push_mk hr (by show n+i < _; omega) (fun A2 c2 w2 h2=>jnC_mk (hC _ _ ⟨i+1,A2,c2,by omega,?_,?_⟩ ?_))
   ·show (Int.fdiv ((x / 256 ^ i:Nat):Int) (2 ^ 8),(A2,n+i+1,c2),(k:Int),IntKind.wrap .i64 ((i:Int)+1),())=_
    rw [e2,le_e1 i (by omega)]; rfl
   ·rw [leB_take,<- List.append_assoc]; exact h2
   ·show ((k:Int) - IntKind.wrap .i64 ((i:Int)+1)).toNat < ((k:Int) - (i:Int)).toNat
    rw [le_e1 i (by omega)]; omega
  ·have hge:¬ (i:Int) < (k:Int):=of_decide_eq_false hge
   obtain rfl:i=k:=by omega
   exact ⟨A',c',rfl,hr⟩
 ·rw [Nat.pow_zero,Nat.div_one]; rfl
 ·rw [leB,List.append_nil]; exact h1
theorem fsize_calls (x:Nat) (w:World) (hx:x<=1099511627776):Calls Tryz.prog 36 #[.int .i64 (x:Nat)] w fun e w'=>e=.returned (.int .i64 ((21+x:Nat):Int))/\w'=w:=by
 refine (F36.of x w (Q:=fun v w'=>v=.int .i64 ((21+x:Nat):Int)/\w'=w) ?_).mono (fun e w' ⟨v,he,hv,h⟩=>⟨by rw [he,hv],h⟩)
 refine ⟨?_,rfl⟩
 rw [i64_id (n:=17+((x:Nat):Int)) (by omega) (by omega),i64_id (by omega) (by omega)]
 congr 1; omega
theorem fptext_calls (A:Option Addr) (n c:Nat) (b s:List UInt8) (w:World) (h:Sl w 1 A n (b.map bv)) (hn:n<=1099511627000) (hs:s.length<=255) :
  Calls Tryz.prog 58 #[.slice A n c,.string ⟨s.toArray⟩] w fun e w'=>∃ A' c',e=.returned (.tuple #[.slice A' (n+1+s.length) c',.bool true])/\RB w w' A' (n+1+s.length) c' (b ++ (UInt8.ofNat s.length :: s)):=by
 have hl:=sl_len h
 have hsz:(⟨s.toArray⟩:ByteArray).size=s.length:=List.size_toArray
 refine (F58.of A n c ⟨s.toArray⟩ w (Q:=fun v w'=>∃ A' c',v=.tuple #[.slice A' (n+1+s.length) c',.bool true]/\RB w w' A' (n+1+s.length) c' (b ++ (UInt8.ofNat s.length :: s))) ?_).mono (fun e w' ⟨v,he,A',c',hv,h⟩=>⟨A',c',by rw [he,hv],h⟩)
 have e1:IntKind.wrap .i64 (((⟨s.toArray⟩:ByteArray).size:Int)+1)=((s.length+1:Nat):Int):=by rw [hsz,i64_id (by omega) (by omega)]; omega
 unfold F58.vc
 rw [e1]
 refine (with_calls1 A n c (s.length+1) b w h (by omega)).mono ?_
 rintro e w1 ⟨A1,c1,rfl,h1⟩
 refine ⟨A1,n,c1,rfl,vIf_f (decide_eq_false (by rw [hsz]; omega)) ?_⟩
 rw [hsz]
 have e2:Value.int .u8 (IntKind.wrap .u8 ((s.length:Nat):Int))=bv (UInt8.ofNat s.length):=by
  rw [u8_id (by omega) (by omega)]
  exact bv_nat (by omega)
 rw [e2]
 refine push_mk h1 (by omega) (fun A2 c2 w2 h2=>?_)
 refine app_row h2.2 (x:=.string ⟨s.toArray⟩) (us:=s.map bv) (m:=s.length) ⟨rfl,by rw [hsz],by simp⟩ (bvs_one s) (by simp) (by omega) (by omega) h2.1.size (fun A' c' w' hr f=>⟨A',c',rfl,h2.1.trans f (fun _ _ h=>h) (fun k hk hb=>by have:=(h2.2.blt hb).1; omega),?_⟩)
 have e3:(b ++ (UInt8.ofNat s.length :: s)).map bv=(b ++ [UInt8.ofNat s.length]).map bv ++ s.map bv:=by simp
 rw [e3]; exact hr
theorem fseal_calls (A:Option Addr) (n c:Nat) (b:List UInt8) (w:World) (h:Sl w 1 A n (b.map bv)) (hn:n<=1099511627700) :
  Calls Tryz.prog 89 #[.slice A n c] w fun e w'=>∃ A' c',e=.returned (.slice A' (n+4) c')/\RB w w' A' (n+4) c' (b ++ leB (crcS b).toNat 4):=by
 refine (F89.of A n c w (Q:=fun v w'=>∃ A' c',v=.slice A' (n+4) c'/\RB w w' A' (n+4) c' (b ++ leB (crcS b).toNat 4)) ?_).mono (fun e w' ⟨v,he,A',c',hv,h⟩=>⟨A',c',by rw [he,hv],h⟩)
 refine (crc_calls A n c b w h (by omega)).mono ?_
 rintro e w1 ⟨rfl,f1⟩
 have hlt:(crcS b).toNat < 4294967296:=(crcS b).isLt
 refine ⟨_,rfl,?_⟩
 rw [u64_id (n:=((crcS b).toNat:Int)) (by omega) (by omega)]
 refine (fput_calls A n c b (crcS b).toNat 4 w1 (f1.sl h (fun _ _ _ h=>h)) (by omega) (by omega) (by omega) (by omega)).mono ?_
 rintro e w2 ⟨A2,c2,rfl,h2⟩
 exact ⟨A2,n+4,c2,rfl,A2,c2,rfl,h2.le f1⟩
set_option maxHeartbeats 1000000 in
theorem fmake_calls (k sq:Nat) (A:Option Addr) (n c:Nat) (d:List UInt8) (w:World) (h:Sl w 1 A n (d.map bv)) (hn:n<=4294967295) (hk:k < 256) (hs:sq < 18446744073709551616) :
  Calls Tryz.prog 56 #[.int .i64 (k:Nat),.int .u64 (sq:Nat),.slice A n c] w fun e w'=>∃ A' c',e=.returned (.slice A' (21+n) c')/\RB w w' A' (21+n) c' (mkF k sq d):=by
 have hl:=sl_len h
 refine (F56.of (k:Nat) (sq:Nat) A n c w (Q:=fun v w'=>∃ A' c',v=.slice A' (21+n) c'/\RB w w' A' (21+n) c' (mkF k sq d)) ?_).mono (fun e w' ⟨v,he,A',c',hv,h⟩=>⟨A',c',by rw [he,hv],h⟩)
 unfold F56.vc
 rw [u64_id (n:=((k:Nat):Int)) (by omega) (by omega),u64_id (n:=((n:Nat):Int)) (by omega) (by omega)]
 refine (fput_calls none 0 0 [] k 1 w (Sl.nil _ _ _) (by omega) (by omega) (by omega) (by omega)).mono ?_
 rintro e w1 ⟨A1,c1,rfl,h1⟩
 refine ⟨A1,0+1,c1,rfl,(fput_calls A1 (0+1) c1 _ sq 8 w1 h1.sl (by omega) hs (by omega) (by omega)).mono ?_⟩
 rintro e w2 ⟨A2,c2,rfl,h2⟩
 refine ⟨A2,0+1+8,c2,rfl,(fput_calls A2 (0+1+8) c2 _ n 4 w2 h2.sl (by omega) (by omega) (by omega) (by omega)).mono ?_⟩
 rintro e w3 ⟨A3,c3,rfl,h3⟩
 refine ⟨A3,0+1+8+4,c3,rfl,(fseal_calls A3 (0+1+8+4) c3 _ w3 h3.sl (by omega)).mono ?_⟩
 rintro e w4 ⟨A4,c4,rfl,h4⟩
 have f3:=(h1.1.trans1 h2.1).trans1 h3.1
 refine ⟨A4,0+1+8+4+4,c4,rfl,appB_mk (h4.le f3) ((f3.trans1 h4.1).sl h (fun _ _ _ h=>h)) (by omega) (fun A5 c5 w5 h5=>(fseal_calls A5 _ c5 _ w5 h5.sl (by omega)).mono ?_)⟩
 rintro e w6 ⟨A6,c6,rfl,h6⟩
 have e1:[] ++ leB k 1 ++ leB sq 8 ++ leB n 4=hdF k sq d.length:=by
  rw [hl]; rfl
 rw [e1] at h6
 have e2:hdF k sq d.length ++ leB (crcS (hdF k sq d.length)).toNat 4 ++ d=bdF k sq d:=rfl
 rw [e2] at h6
 have e3:0+1+8+4+4+n+4=21+n:=by omega
 rw [e3] at h6 ⊢
 exact ⟨A6,_,c6,rfl,A6,c6,rfl,h6.le h5.1⟩
def daW (x:Rc):List UInt8 :=
 if x.k=3\/x.k=4 then (UInt8.ofNat x.nm.length :: x.nm) ++ (if x.k=3 then x.d else [])
 else if x.k=5 then x.d
 else if x.k=1\/x.k=2 then x.d ++ x.dat
 else if x.k=7 then stil ++ leB x.n.toNat 8
 else leB x.n.toNat 4 ++ leB x.z.toNat 4
structure RcG (x:Rc):Prop where
 d:x.d.length=32
 rg:rgR x=0
 sq:x.sq < 18446744073709551616
theorem rg_k {x:Rc} (h:rgR x=0):1<=x.k/\x.k<=8:=by
 unfold rgR at h
 split at h
 ·cases h
 ·omega
theorem rg_dat {x:Rc} (h:rgR x=0) (hk:x.k=1\/x.k=2):x.dat.length<=65504:=by
 have:=rg_k h
 unfold rgR at h
 rw [if_neg (by omega)] at h
 by_cases g:x.k<=2/\x.dat.length > 65504
 ·rw [if_pos g] at h; cases h
 ·omega
theorem rg_nm {x:Rc} (h:rgR x=0) (hk:x.k=3\/x.k=4):TagP ⟨x.nm.toArray⟩:=by
 have:=rg_k h
 unfold rgR at h
 rw [if_neg (by omega),if_neg (by omega)] at h
 by_cases g:TagP ⟨x.nm.toArray⟩
 ·exact g
 ·rw [if_pos ⟨hk,g⟩] at h; cases h
theorem rg_nz {x:Rc} (h:rgR x=0) (hk:x.k=6\/x.k=8):0<=x.n/\x.n<=4294967295/\0<=x.z/\x.z<=4294967295:=by
 have:=rg_k h
 unfold rgR at h
 rw [if_neg (by omega),if_neg (by omega),if_neg (by omega)] at h
 by_cases g:(x.k=6\/x.k=8)/\(x.n < 0\/x.n > 4294967295\/x.z < 0\/x.z > 4294967295)
 ·rw [if_pos g] at h; cases h
 ·exact ⟨Decidable.byContradiction fun q=>g ⟨hk,.inl (by omega)⟩,Decidable.byContradiction fun q=>g ⟨hk,.inr (.inl (by omega))⟩,Decidable.byContradiction fun q=>g ⟨hk,.inr (.inr (.inl (by omega)))⟩,Decidable.byContradiction fun q=>g ⟨hk,.inr (.inr (.inr (by omega)))⟩⟩
theorem rg_n {x:Rc} (h:rgR x=0) (hk:x.k=7):1<=x.n/\x.n<=99999999:=by
 have:=rg_k h
 unfold rgR at h
 rw [if_neg (by omega),if_neg (by omega),if_neg (by omega),if_neg (by omega)] at h
 by_cases g:x.k=7/\(x.n < 1\/x.n > 99999999)
 ·rw [if_pos g] at h; cases h
 ·exact ⟨Decidable.byContradiction fun q=>g ⟨hk,.inl (by omega)⟩,Decidable.byContradiction fun q=>g ⟨hk,.inr (by omega)⟩⟩
theorem da_len {x:Rc} (hd:x.d.length=32) (hr:rgR x=0):(daW x).length<=65536:=by
 unfold daW
 split
 ·rename_i h
  have ht:=(rg_nm hr h).2.2
  have hsz:(⟨x.nm.toArray⟩:ByteArray).size=x.nm.length:=List.size_toArray
  rw [hsz] at ht
  rw [List.length_append,List.length_cons]
  split
  ·omega
  ·show _+0<=_; omega
 ·split
  ·omega
  ·split
   ·rename_i h
    have:=rg_dat hr h
    rw [List.length_append]; omega
   ·split
    ·rw [List.length_append,leB_len]; decide
    ·rw [List.length_append,leB_len,leB_len]; decide
set_option maxHeartbeats 2000000 in
theorem bdata_calls (x:Rc) (A:Option Addr) (n c:Nat) (w:World) (hd:x.d.length=32) (hr:rgR x=0) (hD:Sl w 1 A n (x.dat.map bv)) :
  Calls Tryz.prog 37 #[ofL (rcC x A n c)] w fun e w'=>∃ A' c',e=.returned (.slice A' (daW x).length c')/\RB w w' A' (daW x).length c' (daW x):=by
 refine (F37.of _ w (Q:=fun v w'=>∃ A' c',v=.slice A' (daW x).length c'/\RB w w' A' (daW x).length c' (daW x)) ?_).mono (fun e w' ⟨v,he,A',c',hv,h⟩=>⟨A',c',by rw [he,hv],h⟩)
 have hk:=rg_k hr
 have hn:=sl_len hD
 refine rec_new (fun b1 w2 f1 hb1 r1=>⟨_,r1.cell (o:=0) (v:=.int .i64 x.k) rfl,?_⟩)
 have sd:∀ {u:World},RecAt u b1 71 (rcC x A n c)->Sl u 1 (some ⟨b1,0+2,none⟩) 32 (x.d.map bv):=fun hu=>⟨by rw [List.length_map,hd],fun _=>⟨b1,0+2,rfl,hu.cells (o:=2) (fun j v hj=>rcC_d hd A n c j v hj)⟩⟩
 have k12:∀ (u:World) (A1:Option Addr) (n1 c1:Nat) (l:List UInt8),RB w u A1 n1 c1 l->RecAt u b1 71 (rcC x A n c)->n1<=1000->l ++ x.d=daW x->jnC (F37.k12 (fun v w'=>∃ A' c',v=.slice A' (daW x).length c'/\RB w w' A' (daW x).length c' (daW x))) ((b1,0),(A1,n1,c1),()) u:=by
  intro u A1 n1 c1 l hu ru h1 hl
  refine jnC_mk (fun _=>appB_mk hu (sd ru) (by show n1+32<=1099511627776; omega) (fun A2 c2 w2 h2=>?_))
  rw [hl] at h2
  have:=h2.len
  rw [<- this] at h2 ⊢
  exact ⟨A2,c2,rfl,h2⟩
 have k9:x.k=3\/x.k=4->jnC (F37.k9 (fun v w'=>∃ A' c',v=.slice A' (daW x).length c'/\RB w w' A' (daW x).length c' (daW x))) ((b1,0),(none,0,0),()) w2:=by
  intro h
  have ht:=(rg_nm hr h).2.2
  have hsz:(⟨x.nm.toArray⟩:ByteArray).size=x.nm.length:=List.size_toArray
  rw [hsz] at ht
  refine jnC_mk (fun _=>⟨_,r1.cell (o:=34) (rc_name hd A n c),(fptext_calls none 0 0 [] x.nm w2 (Sl.nil _ _ _) (by omega) (by omega)).mono ?_⟩)
  rintro e w4 ⟨A4,c4,rfl,h4⟩
  have hw4:=h4.le f1
  have r4:=r1.fr h4.1 (fun h=>h)
  refine ⟨A4,_,c4,true,rfl,_,r4.cell (o:=0) (v:=.int .i64 x.k) rfl,vIf_mk (fun g=>?_) (fun g=>k12 w4 A4 _ c4 _ hw4 r4 (by omega) ?_)⟩
  ·have g:x.k=4:=by simpa using g
   have e1:[] ++ (UInt8.ofNat x.nm.length :: x.nm)=daW x:=by
    unfold daW
    rw [if_pos (.inr g),if_neg (by omega),List.append_nil]; rfl
   rw [e1] at hw4
   have:=hw4.len
   rw [<- this] at hw4 ⊢
   exact ⟨A4,c4,rfl,hw4⟩
  ·have g:¬ x.k=4:=by simpa using g
   unfold daW
   rw [if_pos h,if_pos (by omega)]; rfl
 have k5:¬ (x.k=3\/x.k=4)->jnC (F37.k5 (fun v w'=>∃ A' c',v=.slice A' (daW x).length c'/\RB w w' A' (daW x).length c' (daW x))) ((b1,0),(none,0,0),x.k,()) w2:=by
  intro h
  have k13:x.k=1\/x.k=2->jnC (F37.k13 (fun v w'=>∃ A' c',v=.slice A' (daW x).length c'/\RB w w' A' (daW x).length c' (daW x))) ((b1,0),()) w2:=by
   intro h12
   have hdl:=rg_dat hr h12
   have fd:Fr (fun _=>False) w2 w2.drew:=Fr.drew _ _
   have rd:=r1.fr fd (fun h=>h)
   refine jnC_mk (fun _=>⟨_,_,_,rd.cell (o:=35) (rc_data hd A n c),rec_new (fun b4 w4 f4 hb4 r4=>?_)⟩)
   have r14:=rd.fr f4 (fun h=>h)
   have f14:=(f1.trans1 fd).trans1 f4
   refine (concat_calls _ 2 2 [Value.slice (some ⟨b1,0+2,none⟩) 32 32,Value.slice A n c] [x.d,x.dat] w4 ⟨rfl,fun _=>⟨b4,0,rfl,rec_all r4⟩⟩ rfl (fun i l hi=>?_) (by simp; omega) (by omega)).mono ?_
   ·match i,hi with
    | 0,hi=>simp at hi; subst hi; exact ⟨_,32,32,rfl,sd r14⟩
    | 1,hi=>simp at hi; subst hi; exact ⟨A,n,c,rfl,f14.sl hD (fun _ _ _ h=>h)⟩
    | i+2,hi=>simp at hi
   ·rintro e w5 ⟨f5,A5,c5,rfl,h5⟩
    have e1:[x.d,x.dat].flatten=daW x:=by
     unfold daW
     rw [if_neg h,if_neg (by omega),if_pos h12]; simp
    rw [e1] at h5 ⊢
    exact ⟨A5,_,c5,rfl,A5,c5,rfl,RB.le ⟨f5,h5⟩ f14⟩
  have k14:x.k=7->jnC (F37.k14 (fun v w'=>∃ A' c',v=.slice A' (daW x).length c'/\RB w w' A' (daW x).length c' (daW x))) ((b1,0),()) w2:=by
   intro h7
   have hnn:=rg_n hr h7
   obtain ⟨m,hm⟩:∃ m:Nat,x.n=(m:Int):=⟨x.n.toNat,by omega⟩
   refine jnC_mk (fun _=>rec_new (fun b4 w4 f4 hb4 r4=>mkS_mk r4 (fun w5 f5 hc=>?_)))
   have hb4':w2.heap.size<=b4:=hb4
   have lt1:=r1.lt
   have r15:RecAt w5 b1 71 (rcC x A n c):=(r1.fr f4 (fun h=>h)).fr f5 (fun h=>by have h:b1=b4:=h; omega)
   have f15:Fr (fun _=>False) w w5:=(f1.trans1 f4).trans f5 (fun _ _ h=>h) (fun k hk h=>by have h:k=b4:=h; have:=f1.size; omega)
   have hs:Sl w5 1 (some ⟨b4,0,none⟩) 8 (stil.map bv):=⟨rfl,fun _=>⟨b4,0,rfl,fun j v hj=>by
    rw [hc]
    exact r4.cell (by rw [Nat.zero_add]; exact hj)⟩⟩
   refine ⟨_,r15.cell (o:=36) (rc_n hd A n c),?_⟩
   rw [hm]
   dsimp only
   rw [u64_id (n:=((m:Nat):Int)) (by omega) (by omega)]
   refine (fput_calls _ 8 8 stil m 8 w5 hs (by omega) (by omega) (by omega) (by omega)).mono ?_
   rintro e w6 ⟨A6,c6,rfl,h6⟩
   have e1:stil ++ leB m 8=daW x:=by
    unfold daW
    rw [if_neg h,if_neg (by omega),if_neg (by omega),if_pos h7,hm,Int.toNat_natCast]
   rw [e1] at h6
   have:=h6.len
   rw [<- this] at h6 ⊢
   exact ⟨A6,_,c6,rfl,A6,c6,rfl,h6.le f15⟩
  have k15:x.k=6\/x.k=8->jnC (F37.k15 (fun v w'=>∃ A' c',v=.slice A' (daW x).length c'/\RB w w' A' (daW x).length c' (daW x))) ((b1,0),(none,0,0),()) w2:=by
   intro h68
   have hnz:=rg_nz hr h68
   obtain ⟨m,hm⟩:∃ m:Nat,x.n=(m:Int):=⟨x.n.toNat,by omega⟩
   obtain ⟨z,hz⟩:∃ m:Nat,x.z=(m:Int):=⟨x.z.toNat,by omega⟩
   have fd:Fr (fun _=>False) w2 w2.drew:=Fr.drew _ _
   have rd:=r1.fr fd (fun h=>h)
   refine jnC_mk (fun _=>⟨_,rd.cell (o:=36) (rc_n hd A n c),_,rd.cell (o:=37) (rc_z hd A n c),?_⟩)
   rw [hm,hz]
   dsimp only
   rw [u64_id (n:=((m:Nat):Int)) (by omega) (by omega),u64_id (n:=((z:Nat):Int)) (by omega) (by omega)]
   refine (fput_calls none 0 0 [] m 4 w2.drew (Sl.nil _ _ _) (by omega) (by omega) (by omega) (by omega)).mono ?_
   rintro e w4 ⟨A4,c4,rfl,h4⟩
   refine ⟨A4,_,c4,rfl,kp_mk h4.1 rd.lt (fun h=>h) ((fput_calls A4 _ c4 _ z 4 w4 h4.sl (by omega) (by omega) (by omega) (by omega)).mono ?_)⟩
   rintro e w6 ⟨A6,c6,rfl,h6⟩
   have e1:[] ++ leB m 4 ++ leB z 4=daW x:=by
    unfold daW
    rw [if_neg h,if_neg (by omega),if_neg (by omega),if_neg (by omega),hm,hz,Int.toNat_natCast,Int.toNat_natCast]; rfl
   rw [e1] at h6
   have:=h6.len
   rw [<- this] at h6 ⊢
   exact ⟨A6,_,c6,rfl,A6,c6,rfl,h6.le ((f1.trans1 fd).trans1 h4.1)⟩
  refine jnC_mk (fun _=>vIf_mk (fun g=>?_) (fun g=>vIf_mk (fun g1=>?_) (fun g1=>vIf_mk (fun g2=>?_) (fun g2=>vIf_mk (fun g3=>?_) (fun g3=>?_)))))
  ·have g:x.k=5:=by simpa using g
   refine k12 w2 none 0 0 [] ((RB.nil w).fr f1) r1 (by omega) ?_
   unfold daW
   rw [if_neg h,if_pos g]; rfl
  ·have g1:x.k=1:=by simpa using g1
   exact vIf_mk (fun _=>k13 (.inl g1)) (fun q=>absurd g1 (by simpa using q))
  ·have g2:x.k=2:=by simpa using g2
   exact k13 (.inr g2)
  ·have g3:x.k=7:=by simpa using g3
   exact k14 g3
  ·have g:¬ x.k=5:=by simpa using g
   have g1:¬ x.k=1:=by simpa using g1
   have g2:¬ x.k=2:=by simpa using g2
   have g3:¬ x.k=7:=by simpa using g3
   exact k15 (by omega)
 refine vIf_mk (fun g=>?_) (fun g=>vIf_mk (fun g4=>k9 (.inr (by simpa using g4))) (fun g4=>k5 ?_))
 ·have g:x.k=3:=by simpa using g
  exact vIf_mk (fun _=>k9 (.inl g)) (fun q=>absurd g (by simpa using q))
 ·have g:¬ x.k=3:=by simpa using g
  have g4:¬ x.k=4:=by simpa using g4
  omega
def mkW (x:Rc):List UInt8:=mkF x.k.toNat x.sq (daW x)
theorem mkW_len (x:Rc):(mkW x).length=21+(daW x).length:=mkF_len _ _ _
theorem bmake_calls (x:Rc) (A:Option Addr) (n c:Nat) (w:World) (h:RcG x) (hm:x.nm.length<=1099511627775) (hD:Sl w 1 A n (x.dat.map bv)) :
  Calls Tryz.prog 33 #[ofL (rcC x A n c)] w fun e w'=>∃ A' c',e=.returned (.tuple #[.slice A' (mkW x).length c',.int .i64 0])/\RB w w' A' (mkW x).length c' (mkW x):=by
 refine (F33.of _ w (Q:=fun v w'=>∃ A' c',v=.tuple #[.slice A' (mkW x).length c',.int .i64 0]/\RB w w' A' (mkW x).length c' (mkW x)) ?_).mono (fun e w' ⟨v,he,A',c',hv,h⟩=>⟨A',c',by rw [he,hv],h⟩)
 have hk:=rg_k h.rg
 have hn:=(sl_len hD).symm
 refine rec_new (fun b1 w2 f1 hb1 r1=>⟨_,rcC_len h.d _ _ _,rec_all r1,(rgt_calls x A n c w2 h.d hn hm).mono ?_⟩)
 rintro e w4 ⟨rfl,f4⟩
 refine ⟨_,rfl,vIf_mk (fun g=>?_) (fun g=>?_)⟩
 ·rw [h.rg] at g; cases g
 have fd:Fr (fun _=>False) w4 w4.drew:=Fr.drew _ _
 have r4:=(r1.fr f4 (fun h=>h)).fr fd (fun h=>h)
 have f04:=(f1.trans1 f4).trans1 fd
 refine ⟨_,r4.cell (o:=0) (rc_k _ _ _),_,r4.cell (o:=1) (rc_sq _ _ _),_,rcC_len h.d _ _ _,rec_all r4,(bdata_calls x A n c w4.drew h.d h.rg (f04.sl hD (fun _ _ _ h=>h))).mono ?_⟩
 rintro e w14 ⟨A1,c1,rfl,h1⟩
 have hl:=da_len h.d h.rg
 have e8:x.k=((x.k.toNat:Nat):Int):=by omega
 refine ⟨A1,_,c1,rfl,kp_mk h1.1 r4.lt (fun h=>h) (kp_mk h1.1 r4.lt (fun h=>h) ?_)⟩
 rw [e8]
 refine (fmake_calls x.k.toNat x.sq A1 (daW x).length c1 (daW x) w14 h1.sl (by omega) (by omega) h.sq).mono ?_
 rintro e w19 ⟨A2,c2,rfl,h2⟩
 exact ⟨A2,_,c2,rfl,A2,c2,by rw [mkW_len],by rw [mkW_len]; exact (h2.le h1.1).le f04⟩
def szW (x:Rc):Nat:=if rgR x=0 then (mkW x).length else 0
theorem bsize_calls (x:Rc) (A:Option Addr) (n c:Nat) (w:World) (hd:x.d.length=32) (hm:x.nm.length<=1099511627775) (hD:Sl w 1 A n (x.dat.map bv)) :
  Calls Tryz.prog 20 #[ofL (rcC x A n c)] w fun e w'=>e=.returned (.int .i64 (szW x:Nat))/\Fr (fun _=>False) w w':=by
 refine (F20.of _ w (Q:=fun v w'=>v=.int .i64 (szW x:Nat)/\Fr (fun _=>False) w w') ?_).mono (fun e w' ⟨v,he,hv,h⟩=>⟨by rw [he,hv],h⟩)
 have hn:=(sl_len hD).symm
 refine rec_new (fun b1 w2 f1 hb1 r1=>⟨_,rcC_len hd _ _ _,rec_all r1,(rgt_calls x A n c w2 hd hn hm).mono ?_⟩)
 rintro e w4 ⟨rfl,f4⟩
 refine ⟨_,rfl,vIf_mk (fun g=>?_) (fun g=>?_)⟩
 ·have g:¬ rgR x=0:=by simpa using g
  exact ⟨by unfold szW; rw [if_neg g]; rfl,f1.trans1 f4⟩
 ·have g:rgR x=0:=by simpa using g
  have hl:=da_len hd g
  have r4:=r1.fr f4 (fun h=>h)
  have f04:=f1.trans1 f4
  refine ⟨_,rcC_len hd _ _ _,rec_all r4,(bdata_calls x A n c w4 hd g (f04.sl hD (fun _ _ _ h=>h))).mono ?_⟩
  rintro e w14 ⟨A1,c1,rfl,h1⟩
  refine ⟨A1,_,c1,rfl,(fsize_calls _ w14 (by omega)).mono ?_⟩
  rintro e w15 ⟨rfl,rfl⟩
  exact ⟨_,rfl,by unfold szW; rw [if_pos g,mkW_len],f04.trans1 h1.1⟩
def hdR (n q:Nat):Rc:=⟨7,q,z32,[],[],n,0⟩
def ftR (n z q:Nat):Rc:=⟨8,q,z32,[],[],n,z⟩
def cmR (n z q:Nat):Rc:=⟨6,q,z32,[],[],n,z⟩
theorem rg_hd {n q:Nat} (h1:1<=n) (h2:n<=99999999):rgR (hdR n q)=0:=by
 unfold rgR hdR
 rw [if_neg (by dsimp only; omega),if_neg (by dsimp only; omega),if_neg (by dsimp only; omega),if_neg (by dsimp only; omega),if_neg (by dsimp only; omega)]
theorem rg_ft {n z q:Nat} (h1:n<=4294967295) (h2:z<=4294967295):rgR (ftR n z q)=0:=by
 unfold rgR ftR
 rw [if_neg (by dsimp only; omega),if_neg (by dsimp only; omega),if_neg (by dsimp only; omega),if_neg (by dsimp only; omega),if_neg (by dsimp only; omega)]
theorem rg_cm {n z q:Nat} (h1:n<=4294967295) (h2:z<=4294967295):rgR (cmR n z q)=0:=by
 unfold rgR cmR
 rw [if_neg (by dsimp only; omega),if_neg (by dsimp only; omega),if_neg (by dsimp only; omega),if_neg (by dsimp only; omega),if_neg (by dsimp only; omega)]
theorem head_calls (n q:Nat) (w:World) (h1:1<=n) (h2:n<=99999999) (hq:q < 18446744073709551616) :
  Calls Tryz.prog 61 #[.int .i64 (n:Nat),.int .u64 (q:Nat)] w fun e w'=>∃ A' c',e=.returned (.slice A' (mkW (hdR n q)).length c')/\RB w w' A' (mkW (hdR n q)).length c' (mkW (hdR n q)):=by
 refine (F61.of (n:Nat) (q:Nat) w (Q:=fun v w'=>∃ A' c',v=.slice A' (mkW (hdR n q)).length c'/\RB w w' A' (mkW (hdR n q)).length c' (mkW (hdR n q))) ?_).mono (fun e w' ⟨v,he,A',c',hv,h⟩=>⟨A',c',by rw [he,hv],h⟩)
 refine (bmake_calls (hdR n q) none 0 0 w ⟨z32_len,rg_hd h1 h2,hq⟩ (Nat.zero_le _) (Sl.nil _ _ _)).mono ?_
 rintro e w1 ⟨A1,c1,rfl,h⟩
 exact ⟨A1,_,c1,_,rfl,A1,c1,rfl,h⟩
theorem foot_calls (n z q:Nat) (w:World) (h1:n<=4294967295) (h2:z<=4294967295) (hq:q < 18446744073709551616) :
  Calls Tryz.prog 25 #[.int .i64 (n:Nat),.int .i64 (z:Nat),.int .u64 (q:Nat)] w fun e w'=>∃ A' c',e=.returned (.slice A' (mkW (ftR n z q)).length c')/\RB w w' A' (mkW (ftR n z q)).length c' (mkW (ftR n z q)):=by
 refine (F25.of (n:Nat) (z:Nat) (q:Nat) w (Q:=fun v w'=>∃ A' c',v=.slice A' (mkW (ftR n z q)).length c'/\RB w w' A' (mkW (ftR n z q)).length c' (mkW (ftR n z q))) ?_).mono (fun e w' ⟨v,he,A',c',hv,h⟩=>⟨A',c',by rw [he,hv],h⟩)
 refine (bmake_calls (ftR n z q) none 0 0 w ⟨z32_len,rg_ft h1 h2,hq⟩ (Nat.zero_le _) (Sl.nil _ _ _)).mono ?_
 rintro e w1 ⟨A1,c1,rfl,h⟩
 exact ⟨A1,_,c1,_,rfl,A1,c1,rfl,h⟩
def RcE (O:Nat->Prop) (w:World) (cs:List Value) (x:Rc):Prop:=∃ (A:Option Addr) (n c:Nat),cs=rcC x A n c/\Sl w 1 A n (x.dat.map bv)/\n<=c/\(n ≠ 0->∀ k,blkOf A=some k->O k)/\x.d.length=32/\x.nm.length<=1099511627775/\x.dat.length<=1099511627775
theorem RcE.fr {O S:Nat->Prop} {w w':World} {cs:List Value} {x:Rc} (h:RcE O w cs x) (f:Fr S w w') (hS:∀ k,S k->¬ O k):RcE O w' cs x:=by
 obtain ⟨A,n,c,e,h1,h2,h3,h4⟩:=h
 exact ⟨A,n,c,e,f.sl h1 (fun h0 k hk hs=>hS k hs (h3 h0 k hk)),h2,h3,h4⟩
theorem RcE.mono {O O':Nat->Prop} {w:World} {cs:List Value} {x:Rc} (h:RcE O w cs x) (hO:∀ k,k < w.heap.size->O k->O' k):RcE O' w cs x:=by
 obtain ⟨A,n,c,e,h1,h2,h3,h4⟩:=h
 exact ⟨A,n,c,e,h1,h2,fun h0 k hk=>hO k (h1.blt (by omega) h0 hk) (h3 h0 k hk),h4⟩
theorem RcE.len {O:Nat->Prop} {w:World} {cs:List Value} {x:Rc} (h:RcE O w cs x):cs.length=38/\∀ v ∈ cs,v.oneCell'=true:=by
 obtain ⟨A,n,c,rfl,h1,h2,h3,h4,_⟩:=h
 exact ⟨rcC_len h4 _ _ _,rcC_one _ _ _ _⟩
structure RSl (O:Nat->Prop) (w:World) (A:Option Addr) (n:Nat) (l:List Rc):Prop where
 ex:∃ vs,Sl w 38 A n vs/\Ech 38 (RcE O w) vs l
 len:l.length=n
 o:n ≠ 0->∀ k,blkOf A=some k->O k
theorem RSl.fr {O S:Nat->Prop} {w w':World} {A:Option Addr} {n:Nat} {l:List Rc} (h:RSl O w A n l) (f:Fr S w w') (hS:∀ k,S k->¬ O k):RSl O w' A n l:=by
 obtain ⟨⟨vs,h1,h2⟩,h3,h4⟩:=h
 exact ⟨⟨vs,f.sl h1 (fun h0 k hk hs=>hS k hs (h4 h0 k hk)),h2.mono (fun cs x hx=>hx.fr f hS)⟩,h3,h4⟩
theorem RSl.fr0 {O:Nat->Prop} {w w':World} {A:Option Addr} {n:Nat} {l:List Rc} (h:RSl O w A n l) (f:Fr (fun _=>False) w w'):RSl O w' A n l:=h.fr f (fun _ h=>h.elim)
theorem rs_all {O:Nat->Prop} {w:World} {A:Option Addr} {n:Nat} {l:List Rc} (h:RSl O w A n l) {i:Nat} {x:Rc} (hi:l[i]?=some x) {K:List Value->Prop} (hK:∀ cs,RcE O w cs x->K cs) :
  dr A fun b o=>gd (decide (0<=(i:Int))) (gd (decide ((i:Int) < ((n:Nat):Int))) (ldA 38 w b (o+((i:Int)).toNat * 38) K)):=by
 obtain ⟨⟨vs,h1,h2⟩,h3,_⟩:=h
 have:=(List.getElem?_eq_some_iff.1 hi).1
 exact el_all h1 h2 (by omega) hi (by omega) (fun cs _ hx=>hK cs hx)
def wrB (l:List Rc):Int :=
 if l=[] then 2
 else if ∃ x ∈ l,x.k < 1\/x.k > 5 then 2
 else match l.find? (fun x=>decide (rgR x ≠ 0)) with
  | some x=>rgR x
  | none=>0
theorem wrB_0 {l:List Rc} (h:wrB l=0):l ≠ []/\∀ x ∈ l,(1<=x.k/\x.k<=5)/\rgR x=0:=by
 unfold wrB at h
 split at h
 ·cases h
 ·rename_i h1
  split at h
  ·cases h
  ·rename_i h2
   split at h
   ·rename_i x hx
    have:=List.find?_some hx
    simp at this
    exact absurd h this
   ·rename_i hx
    refine ⟨h1,fun x hm=>⟨?_,?_⟩⟩
    ·exact ⟨Decidable.byContradiction fun q=>h2 ⟨x,hm,.inl (by omega)⟩,Decidable.byContradiction fun q=>h2 ⟨x,hm,.inr (by omega)⟩⟩
    ·have:=List.find?_eq_none.1 hx x hm
     simpa using this
theorem wrB_of {l:List Rc} (h:l ≠ []) (h1:∀ x ∈ l,(1<=x.k/\x.k<=5)/\rgR x=0):wrB l=0:=by
 unfold wrB
 rw [if_neg h,if_neg (by rintro ⟨x,hm,q⟩; have:=(h1 x hm).1; omega)]
 have:l.find? (fun x=>decide (rgR x ≠ 0))=none:=List.find?_eq_none.2 (fun x hm=>by simp [(h1 x hm).2])
 rw [this]
theorem find_at {l:List Rc} {i:Nat} {x:Rc} (hi:l[i]?=some x) (hx:rgR x ≠ 0) (hb:∀ j y,j < i->l[j]?=some y->rgR y=0):l.find? (fun x=>decide (rgR x ≠ 0))=some x:=by
 have e:l=l.take i ++ (x :: l.drop (i+1)):=by
  obtain ⟨h1,h2⟩:=List.getElem?_eq_some_iff.1 hi
  rw [<- h2,<- List.drop_eq_getElem_cons h1,List.take_append_drop]
 rw [e,List.find?_append]
 have:(l.take i).find? (fun x=>decide (rgR x ≠ 0))=none:=List.find?_eq_none.2 (fun y hm=>by
  obtain ⟨j,hj⟩:=List.mem_iff_getElem?.1 hm
  rw [List.getElem?_take] at hj
  split at hj
  ·rename_i hji
   simp [hb j y hji hj]
  ·cases hj)
 rw [this]
 simp [hx]
theorem rcv_mk {O:Nat->Prop} {w:World} {cs:List Value} {x:Rc} (h:RcE O w cs x) {K:Nat->World->Prop} (hK:∀ b w',Fr (fun _=>False) w w'->w.heap.size<=b->RecAt w' b 71 cs->K b w') :
  nw w Z71 71 fun b w1=>gd (cs.length == 38) (st w1 b 0 cs fun w2=>K b w2) :=
 var_new (sz:=38) rfl h.len.1 h.len.2 hK
set_option maxHeartbeats 1000000 in
theorem bwrong_calls (O:Nat->Prop) (A:Option Addr) (n c:Nat) (l:List Rc) (w:World) (h:RSl O w A n l) (hn:n<=1099511627776) :
  Calls Tryz.prog 32 #[.slice A n c] w fun e w'=>e=.returned (.int .i64 (wrB l))/\Fr (fun _=>False) w w':=by
 refine (F32.of A n c w (Q:=fun v w'=>v=.int .i64 (wrB l)/\Fr (fun _=>False) w w') ?_).mono (fun e w' ⟨v,he,hv,h⟩=>⟨by rw [he,hv],h⟩)
 have hl:=h.len
 refine vIf_mk (fun h0=>?_) (fun h0=>?_)
 ·have h0:(n:Int)=0:=by simpa using h0
  have:l=[]:=List.length_eq_zero_iff.1 (by omega)
  subst this
  exact ⟨rfl,Fr.refl _ _⟩
 have h0:¬ (n:Int)=0:=by simpa using h0
 have hne:l ≠ []:=fun e=>by rw [e] at hl; simp at hl; omega
 refine jnC_mk (loop_rule (fun s u=>Fr (fun _=>False) w u/\∃ i:Nat,i<=n/\s=((A,n,c),(A,n,c),(n:Int),(i:Int),())/\∀ j x,j < i->l[j]?=some x->1<=x.k/\x.k<=5) (fun s _=>(n - s.2.2.2.1).toNat) ?_ _ _ ⟨Fr.refl _ _,0,by omega,rfl,fun j x hj=>by omega⟩)
 rintro s u C ⟨fu,i,hi,rfl,hlo⟩ hC _
 refine vIf_mk (fun hlt=>?_) (fun hge=>?_)
 ·have hlt:(i:Int) < (n:Int):=of_decide_eq_true hlt
  have gi:l[i]?=some (l[i]'(by omega)):=List.getElem?_eq_getElem (by omega)
  generalize l[i]'(by omega)=x at gi
  refine rs_all (h.fr0 fu) gi (fun cs hx=>rcv_mk hx (fun b4 w6 f6 hb4 r4=>?_))
  obtain ⟨A1,n1,c1,rfl,_⟩:=hx
  refine ⟨_,r4.cell (o:=0) (rc_k _ _ _),(may_calls x.k w6).mono ?_⟩
  rintro e w8 ⟨rfl,rfl⟩
  refine ⟨_,rfl,vIf_mk (fun g=>⟨?_,fu.trans1 f6⟩) (fun g=>jnC_mk (hC _ _ ⟨fu.trans1 f6,i+1,by omega,?_,fun j y hj hy=>?_⟩ ?_))⟩
  ·have g:¬ (1<=x.k/\x.k<=5):=fun q=>by rw [decide_eq_true q] at g; cases g
   unfold wrB
   rw [if_neg hne,if_pos ⟨x,List.mem_of_getElem? gi,by omega⟩]
  ·show ((A,n,c),(A,n,c),(n:Int),IntKind.wrap .i64 ((i:Int)+1),())=_
   rw [i64_id (by omega) (by omega)]; rfl
  ·have g:1<=x.k/\x.k<=5:=by simpa using g
   by_cases hji:j=i
   ·subst hji
    rw [gi] at hy
    injection hy with hy
    rw [<- hy]; exact g
   ·exact hlo j y (by omega) hy
  ·show ((n:Int) - IntKind.wrap .i64 ((i:Int)+1)).toNat < ((n:Int) - (i:Int)).toNat
   rw [i64_id (by omega) (by omega)]; omega
 ·have hge:¬ (i:Int) < (n:Int):=of_decide_eq_false hge
  have hall:¬ ∃ x ∈ l,x.k < 1\/x.k > 5:=by
   rintro ⟨x,hm,q⟩
   obtain ⟨j,hj⟩:=List.mem_iff_getElem?.1 hm
   have:=(List.getElem?_eq_some_iff.1 hj).1
   have:=hlo j x (by omega) hj
   omega
  refine jnC_mk (loop_rule (fun s u=>Fr (fun _=>False) w u/\∃ i:Nat,i<=n/\s=((A,n,c),(n:Int),(i:Int),())/\∀ j x,j < i->l[j]?=some x->rgR x=0) (fun s _=>(n - s.2.2.1).toNat) ?_ _ _ ⟨fu,0,by omega,rfl,fun j x hj=>by omega⟩)
  rintro s u C ⟨fu,i,hi,rfl,hlo2⟩ hC _
  refine vIf_mk (fun hlt=>?_) (fun hge=>⟨?_,fu⟩)
  ·have hlt:(i:Int) < (n:Int):=of_decide_eq_true hlt
   have gi:l[i]?=some (l[i]'(by omega)):=List.getElem?_eq_getElem (by omega)
   generalize l[i]'(by omega)=x at gi
   refine rs_all (h.fr0 fu) gi (fun cs hx=>rcv_mk hx (fun b4 w6 f6 hb4 r4=>?_))
   obtain ⟨A1,n1,c1,rfl,x1,x2,x3,x4,x5,x6⟩:=hx
   refine ⟨_,rcC_len x4 _ _ _,rec_all r4,(rgt_calls x A1 n1 c1 w6 x4 (sl_len x1).symm x5).mono ?_⟩
   rintro e w8 ⟨rfl,f8⟩
   have fu8:=(fu.trans1 f6).trans1 f8
   refine ⟨_,rfl,vIf_mk (fun g=>⟨?_,fu8⟩) (fun g=>jnC_mk (hC _ _ ⟨fu8,i+1,by omega,?_,fun j y hj hy=>?_⟩ ?_))⟩
   ·have g:¬ rgR x=0:=by simpa using g
    unfold wrB
    rw [if_neg hne,if_neg hall,find_at gi g hlo2]
   ·show ((A,n,c),(n:Int),IntKind.wrap .i64 ((i:Int)+1),())=_
    rw [i64_id (by omega) (by omega)]; rfl
   ·have g:rgR x=0:=by simpa using g
    by_cases hji:j=i
    ·subst hji
     rw [gi] at hy
     injection hy with hy
     rw [<- hy]; exact g
    ·exact hlo2 j y (by omega) hy
   ·show ((n:Int) - IntKind.wrap .i64 ((i:Int)+1)).toNat < ((n:Int) - (i:Int)).toNat
    rw [i64_id (by omega) (by omega)]; omega
  ·have hge:¬ (i:Int) < (n:Int):=of_decide_eq_false hge
   have hno:l.find? (fun x=>decide (rgR x ≠ 0))=none:=List.find?_eq_none.2 (fun x hm=>by
    obtain ⟨j,hj⟩:=List.mem_iff_getElem?.1 hm
    have:=(List.getElem?_eq_some_iff.1 hj).1
    simp [hlo2 j x (by omega) hj])
   unfold wrB
   rw [if_neg hne,if_neg hall,hno]
theorem commit_calls (n z q:Nat) (w:World):Calls Tryz.prog 34 #[.int .i64 (n:Nat),.int .i64 (z:Nat),.int .u64 (q:Nat)] w fun e w'=>e=.returned (ofL (rcC (cmR n z q) none 0 0))/\Fr (fun _=>False) w w':=by
 refine (F34.of (n:Nat) (z:Nat) (q:Nat) w (Q:=fun v w'=>v=ofL (rcC (cmR n z q) none 0 0)/\Fr (fun _=>False) w w') ?_).mono (fun e w' ⟨v,he,hv,h⟩=>⟨by rw [he,hv],h⟩)
 refine rec_new (fun b1 w2 f1 hb1 r1=>?_)
 exact ansN_mk (N:=38) (cs:=rcC (cmR n z q) none 0 0) (K:=fun a w1=>ofL a=ofL (rcC (cmR n z q) none 0 0)/\Fr (fun _=>False) w w1) r1 rfl (rcC_len z32_len _ _ _) (rcC_one _ _ _ _) (fun w' g=>⟨rfl,fr_var f1 hb1 g⟩)
def fmB:List Rc->Nat->List UInt8
 | [],_=>[]
 | x :: r,q=>mkW { x with sq:=q } ++ fmB r (q+1)
theorem fmB_snoc:∀ (l:List Rc) (x:Rc) (q:Nat),fmB (l ++ [x]) q=fmB l q ++ mkW { x with sq:=q+l.length }
 | [],x,q=>by simp [fmB]
 | y :: l,x,q=>by
  show mkW { y with sq:=q } ++ fmB (l ++ [x]) (q+1)=(mkW { y with sq:=q } ++ fmB l (q+1)) ++ _
  rw [fmB_snoc l x (q+1),List.append_assoc,List.length_cons,show q+1+l.length=q+(l.length+1) by omega]
def batB (l:List Rc) (q:Nat):List UInt8:=fmB l q ++ mkW (cmR l.length (fmB l q).length (q+l.length))
theorem mkW_le {x:Rc} (hd:x.d.length=32) (hr:rgR x=0):(mkW x).length<=65557:=by rw [mkW_len]; have:=da_len hd hr; omega
theorem fmB_le:∀ (l:List Rc) (q:Nat),(∀ x ∈ l,x.d.length=32/\rgR x=0)->(fmB l q).length<=l.length * 65557
 | [],q,_=>Nat.zero_le _
 | x :: l,q,h=>by
  have h1:=h x List.mem_cons_self
  have h2:=fmB_le l (q+1) (fun y hy=>h y (List.mem_cons_of_mem _ hy))
  have h3:=mkW_le (x:={ x with sq:=q }) h1.1 h1.2
  show (mkW { x with sq:=q } ++ fmB l (q+1)).length<=_
  rw [List.length_append,List.length_cons]; omega
def bmR (l:List Rc) (q:Nat):List UInt8×Nat×Int :=
 if wrB l ≠ 0 then ([],q,wrB l)
 else if l.length >= 18446744073709551615 - q then ([],q,20)
 else (batB l q,q+l.length+1,0)
set_option maxHeartbeats 2000000 in
theorem bmk_calls (O:Nat->Prop) (A:Option Addr) (n c q:Nat) (l:List Rc) (w:World) (h:RSl O w A n l) (hn:n<=60000) (hq:q < 18446744073709551616) :
  Calls Tryz.prog 19 #[.slice A n c,.int .u64 (q:Nat)] w fun e w'=>∃ A' c',e=.returned (.tuple #[.slice A' (bmR l q).1.length c',.int .u64 ((bmR l q).2.1:Nat),.int .i64 (bmR l q).2.2])/\RB w w' A' (bmR l q).1.length c' (bmR l q).1:=by
 refine (F19.of A n c (q:Nat) w (Q:=fun v w'=>∃ A' c',v=.tuple #[.slice A' (bmR l q).1.length c',.int .u64 ((bmR l q).2.1:Nat),.int .i64 (bmR l q).2.2]/\RB w w' A' (bmR l q).1.length c' (bmR l q).1) ?_).mono (fun e w' ⟨v,he,A',c',hv,h⟩=>⟨A',c',by rw [he,hv],h⟩)
 have hl:=h.len
 refine (bwrong_calls O A n c l w h (by omega)).mono ?_
 rintro e w1 ⟨rfl,f1⟩
 refine ⟨_,rfl,vIf_mk (fun g=>?_) (fun g=>?_)⟩
 ·have g:¬ wrB l=0:=by simpa using g
  have e1:bmR l q=([],q,wrB l):=if_pos g
  rw [e1]
  exact ⟨none,0,rfl,(RB.nil w).fr f1⟩
 have g:wrB l=0:=by simpa using g
 have hw:=wrB_0 g
 have e0:IntKind.wrap .u64 (18446744073709551615 - ((q:Nat):Int))=((18446744073709551615 - q:Nat):Int):=by rw [u64_id (by omega) (by omega)]; omega
 have e1:IntKind.wrap .u64 ((n:Nat):Int)=(n:Int):=u64_id (by omega) (by omega)
 rw [e0,e1]
 refine vIf_mk (fun g2=>?_) (fun g2=>?_)
 ·have g2:(n:Int) >= ((18446744073709551615 - q:Nat):Int):=of_decide_eq_true g2
  have e2:bmR l q=([],q,20):=by
   unfold bmR
   rw [if_neg (fun q=>q g),if_pos (by omega)]
  rw [e2]
  exact ⟨none,0,rfl,(RB.nil w).fr f1⟩
 have g2:¬ (n:Int) >= ((18446744073709551615 - q:Nat):Int):=of_decide_eq_false g2
 have e2:bmR l q=(batB l q,q+l.length+1,0):=by
  unfold bmR
  rw [if_neg (fun q=>q g),if_neg (by omega)]
 rw [e2]
 dsimp only
 have h1:=h.fr0 f1
 refine jnC_mk (loop_rule (fun s u=>∃ (i:Nat) (A1:Option Addr) (c1:Nat),i<=n/\s=((A,n,c),(A1,(fmB (l.take i) q).length,c1),((q+i:Nat):Int),(A,n,c),(n:Int),(i:Int),())/\RB w u A1 (fmB (l.take i) q).length c1 (fmB (l.take i) q)) (fun s _=>(n - s.2.2.2.2.2.1).toNat) ?_ _ _ ⟨0,none,0,by omega,rfl,(RB.nil w).fr f1⟩)
 rintro s u C ⟨i,A1,c1,hi,rfl,hr⟩ hC _
 have hbd:∀ k,(fmB (l.take k) q).length<=n * 65557:=fun k=>by
  refine Nat.le_trans (fmB_le _ q (fun x hx=>?_)) (Nat.mul_le_mul_right _ (by rw [List.length_take]; omega))
  have hm:=List.mem_of_mem_take hx
  obtain ⟨j,hj⟩:=List.mem_iff_getElem?.1 hm
  obtain ⟨⟨vs,_,hE⟩,_⟩:=h
  obtain ⟨_,_,_,_,_,_,_,hd,_⟩:=hE j x hj
  exact ⟨hd,(hw.2 x hm).2⟩
 refine vIf_mk (fun hlt=>?_) (fun hge=>?_)
 ·have hlt:(i:Int) < (n:Int):=of_decide_eq_true hlt
  have gi:l[i]?=some (l[i]'(by omega)):=List.getElem?_eq_getElem (by omega)
  generalize l[i]'(by omega)=x at gi
  have hx2:=hw.2 x (List.mem_of_getElem? gi)
  refine rs_all (h.fr0 hr.1) gi (fun cs hx=>rcv_mk hx (fun b7 w9 f9 hb7 r7=>?_))
  obtain ⟨A2,n2,c2,rfl,x1,x2,x3,x4,x5,x6⟩:=hx
  refine r7.st_mk (o:=1) (by rw [rcC_len x4]; show 1+1<=38; omega) (fun v hv=>by simp at hv; subst hv; rfl) (fun q10 g10=>?_)
  have q10:RecAt (stB w9 b7 (0+1) [Value.int .u64 ((q+i:Nat):Int)]) b7 71 (rcC { x with sq:=q+i } A2 n2 c2):=q10
  have hu:u.heap.size<=b7:=hb7
  have g9:Fr (fun _=>False) u (stB w9 b7 (0+1) [Value.int .u64 ((q+i:Nat):Int)]):=f9.trans g10 (fun _ _ h=>h) (fun k hk h=>by have h:k=b7:=h; omega)
  have hD:=g9.sl x1 (fun _ _ _ h=>h)
  generalize stB w9 b7 (0+1) [Value.int .u64 ((q+i:Nat):Int)]=w10 at q10 g9 hD ⊢
  refine ⟨_,rcC_len (x:={ x with sq:=q+i }) x4 _ _ _,rec_all q10,(bmake_calls { x with sq:=q+i } A2 n2 c2 w10 ⟨x4,hx2.2,by show q+i < _; omega⟩ x5 hD).mono ?_⟩
  rintro e w12 ⟨A3,c3,rfl,h3⟩
  have hml:=mkW_le (x:={ x with sq:=q+i }) x4 hx2.2
  refine ⟨A3,_,c3,0,rfl,appB_mk (hr.fr (g9.trans1 h3.1)) h3.sl (by have:=hbd i; show (fmB (l.take i) q).length+_<=_; omega) (fun A4 c4 w4 h4=>jnC_mk (hC _ _ ⟨i+1,A4,c4,by omega,?_,?_⟩ ?_))⟩
  ·have e3:fmB (l.take (i+1)) q=fmB (l.take i) q ++ mkW { x with sq:=q+i }:=by
    rw [List.take_add_one,gi]
    show fmB (l.take i ++ [x]) q=_
    rw [fmB_snoc,List.length_take,Nat.min_eq_left (by omega)]
   rw [e3,List.length_append]
   show ((A,n,c),(A4,_,c4),IntKind.wrap .u64 (((q+i:Nat):Int)+1),(A,n,c),(n:Int),IntKind.wrap .i64 ((i:Int)+1),())=_
   rw [u64_id (by omega) (by omega),i64_id (by omega) (by omega)]; rfl
  ·have e3:fmB (l.take (i+1)) q=fmB (l.take i) q ++ mkW { x with sq:=q+i }:=by
    rw [List.take_add_one,gi]
    show fmB (l.take i ++ [x]) q=_
    rw [fmB_snoc,List.length_take,Nat.min_eq_left (by omega)]
   rw [e3,List.length_append]
   exact h4
  ·show ((n:Int) - IntKind.wrap .i64 ((i:Int)+1)).toNat < ((n:Int) - (i:Int)).toNat
   rw [i64_id (by omega) (by omega)]; omega
 ·have hge:¬ (i:Int) < (n:Int):=of_decide_eq_false hge
  have hin:i=n:=by omega
  have eT:l.take i=l:=List.take_of_length_le (by omega)
  rw [eT] at hr
  have hb1:=hbd i
  rw [eT] at hb1 ⊢
  subst hin
  refine (commit_calls i (fmB l q).length (q+i) u).mono ?_
  rintro e w3 ⟨rfl,f3⟩
  refine ⟨_,rfl,(bmake_calls (cmR i (fmB l q).length (q+i)) none 0 0 w3 ⟨z32_len,rg_cm (by omega) (by omega),by show q+i < _; omega⟩ (Nat.zero_le _) (Sl.nil _ _ _)).mono ?_⟩
  rintro e w4 ⟨A4,c4,rfl,h4⟩
  have hml:=mkW_le (x:=cmR i (fmB l q).length (q+i)) z32_len (rg_cm (by omega) (by omega))
  refine ⟨A4,_,c4,0,rfl,appB_mk (hr.fr (f3.trans1 h4.1)) h4.sl (by show (fmB l q).length+_<=_; omega) (fun A5 c5 w5 h5=>⟨A5,c5,?_,?_⟩)⟩
  ·unfold batB
   rw [List.length_append,hl]
   have e5:IntKind.wrap .u64 (((q+i:Nat):Int)+1)=((q+i+1:Nat):Int):=by rw [u64_id (by omega) (by omega)]; rfl
   show Value.tuple #[_,Value.int .u64 (IntKind.wrap .u64 (((q+i:Nat):Int)+1)),_]=_
   rw [e5]
  ·unfold batB
   rw [List.length_append,hl]
   exact h5
set_option maxRecDepth 100000 in
theorem callU_mk {g:Nat} {first cap:Array Value} {w:World} {K:Value->World->Prop} {fn:Func} {t:TypeId} (h1:Tryz.prog.funcs[g]?=some fn) (h2:fn.body.isSome=true) (h3:fn.resultTypes.toList=[t]) (h4:Tryz.prog.underlying t=some (.int .i64))
  (h:Calls Tryz.prog g (first.toList ++ ([] ++ cap.toList)).toArray w (fun e w'=>∃ x:Int,e=.returned (.int .i64 x)/\K (.int .i64 x) w')):vcCallU Tryz.prog (.func (.func g) first cap) [] w K:=by
 unfold vcCallU vcCallV vcCallF
 dsimp only
 rw [h1]
 dsimp only
 rw [h2]
 dsimp only
 rw [h3]
 refine h.mono fun e w' ⟨x,he,hk⟩=>?_
 unfold exVs exVs exV
 rw [h4]
 exact ⟨x,he,hk⟩
noncomputable abbrev opC (s:ByteArray) (d:Dk):Dk×Int:=powD d (fun d=>crD d s)
abbrev opA (s:ByteArray) (b:Bs) (d:Dk):Dk×Int:=powD d (fun d=>fileD d s (fun x=>appI x b))
abbrev opS (s:ByteArray) (d:Dk):Dk×Int:=powD d (fun d=>fileD d s (fun x=>(syncI x,0)))
abbrev opD (d:Dk):Dk×Int:=powD d sdD
theorem DkG.C {d:Dk} {N:Nat} (h:DkG d N) (s:ByteArray):DkG (opC s d).1 (N+1):=h.step (c:=⟨1,s,⟨#[]⟩,[],0⟩) (by show (0:Int)<=_; decide) (doD1 d s)
theorem DkG.A {d:Dk} {N:Nat} (h:DkG d N) (s:ByteArray) (b:Bs):DkG (opA s b d).1 (N+1):=h.step (c:=⟨2,s,⟨#[]⟩,b,0⟩) (by show (0:Int)<=_; decide) (doD2 d s b)
theorem DkG.S {d:Dk} {N:Nat} (h:DkG d N) (s:ByteArray):DkG (opS s d).1 (N+1):=h.step (c:=⟨4,s,⟨#[]⟩,[],0⟩) (by show (0:Int)<=_; decide) (doD4 d s)
theorem DkG.D {d:Dk} {N:Nat} (h:DkG d N):DkG (opD d).1 (N+1):=h.step (c:=⟨7,⟨#[]⟩,⟨#[]⟩,[],0⟩) (by show (0:Int)<=_; decide) (doD7 d)
def stp:List (Dk->Dk×Int)->Dk->Dk×Int
 | [],d=>(d,0)
 | f :: r,d=>if (f d).2=0 then stp r (f d).1 else f d
structure Lg where
 d:Dk
 sg:Int
 bt:Int
 c3:Int
 c4:Int
 c5:Int
 c6:Value
 ts:Int
 tz:Int
 tr:Int
 sl:Bool
 tq:Nat
 rs:List Rc
 de:Int
 e:Int
def lgC (db:Nat) (L:Lg) (A:Option Addr) (n c:Nat) (A2:Option Addr) (n2 c2:Nat):List Value :=
 [.pointer (some ⟨db,0,none⟩),.int .i64 L.sg,.int .i64 L.bt,.int .i64 L.c3,.int .i64 L.c4,.int .i64 L.c5,L.c6,.int .i64 L.ts,.int .i64 L.tz,.int .i64 L.tr,.bool L.sl,.int .u64 (L.tq:Nat),.slice A n c,.slice A2 n2 c2,.int .i64 L.de,.int .i64 L.e]
def byW (l:List Rc):List UInt8:=(l.map mkW).flatten
def LgO (P:Nat->Prop) (lb:Nat) (A A2:Option Addr):Nat->Prop:=fun k=>P k/\k ≠ lb/\blkOf A ≠ some k/\blkOf A2 ≠ some k
def LgR (P:Nat->Prop) (lb db r:Nat) (A A2:Option Addr):Nat->Prop:=fun k=>LgO P lb A A2 k/\k ≠ db/\k ≠ r
abbrev DkO (O:Nat->Prop) (w:World) (db r:Nat) (d:Dk):Prop:=@DkAt ⟨O⟩ w db r d
structure LgP (P:Nat->Prop) (w:World) (lb db r:Nat) (L:Lg) (A:Option Addr) (n c:Nat) (A2:Option Addr) (n2 c2:Nat) (vs:List Value):Prop where
 lg:RecAt w lb 63 (lgC db L A n c A2 n2 c2)
 one:L.c6.oneCell'=true
 row:Row w 0 71 38 A n c vs
 rcs:Ech 38 (RcE (LgR P lb db r A A2) w) vs L.rs
 len:L.rs.length=n
 byt:Row w 0 5 1 A2 n2 c2 ((byW L.rs).map bv)
 dk:DkO (LgO P lb A A2) w db r L.d
 new:∀ k,w.heap.size<=k->P k
 pl:P lb
 pd:P db/\P r
 ld:lb ≠ db/\lb ≠ r
 bA:∀ k,blkOf A=some k->P k/\k ≠ lb/\k ≠ db/\k ≠ r/\blkOf A2 ≠ some k
 bB:∀ k,blkOf A2=some k->P k/\k ≠ lb/\k ≠ db/\k ≠ r
def LgAt (P:Nat->Prop) (w:World) (lb db r:Nat) (L:Lg):Prop:=∃ A n c A2 n2 c2 vs,LgP P w lb db r L A n c A2 n2 c2 vs
theorem LgP.lt {P:Nat->Prop} {w:World} {lb db r:Nat} {L:Lg} {A:Option Addr} {n c:Nat} {A2:Option Addr} {n2 c2:Nat} {vs:List Value} (h:LgP P w lb db r L A n c A2 n2 c2 vs):lb < w.heap.size/\db < w.heap.size/\r < w.heap.size :=
 ⟨h.lg.lt,(@DkAt.lt ⟨LgO P lb A A2⟩ _ _ _ _ h.dk).1,(@DkAt.lt ⟨LgO P lb A A2⟩ _ _ _ _ h.dk).2⟩
theorem okA_to {O O':Nat->Prop} {w:World} {A:Option Addr} {n:Nat} (h:@OkA ⟨O⟩ w A n) (hn:∀ k,w.heap.size<=k->O' k) (hA:n ≠ 0->∀ k,blkOf A=some k->k < w.heap.size) (hO:∀ k,k < w.heap.size->O k->O' k):@OkA ⟨O'⟩ w A n :=
 ⟨hn,fun h0 k hk=>hO k (hA h0 k hk) (h.2 h0 k hk)⟩
theorem DkO.to {O O':Nat->Prop} {w:World} {db r:Nat} {d:Dk} (h:DkO O w db r d) (hn:∀ k,w.heap.size<=k->O' k) (hO:∀ k,k < w.heap.size->O k->O' k):DkO O' w db r d:=by
 obtain ⟨u,v,fz,lv,h1,h2,h3,h4⟩:=h
 refine ⟨u,v,fz,lv,h1,?_,?_,h4⟩
 ·obtain ⟨A,n,c,A',n',c',e,k1,k2,k3,k4,k5⟩:=h2
  exact ⟨A,n,c,A',n',c',e,k1,k2,k3,okA_to k4 hn (fun h0 k hk=>k1.1.blt (by omega) h0 hk) hO,okA_to k5 hn (fun h0 k hk=>k2.1.blt (by omega) h0 hk) hO⟩
 ·obtain ⟨g,k1,k2⟩:=h3
  refine ⟨g,k1,fun id=>?_⟩
  obtain ⟨cs,e,A,n,c,A',n',c',e2,q1,q2,q3,q4,q5,q6⟩:=k2 id
  obtain ⟨vs,s1,s2,s3⟩:=q3
  refine ⟨cs,e,A,n,c,A',n',c',e2,q1,q2,⟨vs,s1,s2,s3.mono (fun cs x hx=>?_)⟩,q4,okA_to q5 hn (fun h0 k hk=>q1.blt (by omega) h0 hk) hO,okA_to q6 hn (fun h0 k hk=>s1.blt (by omega) h0 hk) hO⟩
  obtain ⟨B,m,k,e3,t1,t2,t3⟩:=hx
  exact ⟨B,m,k,e3,t1,t2,okA_to t3 hn (fun h0 k hk=>t1.blt (by omega) h0 hk) hO⟩
theorem DkO.out {O S:Nat->Prop} {w w':World} {db r:Nat} {d:Dk} (h:DkO O w db r d) (f:Fr S w w') (h1:¬ S db) (h2:¬ S r) (hS:∀ k,S k->¬ O k):DkO O w' db r d :=
 @DkAt.fr ⟨O⟩ S w w' db r d h f h1 h2 (fun k hk hO=>absurd hO (hS k hk))
def CloOk (O:Nat->Prop) (db r:Nat) (Iv:World->Prop) (v:Value) (f:Dk->Dk×Int):Prop :=
 ∀ (u:World) (d:Dk) (N:Nat) (K:Value->World->Prop),Iv u->DkO O u db r d->DkG d N->N<=349524->(∀ u',Fr (DS db r) u u'->DkO O u' db r (f d).1->K (.int .i64 (f d).2) u')->vcCallU Tryz.prog v [] u K
theorem stp_drop {ops:List (Dk->Dk×Int)} {i:Nat} {f:Dk->Dk×Int} (h:ops[i]?=some f):ops.drop i=f :: ops.drop (i+1):=by
 obtain ⟨h1,h2⟩:=List.getElem?_eq_some_iff.1 h
 rw [<- h2,List.drop_eq_getElem_cons h1]
set_option maxHeartbeats 1000000 in
theorem steps_calls (O:Nat->Prop) (lb db r:Nat) (Iv:World->Prop) (A:Option Addr) (n c:Nat) (fs:List Value) (ops:List (Dk->Dk×Int)) (L:Lg) (A1:Option Addr) (n1 c1:Nat) (A2:Option Addr) (n2 c2:Nat) (d:Dk) (N:Nat) (w:World)
  (hl:ops.length=n) (hA:Sl w 1 A n fs) (hAb:∀ k,blkOf A=some k->k ≠ db/\k ≠ r) (hlb:RecAt w lb 63 (lgC db L A1 n1 c1 A2 n2 c2)) (he:L.e=0) (hO:¬ O lb) (h1:lb ≠ db) (h2:lb ≠ r)
  (hd:DkO O w db r d) (hG:DkG d N) (hN:N+n<=349524) (hI:Iv w) (hIf:∀ u u',Iv u->Fr (DS db r) u u'->Iv u')
  (hf:∀ (i:Nat) (v:Value) (f:Dk->Dk×Int),fs[i]?=some v->ops[i]?=some f->CloOk O db r Iv v f) (hGf:∀ f ∈ ops,∀ d N,DkG d N->DkG (f d).1 (N+1)) :
  Calls Tryz.prog 42 #[.pointer (some ⟨lb,0,none⟩),.slice A n c] w fun e w'=>Fr (fun k=>k=db\/k=r\/k=lb) w w'/\e=.returned (.int .i64 (stp ops d).2)/\RecAt w' lb 63 (lgC db { L with e:=(stp ops d).2 } A1 n1 c1 A2 n2 c2)/\DkO O w' db r (stp ops d).1:=by
 refine (F42.of (some ⟨lb,0,none⟩) A n c w (Q:=fun v w'=>Fr (fun k=>k=db\/k=r\/k=lb) w w'/\v=.int .i64 (stp ops d).2/\RecAt w' lb 63 (lgC db { L with e:=(stp ops d).2 } A1 n1 c1 A2 n2 c2)/\DkO O w' db r (stp ops d).1) ?_).mono (fun e w' ⟨v,he,hf,hv,h⟩=>⟨hf,by rw [he,hv],h⟩)
 have hfl:=hA.1
 rw [Nat.mul_one] at hfl
 have k8:∀ (u:World),Fr (fun k=>k=db\/k=r\/k=lb) w u->RecAt u lb 63 (lgC db { L with e:=(stp ops d).2 } A1 n1 c1 A2 n2 c2)->DkO O u db r (stp ops d).1->jnC (F42.k8 (fun v w'=>Fr (fun k=>k=db\/k=r\/k=lb) w w'/\v=.int .i64 (stp ops d).2/\RecAt w' lb 63 (lgC db { L with e:=(stp ops d).2 } A1 n1 c1 A2 n2 c2)/\DkO O w' db r (stp ops d).1)) (some ⟨lb,0,none⟩,()) u :=
  fun u fu hr hdu=>jnC_mk (fun _=>dr_mk ⟨_,hr.cell (o:=0+15) rfl,fu,rfl,hr,hdu⟩)
 refine jnC_mk (loop_rule (fun s u=>∃ (i:Nat) (d':Dk),i<=n/\s=(some ⟨lb,0,none⟩,(A,n,c),(n:Int),(i:Int),())/\Fr (DS db r) w u/\Iv u/\DkO O u db r d'/\DkG d' (N+i)/\stp (ops.drop i) d'=stp ops d) (fun s _=>(n - s.2.2.2.1).toNat) ?_ _ _ ⟨0,d,by omega,rfl,Fr.refl _ _,hI,hd,hG,rfl⟩)
 rintro s u C ⟨i,d',hi,rfl,fu,hIu,hdu,hGu,hst⟩ hC _
 have up:Fr (fun k=>k=db\/k=r\/k=lb) w u:=fu.mono (fun k _ h=>by rcases h with h | h; exact .inl h; exact .inr (.inl h))
 have hlu:=hlb.fr fu (fun h=>by rcases h with h | h; exact h1 h; exact h2 h)
 refine vIf_mk (fun hlt=>?_) (fun hge=>?_)
 ·have hlt2:(i:Int) < (n:Int):=of_decide_eq_true hlt
  have gi:fs[i]?=some (fs[i]'(by omega)):=List.getElem?_eq_getElem (by omega)
  generalize fs[i]'(by omega)=v at gi
  have go:ops[i]?=some (ops[i]'(by omega)):=List.getElem?_eq_getElem (by omega)
  generalize ops[i]'(by omega)=f at go
  obtain ⟨b,o,rfl,hc⟩:=(fu.sl hA (fun _ k hk h=>by have:=hAb k hk; rcases h with h | h; exact this.1 h; exact this.2 h)).2 (by omega)
  refine dr_mk (gd_mk (decide_eq_true (by show (0:Int)<=(i:Int); omega)) (gd_mk (decide_eq_true hlt2) ⟨v,?_,hf i v f gi go u d' (N+i) _ hIu hdu hGu (by omega) (fun u' fu' hdu'=>?_)⟩))
  ·rw [Int.toNat_natCast,Nat.mul_one]; exact hc i v gi
  ·have fw:Fr (DS db r) w u':=fu.trans1 fu'
   have up':Fr (fun k=>k=db\/k=r\/k=lb) w u':=fw.mono (fun k _ h=>by rcases h with h | h; exact .inl h; exact .inr (.inl h))
   have hlu':=hlb.fr fw (fun h=>by rcases h with h | h; exact h1 h; exact h2 h)
   rw [stp_drop go] at hst
   have hst:(if (f d').2=0 then stp (ops.drop (i+1)) (f d').1 else f d')=stp ops d:=hst
   refine gd_mk rfl (jnC_mk (fun _=>vIf_mk (fun g=>?_) (fun g=>?_)))
   ·have g:((f d').2 != 0)=true:=g
    have g:¬ (f d').2=0:=by simpa using g
    rw [if_neg g] at hst
    refine dr_mk (hlu'.st_mk (o:=0+15) (by show 0+15+1<=16; omega) (fun v hv=>by simp at hv; subst hv; rfl) (fun q10 g10=>k8 _ ?_ ?_ ?_))
    ·exact up'.trans g10 (fun _ _ h=>h) (fun k _ h=>.inr (.inr h))
    ·rw [<- hst]; exact q10
    ·rw [<- hst]
     exact hdu'.out g10 (fun h=>h1 h.symm) (fun h=>h2 h.symm) (fun k hk=>by have hk:k=lb:=hk; rw [hk]; exact hO)
   ·have g:((f d').2 != 0)=false:=g
    have g:(f d').2=0:=by simpa using g
    rw [if_pos g] at hst
    refine jnC_mk (hC _ _ ⟨i+1,(f d').1,by omega,?_,fw,hIf u u' hIu fu',hdu',hGf f (List.mem_of_getElem? go) d' (N+i) hGu,hst⟩ ?_)
    ·show ((some ⟨lb,0,none⟩:Option Addr),((some ⟨b,o,none⟩:Option Addr),n,c),(n:Int),IntKind.wrap .i64 ((i:Int)+1),())=_
     rw [i64_id (by omega) (by omega)]; rfl
    ·show ((n:Int) - IntKind.wrap .i64 ((i:Int)+1)).toNat < ((n:Int) - (i:Int)).toNat
     rw [i64_id (by omega) (by omega)]; omega
 ·have hge:¬ (i:Int) < (n:Int):=of_decide_eq_false hge
  have e0:ops.drop i=[]:=List.drop_eq_nil_of_le (by omega)
  rw [e0] at hst
  have hst:(d',0)=stp ops d:=hst
  refine k8 u up ?_ (by rw [<- hst]; exact hdu)
  rw [<- hst]
  have:{ L with e:=(0:Int) }=L:=by cases L; cases he; rfl
  show RecAt u lb _ (lgC db { L with e:=(0:Int) } A1 n1 c1 A2 n2 c2)
  rw [this]; exact hlu
end Go.Proofs.YtadbakmblklncaaGreatDoor
namespace Go.Proofs.YtadbakmblklncaaGreatDoor.Nm8
open Go.GV Go.RowKit Go.Lib
theorem nil_iff (s:ByteArray):(s.toList == (⟨#[]⟩:ByteArray).toList)=decide (s.size=0):=by
 rw [ByteArray.toList_eq,ByteArray.toList_eq]
 have h:s.size=s.data.toList.length:=by rw [Array.length_toList]; rfl
 rw [h]
 cases hl:s.data.toList with
 | nil=>rfl
 | cons a r=>simp
theorem ndec_t {p:Prop} [Decidable p] (h:(!decide p)=true):¬ p:=by simpa using h
theorem ndec_f {p:Prop} [Decidable p] (h:(!decide p)=false):p:=by simpa using h
def dg (n:Nat):UInt8:=UInt8.ofNat (48+n % 10)
theorem dg_nat (n:Nat):(dg n).toNat=48+n % 10:=by
 unfold dg
 rw [UInt8.toNat_ofNat']
 omega
def digs:Nat->Nat->List UInt8
 | 0,_=>[]
 | k+1,n=>digs k (n / 10) ++ [dg n]
theorem digs_len:∀ k n,(digs k n).length=k
 | 0,_=>rfl
 | k+1,n=>by simp [digs,digs_len k]
theorem digs_cons:∀ k n,digs (k+1) n=dg (n / 10 ^ k) :: digs k n
 | 0,n=>by simp [digs]
 | k+1,n=>by
  have h:digs (k+2) n=digs (k+1) (n / 10) ++ [dg n]:=rfl
  rw [h,digs_cons k (n / 10)]
  show dg (n / 10 / 10 ^ k) :: (digs k (n / 10) ++ [dg n])=_
  have e:n / 10 / 10 ^ k=n / 10 ^ (k+1):=by rw [Nat.div_div_eq_div_mul,Nat.pow_succ,Nat.mul_comm]
  rw [e]; rfl
theorem digs_zero:∀ k,digs k 0=repeatL [48] k
 | 0=>rfl
 | k+1=>by
  rw [digs_cons,Nat.zero_div,digs_zero k]; rfl
theorem dec_small {u:Nat} (h:u < 10):decDigits u=[dg u]:=by
 rw [decDigits,dif_pos h]
 unfold dg
 rw [Nat.mod_eq_of_lt h]
theorem dec_big {u:Nat} (h:¬ u < 10):decDigits u=decDigits (u / 10) ++ [dg u]:=by
 rw [decDigits,dif_neg h]; rfl
theorem pad_digs:∀ (k u:Nat),u < 10 ^ (k+1)->(decDigits u).length<=k+1/\repeatL [48] (k+1 - (decDigits u).length) ++ decDigits u=digs (k+1) u
 | 0,u,h=>by
  have h:u < 10:=by simpa using h
  rw [dec_small h]
  exact ⟨Nat.le_refl _,rfl⟩
 | k+1,u,h=>by
  by_cases h10:u < 10
  ·rw [dec_small h10]
   refine ⟨by simp,?_⟩
   show repeatL [48] (k+1) ++ [dg u]=digs (k+1) (u / 10) ++ [dg u]
   rw [Nat.div_eq_of_lt h10,digs_zero]
  ·have hd:u / 10 < 10 ^ (k+1):=by rw [Nat.pow_succ] at h; omega
   obtain ⟨h1,h2⟩:=pad_digs k (u / 10) hd
   rw [dec_big h10,List.length_append,List.length_singleton]
   refine ⟨by omega,?_⟩
   rw [show k+1+1 - ((decDigits (u / 10)).length+1)=k+1 - (decDigits (u / 10)).length by omega,<- List.append_assoc,h2]
   rfl
def wl (k:Int):List UInt8:=if k=1 then [115,101,103,45] else if k=2 then [104,105,110,116,45] else if k=3 then [112,111,105,110,116,45] else []
def good (k n:Int):Prop:=1<=k/\k<=3/\1<=n/\n<=99999999
instance (k n:Int):Decidable (good k n):=by unfold good; infer_instance
def fileL (k n:Int):List UInt8:=if good k n then wl k ++ digs 8 n.toNat else []
theorem fileL_good {k n:Int} (h:good k n):fileL k n=wl k ++ digs 8 n.toNat:=if_pos h
theorem fileL_nil {k n:Int} (h:¬ good k n):fileL k n=[]:=if_neg h
theorem kinds {k:Int} (h1:1<=k) (h3:k<=3):k=1\/k=2\/k=3:=by omega
end Go.Proofs.YtadbakmblklncaaGreatDoor.Nm8
namespace Go.Proofs
open Go.Shelf
def Tryz.laysM171_ren:Go.Shelf.Ren:=⟨fun | 171=>49 | 243=>77 | 246=>103 | 283=>134 | 284=>135 | 285=>136 | 286=>137 | 129=>128 | 317=>155 | 318=>156 | 319=>157 | 320=>158 | 337=>167 | 338=>168 | n=>n,fun | 3=>3 | 9=>9 | 2=>2 | 4=>4 | 171=>194 | 0=>0 | 53=>39 | 37=>33 | 5=>5 | 173=>196 | 212=>218 | 51=>163 | 20=>20 | 213=>219 | 46=>132 | 232=>68 | 233=>228 | n=>n,fun | 17=>0 | 18=>2 | 19=>3 | n=>n⟩
theorem Tryz.laysM171:Go.Proofs.LaysM.n171 Tryz.prog Tryz.laysM171_ren:={
 mixed:=by kernel_rfl
 f129:=Tryz.func128.trans (congrArg some (by kernel_rfl))
 f171:=Tryz.func49.trans (congrArg some (by kernel_rfl))
 f243:=Tryz.func77.trans (congrArg some (by kernel_rfl))
 f246:=Tryz.func103.trans (congrArg some (by kernel_rfl))
 f283:=Tryz.func134.trans (congrArg some (by kernel_rfl))
 f284:=Tryz.func135.trans (congrArg some (by kernel_rfl))
 f285:=Tryz.func136.trans (congrArg some (by kernel_rfl))
 f286:=Tryz.func137.trans (congrArg some (by kernel_rfl))
 f317:=Tryz.func155.trans (congrArg some (by kernel_rfl))
 f318:=Tryz.func156.trans (congrArg some (by kernel_rfl))
 f319:=Tryz.func157.trans (congrArg some (by kernel_rfl))
 f320:=Tryz.func158.trans (congrArg some (by kernel_rfl))
 f337:=Tryz.func167.trans (congrArg some (by kernel_rfl))
 f338:=Tryz.func168.trans (congrArg some (by kernel_rfl))
 t0:=Tryz.underlying0
 a0:=Tryz.isAgg0
 z0:=Tryz.sizeOf0
 v0:=Tryz.zeroValue0
 t2:=Tryz.underlying2
 a2:=Tryz.isAgg2
 z2:=Tryz.sizeOf2
 v2:=Tryz.zeroValue2
 t3:=Tryz.underlying3
 a3:=Tryz.isAgg3
 z3:=Tryz.sizeOf3
 v3:=Tryz.zeroValue3
 t4:=Tryz.underlying4
 a4:=Tryz.isAgg4
 z4:=Tryz.sizeOf4
 v4:=Tryz.zeroValue4
 t5:=Tryz.underlying5
 a5:=Tryz.isAgg5
 z5:=Tryz.sizeOf5
 v5:=Tryz.zeroValue5
 t9:=Tryz.underlying9
 a9:=Tryz.isAgg9
 z9:=Tryz.sizeOf9
 v9:=Tryz.zeroValue9
 t20:=Tryz.underlying20
 a20:=Tryz.isAgg20
 z20:=Tryz.sizeOf20
 v20:=Tryz.zeroValue20
 t37:=Tryz.underlying33
 a37:=Tryz.isAgg33
 z37:=Tryz.sizeOf33
 v37:=Tryz.zeroValue33
 t46:=Tryz.underlying132
 a46:=Tryz.isAgg132
 z46:=Tryz.sizeOf132
 v46:=Tryz.zeroValue132
 t51:=Tryz.underlying163
 a51:=Tryz.isAgg163
 z51:=Tryz.sizeOf163
 v51:=Tryz.zeroValue163
 t53:=Tryz.underlying39
 a53:=Tryz.isAgg39
 z53:=Tryz.sizeOf39
 v53:=Tryz.zeroValue39
 t171:=Tryz.underlying194
 a171:=Tryz.isAgg194
 z171:=Tryz.sizeOf194
 v171:=Tryz.zeroValue194
 t173:=Tryz.underlying196
 a173:=Tryz.isAgg196
 z173:=Tryz.sizeOf196
 v173:=Tryz.zeroValue196
 t212:=Tryz.underlying218
 a212:=Tryz.isAgg218
 z212:=Tryz.sizeOf218
 v212:=Tryz.zeroValue218
 t213:=Tryz.underlying219
 a213:=Tryz.isAgg219
 z213:=Tryz.sizeOf219
 t232:=Tryz.underlying68
 a232:=Tryz.isAgg68
 z232:=Tryz.sizeOf68
 v232:=Tryz.zeroValue68
 t233:=Tryz.underlying228
 a233:=Tryz.isAgg228
 z233:=Tryz.sizeOf228
 v233:=Tryz.zeroValue228
 g17:=by kernel_rfl
 g18:=by kernel_rfl
 g19:=by kernel_rfl
 i0:=by kernel_rfl
 i2:=by kernel_rfl
 i3:=by kernel_rfl
 i4:=by kernel_rfl
 i5:=by kernel_rfl
 i9:=by kernel_rfl
 i20:=by kernel_rfl
 i37:=by kernel_rfl
 i46:=by kernel_rfl
 i51:=by kernel_rfl
 i53:=by kernel_rfl
 i171:=by kernel_rfl
 i173:=by kernel_rfl
 i212:=by kernel_rfl
 i232:=by kernel_rfl
 i233:=by kernel_rfl
 m17:=by kernel_rfl
 m18:=by kernel_rfl
 m19:=by kernel_rfl }
open Go.RowKit Go.Sort Go.Lib in
theorem Tryz.strconv_Itoa (n : Int) (h0 : -9223372036854775808 <= n) (h1 : n <= 9223372036854775807) (w : World) (htab : Lib.TabIs Tryz.prog w "internal/strconv.uint64pow10" .u64 Lib.pow10Tab) :
  Calls Tryz.prog 49 #[.int .i64 n] w fun e w'=>e=.returned (.string ⟨(Lib.itoa n).toArray⟩)/\∃ k os,w'=grow (w.drewN k) os:=Any.strconv_Itoa Tryz.laysM171 n h0 h1 w htab
def Tryz.lays105_ren:Go.Shelf.Ren:=⟨fun | 105=>50 | 212=>78 | 99=>79 | 165=>80 | 166=>81 | 170=>82 | 169=>83 | 263=>104 | 264=>105 | 206=>106 | 240=>107 | 241=>108 | 276=>138 | 277=>139 | n=>n,fun | 9=>9 | 3=>3 | 4=>4 | 20=>20 | 0=>0 | 46=>132 | 109=>133 | 5=>5 | 72=>138 | 76=>141 | 51=>163 | 146=>164 | 53=>39 | 148=>166 | 70=>136 | 37=>33 | 75=>140 | 127=>168 | 164=>198 | 80=>143 | n=>n,fun | n=>n⟩
theorem Tryz.lays105:Go.Proofs.Lays.n105 Tryz.prog Tryz.lays105_ren:={
 mixed:=by kernel_rfl
 f99:=Tryz.func79.trans (congrArg some (by kernel_rfl))
 f105:=Tryz.func50.trans (congrArg some (by kernel_rfl))
 f165:=Tryz.func80.trans (congrArg some (by kernel_rfl))
 f166:=Tryz.func81.trans (congrArg some (by kernel_rfl))
 f169:=Tryz.func83.trans (congrArg some (by kernel_rfl))
 f170:=Tryz.func82.trans (congrArg some (by kernel_rfl))
 f206:=Tryz.func106.trans (congrArg some (by kernel_rfl))
 f212:=Tryz.func78.trans (congrArg some (by kernel_rfl))
 f240:=Tryz.func107.trans (congrArg some (by kernel_rfl))
 f241:=Tryz.func108.trans (congrArg some (by kernel_rfl))
 f263:=Tryz.func104.trans (congrArg some (by kernel_rfl))
 f264:=Tryz.func105.trans (congrArg some (by kernel_rfl))
 f276:=Tryz.func138.trans (congrArg some (by kernel_rfl))
 f277:=Tryz.func139.trans (congrArg some (by kernel_rfl))
 t0:=Tryz.underlying0
 a0:=Tryz.isAgg0
 z0:=Tryz.sizeOf0
 v0:=Tryz.zeroValue0
 t3:=Tryz.underlying3
 a3:=Tryz.isAgg3
 z3:=Tryz.sizeOf3
 v3:=Tryz.zeroValue3
 t4:=Tryz.underlying4
 a4:=Tryz.isAgg4
 z4:=Tryz.sizeOf4
 v4:=Tryz.zeroValue4
 t5:=Tryz.underlying5
 a5:=Tryz.isAgg5
 z5:=Tryz.sizeOf5
 v5:=Tryz.zeroValue5
 t9:=Tryz.underlying9
 a9:=Tryz.isAgg9
 z9:=Tryz.sizeOf9
 v9:=Tryz.zeroValue9
 t20:=Tryz.underlying20
 a20:=Tryz.isAgg20
 z20:=Tryz.sizeOf20
 v20:=Tryz.zeroValue20
 t37:=Tryz.underlying33
 a37:=Tryz.isAgg33
 z37:=Tryz.sizeOf33
 v37:=Tryz.zeroValue33
 t46:=Tryz.underlying132
 a46:=Tryz.isAgg132
 z46:=Tryz.sizeOf132
 v46:=Tryz.zeroValue132
 t51:=Tryz.underlying163
 a51:=Tryz.isAgg163
 z51:=Tryz.sizeOf163
 v51:=Tryz.zeroValue163
 t53:=Tryz.underlying39
 a53:=Tryz.isAgg39
 z53:=Tryz.sizeOf39
 v53:=Tryz.zeroValue39
 t70:=Tryz.underlying136
 a70:=Tryz.isAgg136
 z70:=Tryz.sizeOf136
 v70:=Tryz.zeroValue136
 t72:=Tryz.underlying138
 a72:=Tryz.isAgg138
 z72:=Tryz.sizeOf138
 v72:=Tryz.zeroValue138
 t75:=Tryz.underlying140
 a75:=Tryz.isAgg140
 z75:=Tryz.sizeOf140
 v75:=Tryz.zeroValue140
 t76:=Tryz.underlying141
 a76:=Tryz.isAgg141
 z76:=Tryz.sizeOf141
 v76:=Tryz.zeroValue141
 t109:=Tryz.underlying133
 a109:=Tryz.isAgg133
 z109:=Tryz.sizeOf133
 v109:=Tryz.zeroValue133
 t127:=Tryz.underlying168
 a127:=Tryz.isAgg168
 z127:=Tryz.sizeOf168
 v127:=Tryz.zeroValue168
 t146:=Tryz.underlying164
 a146:=Tryz.isAgg164
 z146:=Tryz.sizeOf164
 v146:=Tryz.zeroValue164
 t148:=Tryz.underlying166
 a148:=Tryz.isAgg166
 z148:=Tryz.sizeOf166
 v148:=Tryz.zeroValue166
 t164:=Tryz.underlying198
 a164:=Tryz.isAgg198
 z164:=Tryz.sizeOf198
 v164:=Tryz.zeroValue198 }
theorem Tryz.Builder_Extra_105:Builder.Extra Tryz.prog Tryz.lays105_ren:={
 sizeBuilder:=by kernel_rfl
 liesBuilder:=by kernel_rfl
 t5:=Tryz.underlying5
 a5:=Tryz.isAgg5
 z5:=Tryz.sizeOf5
 v5:=Tryz.zeroValue5
 infoByte:=by kernel_rfl
 cellsByte:=by kernel_rfl
 sizeByte:=by kernel_rfl
 neB5:=by decide }
open Go.RowKit Go.Lib in
theorem Tryz.strings_Repeat (s:ByteArray) (c:Nat) (w:World) (hc:c<=9223372036854775807) (hlen:s.size * c<=140737488355328) :
  Calls Tryz.prog 50 #[.string s,.int .i64 c] w fun e w'=>e=.returned (.string ⟨(Lib.repeatL s.data.toList c).toArray⟩)/\Below w.heap.size w w':=Any.strings_Repeat Tryz.lays105 Tryz.Builder_Extra_105 s c w hc hlen
end Go.Proofs
namespace Go.Proofs.YtadbakmblklncaaGreatDoor.Nm8
open Go.GV Go.RowKit Go.Lib
def bs (l:List UInt8):ByteArray:=⟨l.toArray⟩
theorem bs_size (l:List UInt8):(bs l).size=l.length:=by simp [bs,ByteArray.size]
theorem bs_list (l:List UInt8):(bs l).data.toList=l:=by simp [bs]
theorem bs_app (a b:List UInt8):bs a ++ bs b=bs (a ++ b):=by
 apply ByteArray.ext
 simp [bs,ByteArray.data_append]
structure VK (w:World):Prop where
 tab : Lib.TabIs Tryz.prog w "internal/strconv.uint64pow10" .u64 Lib.pow10Tab
theorem var_fr {w w':World} {n:String} {cs:Array Value} (f:Fr (fun _=>False) w w') (h:w.var? Tryz.prog n=some cs):w'.var? Tryz.prog n=some cs:=by
 unfold World.var? at h ⊢
 cases hg:Tryz.prog.globalNamed n with
 | none=>rw [hg] at h; cases h
 | some g =>
  simp only [hg,Option.bind_some] at h ⊢
  have hlt:g < w.heap.size:=by
   rcases Nat.lt_or_ge g w.heap.size with h' | h'
   ·exact h'
   ·rw [Array.getElem?_eq_none h'] at h; cases h
  rw [f.block g hlt (fun h=>h)]
  exact h
theorem VK.fr {w w':World} (h:VK w) (f:Fr (fun _=>False) w w'):VK w':=⟨var_fr f h.tab⟩
theorem below_fr {w w':World} (h:Below w.heap.size w w'):Fr (fun _=>False) w w':=Fr.of_below h (fun k hk hB=>by omega)
theorem grow_fr (w:World) (k:Nat) (os:Array Obj):Fr (fun _=>False) w (Go.Sort.grow (w.drewN k) os):=by
 refine ⟨rfl,rfl,rfl,?_,fun j hj _=>?_⟩
 ·show w.heap.size<=(w.heap ++ os).size
  rw [Array.size_append]; omega
 ·show (w.heap ++ os)[j]?=w.heap[j]?
  rw [Array.getElem?_append_left hj]
theorem fourC (k:Int) (h1:1<=k) (h3:k<=3):([Value.string (⟨#[]⟩:ByteArray),.string ⟨#[115,101,103,45]⟩,.string ⟨#[104,105,110,116,45]⟩,.string ⟨#[112,111,105,110,116,45]⟩]:List Value)[k.toNat]?=some (.string (bs (wl k))):=by
 rcases kinds h1 h3 with rfl | rfl | rfl <;> rfl
theorem wl_nil {k:Int} (h:¬ (1<=k/\k<=3)):wl k=[]:=by
 unfold wl
 rw [if_neg (by omega),if_neg (by omega),if_neg (by omega)]
theorem word_calls (k:Int) (w:World):Calls Tryz.prog 48 #[.int .i64 k] w fun e w'=>e=.returned (.string (bs (wl k)))/\Fr (fun _=>False) w w':=by
 refine (F48.of k w (Q:=fun v w'=>v=.string (bs (wl k))/\Fr (fun _=>False) w w') ?_).mono (fun e w' ⟨v,he,hv,h⟩=>⟨by rw [he,hv],h⟩)
 refine nw_mk (gd_mk rfl ?_)
 have f1:Fr (fun _=>False) w (w.alloc (.cells Z131.toArray 131)):=Fr.alloc _ _ _
 refine (RecAt.new w Z131 131).st_mk (o:=0) (vs:=[Value.string (⟨#[]⟩:ByteArray),.string ⟨#[115,101,103,45]⟩,.string ⟨#[104,105,110,116,45]⟩,.string ⟨#[112,111,105,110,116,45]⟩]) (Nat.le_refl 4) (by
  intro x hx
  simp only [List.mem_cons,List.not_mem_nil,or_false] at hx
  rcases hx with rfl | rfl | rfl | rfl <;> rfl) (fun r f2=>?_)
 rw [splice_full (c:=Z131) (vs:=[Value.string (⟨#[]⟩:ByteArray),.string ⟨#[115,101,103,45]⟩,.string ⟨#[104,105,110,116,45]⟩,.string ⟨#[112,111,105,110,116,45]⟩]) rfl] at r
 have f:Fr (fun _=>False) w (stB (w.alloc (.cells Z131.toArray 131)) w.heap.size 0 [Value.string (⟨#[]⟩:ByteArray),.string ⟨#[115,101,103,45]⟩,.string ⟨#[104,105,110,116,45]⟩,.string ⟨#[112,111,105,110,116,45]⟩]):=f1.trans f2 (fun _ _ h=>h) (fun j hj h=>by omega)
 refine vIf_mk (fun h0=>?_) (fun h0=>vIf_mk (fun h4=>?_) (fun h4=>jnC_mk (fun _=>?_)))
 ·have h0:k<=0:=of_decide_eq_true h0
  rw [wl_nil (by omega)]
  exact ⟨rfl,f⟩
 ·have h4:k >= 4:=of_decide_eq_true h4
  rw [wl_nil (by omega)]
  exact ⟨rfl,f⟩
 ·have h0:¬ k<=0:=of_decide_eq_false h0
  have h4:¬ k >= 4:=of_decide_eq_false h4
  refine gd_mk (decide_eq_true (by show (0:Int)<=k; omega)) (gd_mk (decide_eq_true (by show k < 4; omega)) ⟨_,r.cell (by rw [show 0+k.toNat * 1=k.toNat by omega]; exact fourC k (by omega) (by omega)),rfl,f⟩)
set_option maxHeartbeats 1000000 in
theorem file_calls (k n:Int) (w:World) (hv:VK w):Calls Tryz.prog 27 #[.int .i64 k,.int .i64 n] w fun e w'=>e=.returned (.string (bs (fileL k n)))/\Fr (fun _=>False) w w':=by
 refine (F27.of k n w (Q:=fun v w'=>v=.string (bs (fileL k n))/\Fr (fun _=>False) w w') ?_).mono (fun e w' ⟨v,he,hv,h⟩=>⟨by rw [he,hv],h⟩)
 refine (word_calls k w).mono ?_
 rintro e u ⟨rfl,f⟩
 refine ⟨_,rfl,vIf_mk (fun h0=>?_) (fun h0=>vIf_mk (fun h1=>?_) (fun h1=>vIf_mk (fun h2=>?_) (fun h2=>jnC_mk (fun _=>?_))))⟩
 ·rw [nil_iff,bs_size] at h0
  have h0:=of_decide_eq_true h0
  rw [fileL_nil (fun h=>by
   obtain ⟨a,b,_,_⟩:=h
   rcases kinds a b with rfl | rfl | rfl <;> simp [wl] at h0)]
  exact ⟨rfl,f⟩
 ·have h1:n < 1:=of_decide_eq_true h1
  rw [fileL_nil (fun h=>by have:=h.2.2.1; omega)]
  exact ⟨rfl,f⟩
 ·have h2:n > 99999999:=of_decide_eq_true h2
  rw [fileL_nil (fun h=>by have:=h.2.2.2; omega)]
  exact ⟨rfl,f⟩
 ·rw [nil_iff,bs_size] at h0
  have h0:=of_decide_eq_false h0
  have h1:¬ n < 1:=of_decide_eq_false h1
  have h2:¬ n > 99999999:=of_decide_eq_false h2
  have hk:1<=k/\k<=3:=by
   by_cases h:1<=k/\k<=3
   ·exact h
   ·rw [wl_nil h] at h0; exact absurd rfl h0
  have hg:good k n:=⟨hk.1,hk.2,by omega,by omega⟩
  have hit:Lib.itoa n=decDigits n.toNat:=by unfold Lib.itoa; rw [if_neg (by omega)]
  obtain ⟨p1,p2⟩:=pad_digs 7 n.toNat (by omega)
  refine (Tryz.strconv_Itoa n (by omega) (by omega) u (hv.fr f).tab).mono ?_
  rintro e u2 ⟨rfl,q,os,rfl⟩
  have f2:=f.trans1 (grow_fr u q os)
  rw [hit]
  have hsz:(bs (decDigits n.toNat)).size=(decDigits n.toNat).length:=bs_size _
  refine ⟨bs (decDigits n.toNat),rfl,?_⟩
  have hw:IntKind.wrap .i64 (8 - ((bs (decDigits n.toNat)).size:Int))=((8 - (decDigits n.toNat).length:Nat):Int):=by rw [hsz,i64_id (by omega) (by omega)]; omega
  dsimp only
  rw [hw]
  refine (Tryz.strings_Repeat ⟨#[48]⟩ (8 - (decDigits n.toNat).length) _ (by omega) (by show 1 * _<=_; omega)).mono ?_
  rintro e u3 ⟨rfl,hb⟩
  have f3:=f2.trans1 (below_fr hb)
  refine ⟨bs (repeatL [48] (8 - (decDigits n.toNat).length)),rfl,?_⟩
  have hwl:(wl k).length<=6:=by rcases kinds hk.1 hk.2 with rfl | rfl | rfl <;> simp [wl]
  have hrl:(repeatL [48] (8 - (decDigits n.toNat).length)).length<=8:=by rw [repeatL_length]; simp
  refine gd_mk (decide_eq_true (by rw [bs_size,bs_size]; omega)) (gd_mk (decide_eq_true (by rw [bs_app,bs_size,bs_size,List.length_append]; omega)) ⟨?_,f3⟩)
  rw [bs_app,bs_app,fileL_good hg,List.append_assoc,p2]
end Go.Proofs.YtadbakmblklncaaGreatDoor.Nm8
namespace Go.Proofs.YtadbakmblklncaaGreatDoor
open Go.GV Go.RowKit Go.Lib
theorem box1 {w:World} {z v:Value} {e:TypeId} (h1:v.oneCell'=true) {K:Nat->World->Prop} (hK:∀ b w',Fr (fun _=>False) w w'->w.heap.size<=b->RecAt w' b e [v]->K b w'):nw w [z] e fun b w1=>st w1 b 0 [v] fun w2=>K b w2:=by
 refine rec_new (fun b w1 f1 hb r1=>r1.st_mk (o:=0) (by show 0+1<=1; omega) (fun x hx=>by simp at hx; subst hx; exact h1) (fun q g=>?_))
 exact hK b _ (f1.trans g (fun _ _ h=>h) (fun k hk h=>by have h:k=b:=h; omega)) hb q
structure Env (P:Nat->Prop) (W w:World):Prop where
 vk:Nm8.VK W
 fr:Fr (fun _=>False) W w
 lo:∀ k,P k->W.heap.size<=k
theorem Env.step {P:Nat->Prop} {W w w':World} (h:Env P W w) (f:Fr P w w'):Env P W w':=⟨h.vk,h.fr.trans f (fun _ _ h=>h) (fun k hk hp=>by have:=h.lo k hp; omega),h.lo⟩
theorem Env.up {P:Nat->Prop} {W w w':World} (h:Env P W w) (f:Fr (fun _=>False) w w'):Env P W w':=⟨h.vk,h.fr.trans1 f,h.lo⟩
theorem Env.v {P:Nat->Prop} {W w:World} (h:Env P W w):Nm8.VK w:=h.vk.fr h.fr
def LS (lb db r:Nat):Nat->Prop:=fun k=>k=db\/k=r\/k=lb
section
variable {P:Nat->Prop} {w w':World} {lb db r:Nat} {L L':Lg} {A:Option Addr} {n c:Nat} {A2:Option Addr} {n2 c2:Nat} {vs:List Value}
theorem LgP.ls (h:LgP P w lb db r L A n c A2 n2 c2 vs):∀ k,LS lb db r k->P k:=by
 rintro k (rfl | rfl | rfl)
 ·exact h.pd.1
 ·exact h.pd.2
 ·exact h.pl
theorem LgP.upd (h:LgP P w lb db r L A n c A2 n2 c2 vs) (f:Fr (LS lb db r) w w') (hr:RecAt w' lb 63 (lgC db L' A n c A2 n2 c2)) (e1:L'.rs=L.rs) (e2:L'.c6=L.c6) (hd:DkO (LgO P lb A A2) w' db r L'.d):LgP P w' lb db r L' A n c A2 n2 c2 vs:=by
 have hR:∀ k,LS lb db r k->¬ LgR P lb db r A A2 k:=by
  rintro k (rfl | rfl | rfl) ⟨⟨q1,q2,_⟩,q3,q4⟩
  ·exact q3 rfl
  ·exact q4 rfl
  ·exact q2 rfl
 refine ⟨hr,by rw [e2]; exact h.one,f.row h.row (fun b hb hs=>?_),?_,by rw [e1]; exact h.len,?_,hd,fun k hk=>h.new k (Nat.le_trans f.size hk),h.pl,h.pd,h.ld,h.bA,h.bB⟩
 ·have:=h.bA b hb
  rcases hs with hs | hs | hs
  ·exact this.2.2.1 hs
  ·exact this.2.2.2.1 hs
  ·exact this.2.1 hs
 ·rw [e1]
  exact h.rcs.mono (fun cs x hx=>hx.fr f hR)
 ·rw [e1]
  refine f.row h.byt (fun b hb hs=>?_)
  have:=h.bB b hb
  rcases hs with hs | hs | hs
  ·exact this.2.2.1 hs
  ·exact this.2.2.2 hs
  ·exact this.2.1 hs
theorem LgP.fr0 (h:LgP P w lb db r L A n c A2 n2 c2 vs) (f:Fr (fun _=>False) w w'):LgP P w' lb db r L A n c A2 n2 c2 vs :=
 h.upd (f.mono (fun _ _ h=>h.elim)) (h.lg.fr f (fun h=>h)) rfl rfl (h.dk.out f (fun h=>h) (fun h=>h) (fun _ h=>h.elim))
theorem LgP.nO (h:LgP P w lb db r L A n c A2 n2 c2 vs):¬ LgO P lb A A2 lb:=fun q=>q.2.1 rfl
theorem LgP.rs (h:LgP P w lb db r L A n c A2 n2 c2 vs):RSl (fun k=>P k/\k ≠ lb/\k ≠ db/\k ≠ r) w A n L.rs :=
 ⟨⟨vs,h.row.sl,h.rcs.mono (fun cs x hx=>hx.mono (fun k _ q=>⟨q.1.1,q.1.2.1,q.2.1,q.2.2⟩))⟩,h.len,fun h0 k hk=>⟨(h.bA k hk).1,(h.bA k hk).2.1,(h.bA k hk).2.2.1,(h.bA k hk).2.2.2.1⟩⟩
theorem LgP.st (h:LgP P w lb db r L A n c A2 n2 c2 vs) {o:Nat} {us:List Value} (e:splice (lgC db L A n c A2 n2 c2) o us=lgC db L' A n c A2 n2 c2) (hl:o+us.length<=16) (ho:∀ v ∈ us,v.oneCell'=true) (e1:L'.rs=L.rs) (e2:L'.c6=L.c6) (e3:L'.d=L.d) {K:World->Prop}
  (hK:∀ w',Fr (LS lb db r) w w'->LgP P w' lb db r L' A n c A2 n2 c2 vs->K w'):st w lb o us K:=by
 refine h.lg.st_mk (o:=o) hl ho (fun q g=>?_)
 rw [e] at q
 have g':Fr (LS lb db r) w (stB w lb o us):=g.mono (fun k _ hk=>.inr (.inr hk))
 refine hK _ g' (h.upd g' q e1 e2 ?_)
 rw [e3]
 exact h.dk.out g (fun h'=>h.ld.1 h'.symm) (fun h'=>h.ld.2 h'.symm) (fun k hk=>by have hk:k=lb:=hk; rw [hk]; exact h.nO)
end
theorem LgAt.fr0 {P:Nat->Prop} {w w':World} {lb db r:Nat} {L:Lg} (h:LgAt P w lb db r L) (f:Fr (fun _=>False) w w'):LgAt P w' lb db r L:=by
 obtain ⟨A,n,c,A2,n2,c2,vs,h⟩:=h
 exact ⟨A,n,c,A2,n2,c2,vs,h.fr0 f⟩
def segN (n:Int):ByteArray:=Nm8.bs (Nm8.fileL 1 n)
theorem segN_size (n:Int):(segN n).size<=12:=by
 unfold segN
 rw [Nm8.bs_size]
 unfold Nm8.fileL
 split
 ·rw [List.length_append,Nm8.digs_len]; decide
 ·decide
noncomputable def wrO (L:Lg) (b:Bs):Dk×Int:=stp [opA (segN L.ts) b,opS (segN L.ts)] L.d
noncomputable def wrL (L:Lg) (b:Bs):Lg:={ L with d:=(wrO L b).1,e:=(wrO L b).2 }
set_option maxRecDepth 100000 in
set_option maxHeartbeats 2000000 in
theorem lwrite_calls (P:Nat->Prop) (W:World) (lb db r:Nat) (L:Lg) (A:Option Addr) (n c:Nat) (A2:Option Addr) (n2 c2:Nat) (vs:List Value) (B:Option Addr) (m k:Nat) (b:Bs) (N:Nat) (w:World)
  (h:LgP P w lb db r L A n c A2 n2 c2 vs) (hE:Env P W w) (he:L.e=0) (hB:Sl w 1 B m (bys b)) (hm:m<=1099511627776) (hBk:m ≠ 0->∀ j,blkOf B=some j->j ≠ db/\j ≠ r) (hG:DkG L.d N) (hN:N+2<=349524) :
  Calls Tryz.prog 24 #[.pointer (some ⟨lb,0,none⟩),.slice B m k] w fun e w'=>Fr (LS lb db r) w w'/\e=.returned (.int .i64 (wrO L b).2)/\LgP P w' lb db r (wrL L b) A n c A2 n2 c2 vs:=by
 refine (F24.of (some ⟨lb,0,none⟩) B m k w (Q:=fun v w'=>Fr (LS lb db r) w w'/\v=.int .i64 (wrO L b).2/\LgP P w' lb db r (wrL L b) A n c A2 n2 c2 vs) ?_).mono (fun e w' ⟨v,he,hf,hv,h⟩=>⟨hf,by rw [he,hv],h⟩)
 have hlt:=h.lt
 refine rec_new (fun b1 w2 f2 hb1 r1=>rec_new (fun b3 w4 f4 hb3 r3=>?_))
 have f04:=f2.trans1 f4
 have r1:=r1.fr f4 (fun h=>h)
 have h4:=h.fr0 f04
 refine ⟨_,r1.cell (o:=0) rfl,dr_mk ⟨_,h4.lg.cell (o:=0+7) rfl,(Nm8.file_calls 1 L.ts w4 (hE.up f04).v).mono ?_⟩⟩
 rintro e w9 ⟨rfl,f9⟩
 refine ⟨_,rfl,box1 rfl (fun b12 w14 f14 hb12 r12=>?_)⟩
 have f414:=f9.trans1 f14
 have f014:=f04.trans1 f414
 have r1:=r1.fr f414 (fun h=>h)
 have r3:=r3.fr f414 (fun h=>h)
 refine ⟨_,r1.cell (o:=0) rfl,rec_new (fun b16 w17 f17 hb16 r16=>?_)⟩
 have f017:=f014.trans1 f17
 have r1:=r1.fr f17 (fun h=>h)
 have r3:=r3.fr f17 (fun h=>h)
 have r12:=r12.fr f17 (fun h=>h)
 have h17:=h.fr0 f017
 have s2:=f2.size
 have s9:=f414.size
 have s04:=f04.size
 have s14:=f014.size
 have hlb:=hlt.1
 have hdb:=hlt.2.1
 have hr:=hlt.2.2
 have hb12:w.heap.size<=b12:=by have:=f9.size; omega
 refine (steps_calls (LgO P lb A A2) lb db r (fun u=>RecAt u b1 27 [.pointer (some ⟨lb,0,none⟩)]/\RecAt u b3 33 [.slice B m k]/\RecAt u b12 9 [.string (segN L.ts)]/\Sl u 1 B m (bys b)/\RecAt u lb 63 (lgC db L A n c A2 n2 c2)) (some ⟨b16,0,none⟩) 2 2 _ [opA (segN L.ts) b,opS (segN L.ts)] L A n c A2 n2 c2 L.d N w17 rfl ⟨rfl,fun _=>⟨b16,0,rfl,rec_all r16⟩⟩
  (fun j hj=>by injection hj with hj; have hj:b16=j:=hj; omega) h17.lg he h17.nO h17.ld.1 h17.ld.2 h17.dk hG (by omega) ⟨r1,r3,r12,f017.sl hB (fun _ _ _ h=>h),h17.lg⟩ ?_ ?_ ?_).mono ?_
 ·rintro u u' ⟨q1,q2,q3,q4,q5⟩ fu
  refine ⟨q1.fr fu ?_,q2.fr fu ?_,q3.fr fu ?_,fu.sl q4 (fun h0 j hj hs=>?_),q5.fr fu ?_⟩
  ·rintro (q | q) <;> omega
  ·rintro (q | q) <;> omega
  ·rintro (q | q) <;> omega
  ·have:=hBk h0 j hj
   rcases hs with q | q
   ·exact this.1 q
   ·exact this.2 q
  ·rintro (q | q)
   ·exact h.ld.1 q
   ·exact h.ld.2 q
 ·intro i v f hv hf
  match i,hv,hf with
  | 0,hv,hf =>
   cases hv; cases hf
   rintro u d N' K ⟨q1,q2,q3,q4,q5⟩ hdu hGu hN' hK
   refine callU_mk (fn:=Tryz.f43) (t:=34) Tryz.func43 (by kernel_rfl) (by kernel_rfl) (by kernel_rfl) ?_
   refine (F43.of (b1,0) (b12,0) (b3,0) u (Q:=fun v w'=>∃ x:Int,v=.int .i64 x/\K (.int .i64 x) w') ?_).mono (fun e w' ⟨v,he,x,hv,h⟩=>⟨x,by rw [he,hv],h⟩)
   have fd:Fr (fun _=>False) u u.drew:=Fr.drew _ _
   have q1:=q1.fr fd (fun h=>h)
   have q2:=q2.fr fd (fun h=>h)
   have q3:=q3.fr fd (fun h=>h)
   have q5:=q5.fr fd (fun h=>h)
   refine ⟨_,q1.cell (o:=0) rfl,dr_mk ⟨_,q5.cell (o:=0) rfl,_,q3.cell (o:=0) rfl,_,_,_,q2.cell (o:=0) rfl,?_⟩⟩
   refine (@Append_calls ⟨LgO P lb A A2⟩ db r d (segN L.ts) B m k b u.drew N' (DkO.out hdu fd (fun h=>h) (fun h=>h) (fun _ h=>h.elim)) hGu.i hGu.b hN' (fd.sl q4 (fun _ _ _ h=>h)) hm).mono ?_
   rintro e u' ⟨fu',rfl,hdu'⟩
   exact ⟨_,rfl,_,rfl,hK u' (fd.trans fu' (fun _ _ h=>h.elim) (fun _ _ h=>h)) hdu'⟩
  | 1,hv,hf =>
   cases hv; cases hf
   rintro u d N' K ⟨q1,q2,q3,q4,q5⟩ hdu hGu hN' hK
   refine callU_mk (fn:=Tryz.f45) (t:=34) Tryz.func45 (by kernel_rfl) (by kernel_rfl) (by kernel_rfl) ?_
   refine (F45.of (b1,0) (b12,0) u (Q:=fun v w'=>∃ x:Int,v=.int .i64 x/\K (.int .i64 x) w') ?_).mono (fun e w' ⟨v,he,x,hv,h⟩=>⟨x,by rw [he,hv],h⟩)
   have fd:Fr (fun _=>False) u u.drew:=Fr.drew _ _
   have q1:=q1.fr fd (fun h=>h)
   have q3:=q3.fr fd (fun h=>h)
   have q5:=q5.fr fd (fun h=>h)
   refine ⟨_,q1.cell (o:=0) rfl,dr_mk ⟨_,q5.cell (o:=0) rfl,_,q3.cell (o:=0) rfl,?_⟩⟩
   refine (@Sync_calls ⟨LgO P lb A A2⟩ db r d (segN L.ts) u.drew N' (DkO.out hdu fd (fun h=>h) (fun h=>h) (fun _ h=>h.elim)) hGu.i hGu.b hN').mono ?_
   rintro e u' ⟨fu',rfl,hdu'⟩
   exact ⟨_,rfl,_,rfl,hK u' (fd.trans fu' (fun _ _ h=>h.elim) (fun _ _ h=>h)) hdu'⟩
  | i+2,hv,hf=>cases hv
 ·intro f hf d N' hd
  simp only [List.mem_cons,List.not_mem_nil,or_false] at hf
  rcases hf with rfl | rfl
  ·exact hd.A _ _
  ·exact hd.S _
 ·rintro e w18 ⟨f18,rfl,hlb18,hd18⟩
  have f018:Fr (LS lb db r) w w18:=f017.trans f18 (fun _ _ h=>h.elim) (fun _ _ h=>h)
  exact ⟨_,rfl,f018,rfl,h.upd f018 hlb18 rfl rfl hd18⟩
structure LgB (L:Lg):Prop where
 ts:0<=L.ts/\L.ts<=1000000
 tz:0<=L.tz/\L.tz+((byW L.rs).length:Int)<=65536
 tr:0<=L.tr/\L.tr<=L.tz
 tq:L.tq+L.rs.length<=1152921504606846976
 rs:∀ (i:Nat) (x:Rc),L.rs[i]?=some x->x.sq=L.tq+i/\RcG x/\1<=x.k/\x.k<=5
 sg:L.sg<=65536
theorem mkW_pos (x:Rc):21<=(mkW x).length:=by rw [mkW_len]; omega
theorem byW_ge:∀ l:List Rc,l.length * 21<=(byW l).length
 | []=>Nat.zero_le _
 | x :: l=>by
  have:=byW_ge l
  have h:=mkW_pos x
  have e:byW (x :: l)=mkW x ++ byW l:=rfl
  rw [e,List.length_append,List.length_cons]; omega
theorem rc_sq_self (x:Rc) {q:Nat} (h:x.sq=q):{ x with sq:=q }=x:=by cases x; cases h; rfl
theorem fmB_byW:∀ (l:List Rc) (q:Nat),(∀ (i:Nat) (x:Rc),l[i]?=some x->x.sq=q+i)->fmB l q=byW l
 | [],_,_=>rfl
 | x :: l,q,h=>by
  have h0:=h 0 x rfl
  have e:byW (x :: l)=mkW x ++ byW l:=rfl
  show mkW { x with sq:=q } ++ fmB l (q+1)=_
  rw [e,rc_sq_self x (show x.sq=q from h0),fmB_byW l (q+1) (fun i y hy=>by rw [h (i+1) y hy]; omega)]
theorem LgB.fm {L:Lg} (h:LgB L):fmB L.rs L.tq=byW L.rs:=fmB_byW _ _ (fun i x hx=>(h.rs i x hx).1)
theorem LgB.n {L:Lg} (h:LgB L):L.rs.length<=3120:=by have:=byW_ge L.rs; have:=h.tz; omega
theorem LgB.wr {L:Lg} (h:LgB L) (h0:L.rs ≠ []):wrB L.rs=0:=wrB_of h0 (fun x hm=>by
 obtain ⟨i,hi⟩:=List.mem_iff_getElem?.1 hm
 have:=h.rs i x hi
 exact ⟨this.2.2,this.2.1.rg⟩)
theorem LgB.bm {L:Lg} (h:LgB L) (h0:L.rs ≠ []):bmR L.rs L.tq=(batB L.rs L.tq,L.tq+L.rs.length+1,0):=by
 have:=h.tq
 unfold bmR
 rw [if_neg (fun q=>q (h.wr h0)),if_neg (by omega)]
theorem cm_len (n z q:Nat):(mkW (cmR n z q)).length=29:=by
 rw [mkW_len]
 have:daW (cmR n z q)=leB n 4 ++ leB z 4:=by
  unfold daW
  rw [if_neg (by show ¬ ((6:Int)=3\/(6:Int)=4); omega),if_neg (by show ¬ (6:Int)=5; omega),if_neg (by show ¬ ((6:Int)=1\/(6:Int)=2); omega),if_neg (by show ¬ (6:Int)=7; omega)]
  rfl
 rw [this,List.length_append,leB_len,leB_len]
theorem ft_len (n z q:Nat):(mkW (ftR n z q)).length=29:=by
 rw [mkW_len]
 have:daW (ftR n z q)=leB n 4 ++ leB z 4:=by
  unfold daW
  rw [if_neg (by show ¬ ((8:Int)=3\/(8:Int)=4); omega),if_neg (by show ¬ (8:Int)=5; omega),if_neg (by show ¬ ((8:Int)=1\/(8:Int)=2); omega),if_neg (by show ¬ (8:Int)=7; omega)]
  rfl
 rw [this,List.length_append,leB_len,leB_len]
theorem hd_len (n q:Nat):(mkW (hdR n q)).length=37:=by
 rw [mkW_len]
 have:daW (hdR n q)=stil ++ leB n 8:=by
  unfold daW
  rw [if_neg (by show ¬ ((7:Int)=3\/(7:Int)=4); omega),if_neg (by show ¬ (7:Int)=5; omega),if_neg (by show ¬ ((7:Int)=1\/(7:Int)=2); omega),if_pos (show (hdR n q).k=7 from rfl)]
  rfl
 rw [this,List.length_append,leB_len]; rfl
theorem LgB.bl {L:Lg} (h:LgB L):(batB L.rs L.tq).length=(byW L.rs).length+29:=by
 unfold batB
 rw [List.length_append,h.fm,cm_len]
theorem stp_G:∀ (ops:List (Dk->Dk×Int)) (d:Dk) (N:Nat),(∀ f ∈ ops,∀ d N,DkG d N->DkG (f d).1 (N+1))->DkG d N->DkG (stp ops d).1 (N+ops.length)
 | [],d,N,_,h=>h
 | f :: r,d,N,hf,h=>by
  have h1:=hf f List.mem_cons_self d N h
  unfold stp
  split
  ·have:=stp_G r (f d).1 (N+1) (fun g hg=>hf g (List.mem_cons_of_mem _ hg)) h1
   rw [List.length_cons,show N+(r.length+1)=N+1+r.length by omega]
   exact this
  ·exact ⟨h1.i,h1.b.mono (by rw [List.length_cons]; omega)⟩
theorem wr_G {L:Lg} {N:Nat} (h:DkG L.d N) (b:Bs):DkG (wrL L b).d (N+2):=stp_G _ _ _ (fun f hf d N' hd=>by
 simp only [List.mem_cons,List.not_mem_nil,or_false] at hf
 rcases hf with rfl | rfl
 ·exact hd.A _ _
 ·exact hd.S _) h
theorem wrong_calls1 (P:Nat->Prop) (lb db r:Nat) (L:Lg) (w:World) (h:LgAt P w lb db r L) :
  Calls Tryz.prog 18 #[.pointer (some ⟨lb,0,none⟩)] w fun e w'=>e=.returned (.int .i64 L.e)/\w'=w:=by
 refine (F18.of (some ⟨lb,0,none⟩) w (Q:=fun v w'=>v=.int .i64 L.e/\w'=w) ?_).mono (fun e w' ⟨v,he,hv,h⟩=>⟨by rw [he,hv],h⟩)
 obtain ⟨A,n,c,A2,n2,c2,vs,h⟩:=h
 exact vIf_f rfl (dr_mk ⟨_,h.lg.cell (o:=0+15) rfl,rfl,rfl⟩)
structure Lr (O:Nat->Prop) (w:World) (lb db r:Nat) (cs:List Value) (d:Dk):Prop where
 lg:RecAt w lb 63 cs
 dk:DkO O w db r d
 o:¬ O lb
 ld:lb ≠ db/\lb ≠ r
theorem Lr.st {O:Nat->Prop} {w:World} {lb db r:Nat} {cs cs':List Value} {d:Dk} (h:Lr O w lb db r cs d) {o:Nat} {us:List Value} (e:splice cs o us=cs') (hl:o+us.length<=cs.length) (ho:∀ v ∈ us,v.oneCell'=true) {K:World->Prop}
  (hK:∀ w',Fr (LS lb db r) w w'->Lr O w' lb db r cs' d->K w'):st w lb o us K:=by
 refine h.lg.st_mk (o:=o) hl ho (fun q g=>hK _ (g.mono (fun k _ hk=>.inr (.inr hk))) ⟨by rw [<- e]; exact q,?_,h.o,h.ld⟩)
 exact h.dk.out g (fun h'=>h.ld.1 h'.symm) (fun h'=>h.ld.2 h'.symm) (fun k hk=>by have hk:k=lb:=hk; rw [hk]; exact h.o)
theorem Lr.fr0 {O:Nat->Prop} {w w':World} {lb db r:Nat} {cs:List Value} {d:Dk} (h:Lr O w lb db r cs d) (f:Fr (fun _=>False) w w'):Lr O w' lb db r cs d:=⟨h.lg.fr f (fun h=>h),h.dk.out f (fun h=>h) (fun h=>h) (fun _ h=>h.elim),h.o,h.ld⟩
section
variable {P:Nat->Prop} {w w':World} {lb db r:Nat} {L L':Lg} {A:Option Addr} {n c:Nat} {A2:Option Addr} {n2 c2:Nat} {vs:List Value}
theorem LgP.lr (h:LgP P w lb db r L A n c A2 n2 c2 vs):Lr (LgO P lb A A2) w lb db r (lgC db L A n c A2 n2 c2) L.d:=⟨h.lg,h.dk,h.nO,h.ld⟩
theorem LgP.clr (h:LgP P w lb db r L A n c A2 n2 c2 vs) (f:Fr (LS lb db r) w w') (q:Lr (LgO P lb A A2) w' lb db r (lgC db L' none 0 0 none 0 0) L'.d) (e1:L'.rs=[]) (e2:L'.c6=L.c6):LgP P w' lb db r L' none 0 0 none 0 0 []:=by
 have hn:∀ k,w'.heap.size<=k->P k:=fun k hk=>h.new k (Nat.le_trans f.size hk)
 have hlt:=q.lg.lt
 refine ⟨q.lg,by rw [e2]; exact h.one,Row.nil _ _ _ _,by rw [e1]; exact Ech.nil,by rw [e1]; rfl,by rw [e1]; exact Row.nil _ _ _ _,q.dk.to (fun k hk=>⟨hn k hk,by omega,fun q=>(by cases q),fun q=>(by cases q)⟩) (fun k _ hk=>⟨hk.1,hk.2.1,fun q=>(by cases q),fun q=>(by cases q)⟩),hn,h.pl,h.pd,h.ld,fun k hk=>(by cases hk),fun k hk=>(by cases hk)⟩
end
noncomputable def flL (L:Lg):Lg×Int :=
 if L.e ≠ 0 then (L,L.e)
 else if L.rs=[] then (L,0)
 else if (wrO L (batB L.rs L.tq)).2 ≠ 0 then (wrL L (batB L.rs L.tq),(wrO L (batB L.rs L.tq)).2)
 else ({ wrL L (batB L.rs L.tq) with tz:=L.tz+((batB L.rs L.tq).length:Int),tr:=L.tr+(L.rs.length:Int),tq:=L.tq+L.rs.length+1,rs:=[],de:=0 },0)
theorem fl_G {L:Lg} {N:Nat} (h:DkG L.d N):DkG (flL L).1.d (N+2):=by
 have h2:DkG L.d (N+2):=⟨h.i,h.b.mono (by omega)⟩
 unfold flL
 split
 ·exact h2
 ·split
  ·exact h2
  ·split
   ·exact wr_G h _
   ·exact wr_G h _
set_option maxRecDepth 100000 in
set_option maxHeartbeats 2000000 in
theorem flush_calls (P:Nat->Prop) (W:World) (lb db r:Nat) (L:Lg) (N:Nat) (w:World) (h:LgAt P w lb db r L) (hE:Env P W w) (hB:LgB L) (hG:DkG L.d N) (hN:N+2<=349524) :
  Calls Tryz.prog 11 #[.pointer (some ⟨lb,0,none⟩)] w fun e w'=>Fr (LS lb db r) w w'/\e=.returned (.int .i64 (flL L).2)/\LgAt P w' lb db r (flL L).1:=by
 refine (F11.of (some ⟨lb,0,none⟩) w (Q:=fun v w'=>Fr (LS lb db r) w w'/\v=.int .i64 (flL L).2/\LgAt P w' lb db r (flL L).1) ?_).mono (fun e w' ⟨v,he,hf,hv,h⟩=>⟨hf,by rw [he,hv],h⟩)
 refine (wrong_calls1 P lb db r L w h).mono ?_
 rintro e w1 ⟨rfl,rfl⟩
 refine ⟨_,rfl,vIf_mk (fun g=>?_) (fun g=>?_)⟩
 ·have g:¬ L.e=0:=by simpa using g
  have e1:flL L=(L,L.e):=if_pos g
  rw [e1]
  exact ⟨Fr.refl _ _,rfl,h⟩
 have g:L.e=0:=by simpa using g
 obtain ⟨A,n,c,A2,n2,c2,vs,h⟩:=h
 have hlen:=h.len
 refine dr_mk ⟨_,_,_,h.lg.cell (o:=0+12) rfl,vIf_mk (fun g0=>?_) (fun g0=>?_)⟩
 ·have g0:(n:Int)=0:=by simpa using g0
  have e0:L.rs=[]:=List.length_eq_zero_iff.1 (by omega)
  have e1:flL L=(L,0):=by
   unfold flL
   rw [if_neg (fun q=>q g),if_pos e0]
  rw [e1,g]
  exact ⟨Fr.refl _ _,rfl,A,n,c,A2,n2,c2,vs,h⟩
 have g0:¬ (n:Int)=0:=by simpa using g0
 have hne:L.rs ≠ []:=fun e=>by rw [e] at hlen; simp at hlen; omega
 have hbm:=hB.bm hne
 have hbl:=hB.bl
 have hbz:=hB.tz
 have hbn:=hB.n
 have hbr:=hB.tr
 have hbq:=hB.tq
 have fd:Fr (fun _=>False) w1 w1.drew:=Fr.drew _ _
 have hd:=h.fr0 fd
 refine jnC_mk (fun _=>dr_mk ⟨_,_,_,hd.lg.cell (o:=0+12) rfl,dr_mk ⟨_,hd.lg.cell (o:=0+7+4) rfl,(bmk_calls _ A n c L.tq L.rs w1.drew hd.rs (by omega) (by omega)).mono ?_⟩⟩)
 rintro e w17 ⟨A19,c21,rfl,h17⟩
 rw [hbm] at h17 ⊢
 dsimp only at h17 ⊢
 refine ⟨A19,_,c21,_,0,rfl,vIf_f rfl ?_⟩
 have f17:=fd.trans1 h17.1
 have hh:=h.fr0 f17
 have hlt:=h.lt
 refine (lwrite_calls P W lb db r L A n c A2 n2 c2 vs A19 _ c21 (batB L.rs L.tq) N w17 hh (hE.up f17) g h17.sl (by omega) (fun h0 j hj=>?_) hG (by omega)).mono ?_
 ·have:=(h17.2.blt hj).1
  have hs:=fd.size
  omega
 rintro e w24 ⟨f24,rfl,h24⟩
 have f024:Fr (LS lb db r) w1 w24:=(f17.mono (fun _ _ h=>h.elim)).trans1 f24
 refine ⟨_,rfl,vIf_mk (fun g2=>?_) (fun g2=>?_)⟩
 ·have g2:¬ (wrO L (batB L.rs L.tq)).2=0:=by simpa using g2
  have e1:flL L=(wrL L (batB L.rs L.tq),(wrO L (batB L.rs L.tq)).2):=by
   unfold flL
   rw [if_neg (fun q=>q g),if_neg hne,if_pos g2]
  rw [e1]
  exact ⟨f024,rfl,A,n,c,A2,n2,c2,vs,h24⟩
 have g2:(wrO L (batB L.rs L.tq)).2=0:=by simpa using g2
 have e1:flL L=({ wrL L (batB L.rs L.tq) with tz:=L.tz+((batB L.rs L.tq).length:Int),tr:=L.tr+(L.rs.length:Int),tq:=L.tq+L.rs.length+1,rs:=[],de:=0 },0):=by
  unfold flL
  rw [if_neg (fun q=>q g),if_neg hne,if_neg (fun q=>q g2)]
 rw [e1]
 have a1:IntKind.wrap .i64 (L.tz+(((batB L.rs L.tq).length:Nat):Int))=L.tz+((batB L.rs L.tq).length:Int):=i64_id (by omega) (by omega)
 have a2:IntKind.wrap .i64 (L.tr+((n:Nat):Int))=L.tr+(L.rs.length:Int):=by rw [i64_id (by omega) (by omega),hlen]
 refine dr_mk ⟨_,h24.lg.cell (o:=0+7+1) rfl,dr_mk ?_⟩
 show st w24 lb (0+7+1) [Value.int .i64 (IntKind.wrap .i64 (L.tz+(((batB L.rs L.tq).length:Nat):Int)))] _
 rw [a1]
 refine h24.lr.st (cs':=lgC db { wrL L (batB L.rs L.tq) with tz:=L.tz+((batB L.rs L.tq).length:Int) } A n c A2 n2 c2) rfl (by show 0+7+1+1<=16; omega) (fun v hv=>by simp at hv; subst hv; rfl) (fun w32 f32 q32=>?_)
 have fd2:Fr (fun _=>False) w32 w32.drew:=Fr.drew _ _
 have q33:=q32.fr0 fd2
 have f33:Fr (LS lb db r) w24 w32.drew:=f32.trans1 (fd2.mono (fun _ _ h=>h.elim))
 generalize w32.drew=w33 at fd2 q33 f33 ⊢
 refine dr_mk ⟨_,q33.lg.cell (o:=0+7+2) rfl,dr_mk ⟨_,_,_,q33.lg.cell (o:=0+12) rfl,dr_mk ?_⟩⟩
 show st w33 lb (0+7+2) [Value.int .i64 (IntKind.wrap .i64 (L.tr+((n:Nat):Int)))] _
 rw [a2]
 refine q33.st (cs':=lgC db { wrL L (batB L.rs L.tq) with tz:=L.tz+((batB L.rs L.tq).length:Int),tr:=L.tr+(L.rs.length:Int) } A n c A2 n2 c2) rfl (by show 0+7+2+1<=16; omega) (fun v hv=>by simp at hv; subst hv; rfl) (fun w43 f43 q43=>dr_mk ?_)
 refine q43.st (cs':=lgC db { wrL L (batB L.rs L.tq) with tz:=L.tz+((batB L.rs L.tq).length:Int),tr:=L.tr+(L.rs.length:Int),tq:=L.tq+L.rs.length+1 } A n c A2 n2 c2) rfl (by show 0+7+4+1<=16; omega) (fun v hv=>by simp at hv; subst hv; rfl) (fun w46 f46 q46=>dr_mk ?_)
 refine q46.st (cs':=lgC db { wrL L (batB L.rs L.tq) with tz:=L.tz+((batB L.rs L.tq).length:Int),tr:=L.tr+(L.rs.length:Int),tq:=L.tq+L.rs.length+1 } none 0 0 A2 n2 c2) rfl (by show 0+12+1<=16; omega) (fun v hv=>by simp at hv; subst hv; rfl) (fun w49 f49 q49=>dr_mk ?_)
 refine q49.st (cs':=lgC db { wrL L (batB L.rs L.tq) with tz:=L.tz+((batB L.rs L.tq).length:Int),tr:=L.tr+(L.rs.length:Int),tq:=L.tq+L.rs.length+1 } none 0 0 none 0 0) rfl (by show 0+13+1<=16; omega) (fun v hv=>by simp at hv; subst hv; rfl) (fun w52 f52 q52=>dr_mk ?_)
 refine q52.st (cs':=lgC db { wrL L (batB L.rs L.tq) with tz:=L.tz+((batB L.rs L.tq).length:Int),tr:=L.tr+(L.rs.length:Int),tq:=L.tq+L.rs.length+1,rs:=[],de:=0 } none 0 0 none 0 0) rfl (by show 0+14+1<=16; omega) (fun v hv=>by simp at hv; subst hv; rfl) (fun w55 f55 q55=>?_)
 have f2455:Fr (LS lb db r) w24 w55:=((((f33.trans1 f43).trans1 f46).trans1 f49).trans1 f52).trans1 f55
 exact ⟨f024.trans1 f2455,rfl,none,0,0,none,0,0,[],h24.clr f2455 q55 rfl rfl⟩
noncomputable def slL (L:Lg):Lg×Int :=
 if (flL L).2 ≠ 0 then flL L
 else if (flL L).1.ts=0\/(flL L).1.sl=true then ((flL L).1,0)
 else if (wrO (flL L).1 (mkW (ftR (flL L).1.tr.toNat (flL L).1.tz.toNat (flL L).1.tq))).2 ≠ 0 then (wrL (flL L).1 (mkW (ftR (flL L).1.tr.toNat (flL L).1.tz.toNat (flL L).1.tq)),(wrO (flL L).1 (mkW (ftR (flL L).1.tr.toNat (flL L).1.tz.toNat (flL L).1.tq))).2)
 else ({ wrL (flL L).1 (mkW (ftR (flL L).1.tr.toNat (flL L).1.tz.toNat (flL L).1.tq)) with tz:=(flL L).1.tz+29,tq:=(flL L).1.tq+1,sl:=true },0)
theorem sl_G {L:Lg} {N:Nat} (h:DkG L.d N):DkG (slL L).1.d (N+4):=by
 have h1:=fl_G (L:=L) h
 have h2:DkG (flL L).1.d (N+4):=⟨h1.i,h1.b.mono (by omega)⟩
 unfold slL
 split
 ·exact h2
 ·split
  ·exact h2
  ·split
   ·exact wr_G h1 _
   ·exact wr_G h1 _
theorem flL_e {L:Lg} (h:(flL L).2=0):(flL L).1.e=0/\(flL L).1.rs=[]/\(flL L).1.ts=L.ts/\(flL L).1.sl=L.sl/\(flL L).1.c6=L.c6/\(flL L).1.sg=L.sg/\(flL L).1.bt=L.bt/\0<=(flL L).1.tz - L.tz/\L.e=0:=by
 unfold flL at h ⊢
 split at h
 ·rename_i q; exact absurd h q
 ·rename_i q
  have q:L.e=0:=by omega
  rw [if_neg (fun p=>p q)]
  split at h
  ·rename_i q2
   rw [if_pos q2]
   exact ⟨q,q2,rfl,rfl,rfl,rfl,rfl,by show 0<=L.tz - L.tz; omega,q⟩
  ·rename_i q2
   rw [if_neg q2]
   split at h
   ·rename_i q3; exact absurd h q3
   ·rename_i q3
    rw [if_neg q3]
    have q3:(wrO L (batB L.rs L.tq)).2=0:=by omega
    exact ⟨q3,rfl,rfl,rfl,rfl,rfl,rfl,by show 0<=L.tz+((batB L.rs L.tq).length:Int) - L.tz; omega,q⟩
theorem flL_z {L:Lg} (hB:LgB L):0<=(flL L).1.tz/\(flL L).1.tz<=65565/\0<=(flL L).1.tr/\(flL L).1.tr<=70000/\(flL L).1.tq<=1152921504606846977:=by
 have h1:=hB.tz
 have h2:=hB.tr
 have h3:=hB.n
 have h4:=hB.tq
 have h5:=hB.bl
 unfold flL
 split
 ·exact ⟨h1.1,by show L.tz<=_; omega,h2.1,by show L.tr<=_; omega,by show L.tq<=_; omega⟩
 ·split
  ·exact ⟨h1.1,by show L.tz<=_; omega,h2.1,by show L.tr<=_; omega,by show L.tq<=_; omega⟩
  ·split
   ·exact ⟨h1.1,by show L.tz<=_; omega,h2.1,by show L.tr<=_; omega,by show L.tq<=_; omega⟩
   ·exact ⟨by show 0<=L.tz+((batB L.rs L.tq).length:Int); omega,by show L.tz+((batB L.rs L.tq).length:Int)<=_; omega,by show 0<=L.tr+(L.rs.length:Int); omega,by show L.tr+(L.rs.length:Int)<=_; omega,by show L.tq+L.rs.length+1<=_; omega⟩
set_option maxRecDepth 100000 in
set_option maxHeartbeats 2000000 in
theorem seal_calls (P:Nat->Prop) (W:World) (lb db r:Nat) (L:Lg) (N:Nat) (w:World) (h:LgAt P w lb db r L) (hE:Env P W w) (hB:LgB L) (hG:DkG L.d N) (hN:N+4<=349524) :
  Calls Tryz.prog 12 #[.pointer (some ⟨lb,0,none⟩)] w fun e w'=>Fr (LS lb db r) w w'/\e=.returned (.int .i64 (slL L).2)/\LgAt P w' lb db r (slL L).1:=by
 refine (F12.of (some ⟨lb,0,none⟩) w (Q:=fun v w'=>Fr (LS lb db r) w w'/\v=.int .i64 (slL L).2/\LgAt P w' lb db r (slL L).1) ?_).mono (fun e w' ⟨v,he,hf,hv,h⟩=>⟨hf,by rw [he,hv],h⟩)
 have hls:∀ k,LS lb db r k->P k:=by
  obtain ⟨A,n,c,A2,n2,c2,vs,h⟩:=h
  exact h.ls
 refine (flush_calls P W lb db r L N w h hE hB hG (by omega)).mono ?_
 rintro e w1 ⟨f1,rfl,h1⟩
 have hE1:=hE.step (f1.mono (fun k _ hk=>hls k hk))
 have hG1:=fl_G (L:=L) hG
 refine ⟨_,rfl,vIf_mk (fun g=>?_) (fun g=>?_)⟩
 ·have g:¬ (flL L).2=0:=by simpa using g
  have e1:slL L=flL L:=if_pos g
  rw [e1]
  exact ⟨f1,rfl,h1⟩
 have g:(flL L).2=0:=by simpa using g
 obtain ⟨k1,k2,k3,k4,k5,k6,k7,k8,k9⟩:=flL_e g
 obtain ⟨z1,z2,z3,z4,z5⟩:=flL_z hB
 have es:slL L=(if (flL L).1.ts=0\/(flL L).1.sl=true then ((flL L).1,0)
   else if (wrO (flL L).1 (mkW (ftR (flL L).1.tr.toNat (flL L).1.tz.toNat (flL L).1.tq))).2 ≠ 0 then (wrL (flL L).1 (mkW (ftR (flL L).1.tr.toNat (flL L).1.tz.toNat (flL L).1.tq)),(wrO (flL L).1 (mkW (ftR (flL L).1.tr.toNat (flL L).1.tz.toNat (flL L).1.tq))).2)
   else ({ wrL (flL L).1 (mkW (ftR (flL L).1.tr.toNat (flL L).1.tz.toNat (flL L).1.tq)) with tz:=(flL L).1.tz+29,tq:=(flL L).1.tq+1,sl:=true },0)):=if_neg (fun q=>q g)
 rw [es]
 generalize (flL L).1=M at *
 obtain ⟨A,n,c,A2,n2,c2,vs,h1⟩:=h1
 have keep:(M.ts=0\/M.sl=true)->Fr (LS lb db r) w w1/\Value.int .i64 0=.int .i64 (if M.ts=0\/M.sl=true then (M,(0:Int)) else if (wrO M (mkW (ftR M.tr.toNat M.tz.toNat M.tq))).2 ≠ 0 then (wrL M (mkW (ftR M.tr.toNat M.tz.toNat M.tq)),(wrO M (mkW (ftR M.tr.toNat M.tz.toNat M.tq))).2) else ({ wrL M (mkW (ftR M.tr.toNat M.tz.toNat M.tq)) with tz:=M.tz+29,tq:=M.tq+1,sl:=true },0)).2/\LgAt P w1 lb db r (if M.ts=0\/M.sl=true then (M,(0:Int)) else if (wrO M (mkW (ftR M.tr.toNat M.tz.toNat M.tq))).2 ≠ 0 then (wrL M (mkW (ftR M.tr.toNat M.tz.toNat M.tq)),(wrO M (mkW (ftR M.tr.toNat M.tz.toNat M.tq))).2) else ({ wrL M (mkW (ftR M.tr.toNat M.tz.toNat M.tq)) with tz:=M.tz+29,tq:=M.tq+1,sl:=true },0)).1:=by
  intro hk
  rw [if_pos hk]
  exact ⟨f1,rfl,A,n,c,A2,n2,c2,vs,h1⟩
 refine dr_mk ⟨_,h1.lg.cell (o:=0+7) rfl,vIf_mk (fun g1=>keep (.inl (by simpa using g1))) (fun g1=>dr_mk ⟨_,h1.lg.cell (o:=0+7+3) rfl,vIf_mk (fun g2=>keep (.inr g2)) (fun g2=>?_)⟩)⟩
 have g1:¬ M.ts=0:=by simpa using g1
 have hno:¬ (M.ts=0\/M.sl=true):=fun q=>q.elim g1 (fun q=>by rw [g2] at q; cases q)
 rw [if_neg hno]
 have fd:Fr (fun _=>False) w1 w1.drew:=Fr.drew _ _
 have hd:=h1.fr0 fd
 obtain ⟨tr,htr⟩:∃ m:Nat,M.tr=(m:Int):=⟨M.tr.toNat,by omega⟩
 obtain ⟨tz,htz⟩:∃ m:Nat,M.tz=(m:Int):=⟨M.tz.toNat,by omega⟩
 have etr:M.tr.toNat=tr:=by omega
 have etz:M.tz.toNat=tz:=by omega
 rw [etr,etz]
 refine jnC_mk (fun _=>dr_mk ⟨tr,by rw [<- htr]; exact hd.lg.cell (o:=0+7+2) rfl,dr_mk ⟨tz,by rw [<- htz]; exact hd.lg.cell (o:=0+7+1) rfl,dr_mk ⟨_,hd.lg.cell (o:=0+7+4) rfl,(foot_calls tr tz M.tq w1.drew (by omega) (by omega) (by omega)).mono ?_⟩⟩⟩)
 rintro e w17 ⟨A19,c21,rfl,h17⟩
 refine ⟨A19,_,c21,rfl,?_⟩
 have f17:=fd.trans1 h17.1
 have hh:=h1.fr0 f17
 have hlt:=h1.lt
 have hfl:=ft_len tr tz M.tq
 refine (lwrite_calls P W lb db r M A n c A2 n2 c2 vs A19 _ c21 (mkW (ftR tr tz M.tq)) (N+2) w17 hh (hE1.up f17) k1 h17.sl (by omega) (fun h0 j hj=>?_) hG1 (by omega)).mono ?_
 ·have:=(h17.2.blt hj).1
  have hs:=fd.size
  omega
 rintro e w24 ⟨f24,rfl,h24⟩
 have f124:Fr (LS lb db r) w1 w24:=(f17.mono (fun _ _ h=>h.elim)).trans1 f24
 have f024:Fr (LS lb db r) w w24:=f1.trans1 f124
 refine ⟨_,rfl,vIf_mk (fun g3=>?_) (fun g3=>?_)⟩
 ·have g3:¬ (wrO M (mkW (ftR tr tz M.tq))).2=0:=by simpa using g3
  rw [if_pos g3]
  exact ⟨f024,rfl,A,n,c,A2,n2,c2,vs,h24⟩
 have g3:(wrO M (mkW (ftR tr tz M.tq))).2=0:=by simpa using g3
 rw [if_neg (fun q=>q g3)]
 have a1:IntKind.wrap .i64 (M.tz+(((mkW (ftR tr tz M.tq)).length:Nat):Int))=M.tz+29:=by rw [hfl,i64_id (by omega) (by omega)]; rfl
 have a2:IntKind.wrap .u64 ((M.tq:Nat)+1:Int)=((M.tq+1:Nat):Int):=by rw [u64_id (by omega) (by omega)]; rfl
 refine dr_mk ⟨_,h24.lg.cell (o:=0+7+1) rfl,dr_mk ?_⟩
 show st w24 lb (0+7+1) [Value.int .i64 (IntKind.wrap .i64 (M.tz+(((mkW (ftR tr tz M.tq)).length:Nat):Int)))] _
 rw [a1]
 refine h24.st (L':={ wrL M (mkW (ftR tr tz M.tq)) with tz:=M.tz+29 }) rfl (by show 0+7+1+1<=16; omega) (fun v hv=>by simp at hv; subst hv; rfl) rfl rfl rfl (fun w32 f32 h32=>dr_mk ⟨_,h32.lg.cell (o:=0+7+4) rfl,dr_mk ?_⟩)
 show st w32 lb (0+7+4) [Value.int .u64 (IntKind.wrap .u64 ((M.tq:Nat)+1:Int))] _
 rw [a2]
 refine h32.st (L':={ wrL M (mkW (ftR tr tz M.tq)) with tz:=M.tz+29,tq:=M.tq+1 }) rfl (by show 0+7+4+1<=16; omega) (fun v hv=>by simp at hv; subst hv; rfl) rfl rfl rfl (fun w38 f38 h38=>dr_mk ?_)
 refine h38.st (L':={ wrL M (mkW (ftR tr tz M.tq)) with tz:=M.tz+29,tq:=M.tq+1,sl:=true }) rfl (by show 0+7+3+1<=16; omega) (fun v hv=>by simp at hv; subst hv; rfl) rfl rfl rfl (fun w41 f41 h41=>?_)
 exact ⟨((f024.trans1 f32).trans1 f38).trans1 f41,rfl,A,n,c,A2,n2,c2,vs,h41⟩
theorem slL_e {L:Lg} (hB:LgB L) (h:(slL L).2=0):(slL L).1.e=0/\(slL L).1.rs=[]/\(slL L).1.ts=L.ts/\(slL L).1.c6=L.c6/\(slL L).1.sg=L.sg/\(slL L).1.bt=L.bt/\(slL L).1.tq<=1152921504606846978/\L.e=0/\(slL L).1.c3=L.c3/\(slL L).1.c4=L.c4/\(slL L).1.c5=L.c5/\(flL L).2=0:=by
 obtain ⟨z1,z2,z3,z4,z5⟩:=flL_z hB
 have c:∀ L:Lg,(flL L).1.c3=L.c3/\(flL L).1.c4=L.c4/\(flL L).1.c5=L.c5:=fun L=>by
  unfold flL
  split
  ·exact ⟨rfl,rfl,rfl⟩
  ·split
   ·exact ⟨rfl,rfl,rfl⟩
   ·split
    ·exact ⟨rfl,rfl,rfl⟩
    ·exact ⟨rfl,rfl,rfl⟩
 have c:=c L
 by_cases g:(flL L).2=0
 ·obtain ⟨k1,k2,k3,k4,k5,k6,k7,k8,k9⟩:=flL_e g
  unfold slL at h ⊢
  rw [if_neg (fun q=>q g)] at h ⊢
  split at h
  ·rename_i q
   rw [if_pos q]
   exact ⟨k1,k2,k3,k5,k6,k7,by show (flL L).1.tq<=_; omega,k9,c.1,c.2.1,c.2.2,g⟩
  ·rename_i q
   rw [if_neg q]
   split at h
   ·rename_i q2; exact absurd h q2
   ·rename_i q2
    rw [if_neg q2]
    have q2:(wrO (flL L).1 (mkW (ftR (flL L).1.tr.toNat (flL L).1.tz.toNat (flL L).1.tq))).2=0:=by omega
    exact ⟨q2,k2,k3,k5,k6,k7,by show (flL L).1.tq+1<=_; omega,k9,c.1,c.2.1,c.2.2,g⟩
 ·have e:slL L=flL L:=if_pos g
  rw [e] at h
  exact absurd h g
noncomputable def nxO (M:Lg):Dk×Int:=stp [opC (segN (M.ts+1)),opA (segN (M.ts+1)) (mkW (hdR (M.ts+1).toNat M.tq)),opS (segN (M.ts+1)),opD] M.d
noncomputable def nxL (L:Lg):Lg×Int :=
 if (slL L).2 ≠ 0 then slL L
 else if (nxO (slL L).1).2 ≠ 0 then ({ (slL L).1 with d:=(nxO (slL L).1).1,e:=(nxO (slL L).1).2 },(nxO (slL L).1).2)
 else ({ (slL L).1 with d:=(nxO (slL L).1).1,e:=(nxO (slL L).1).2,ts:=(slL L).1.ts+1,tz:=37,tr:=0,sl:=false,tq:=(slL L).1.tq+1 },0)
theorem nx_ops (M:Lg):∀ f ∈ [opC (segN (M.ts+1)),opA (segN (M.ts+1)) (mkW (hdR (M.ts+1).toNat M.tq)),opS (segN (M.ts+1)),opD],∀ d N,DkG d N->DkG (f d).1 (N+1):=by
 intro f hf d N hd
 simp only [List.mem_cons,List.not_mem_nil,or_false] at hf
 rcases hf with rfl | rfl | rfl | rfl
 ·exact hd.C _
 ·exact hd.A _ _
 ·exact hd.S _
 ·exact hd.D
theorem nx_G {L:Lg} {N:Nat} (h:DkG L.d N):DkG (nxL L).1.d (N+8):=by
 have h1:=sl_G (L:=L) h
 have h2:DkG (slL L).1.d (N+8):=⟨h1.i,h1.b.mono (by omega)⟩
 have h3:DkG (nxO (slL L).1).1 (N+4+4):=stp_G _ _ _ (nx_ops _) h1
 unfold nxL
 split
 ·exact h2
 ·split
  ·exact h3
  ·exact h3
set_option maxRecDepth 100000 in
set_option maxHeartbeats 4000000 in
theorem next_calls (P:Nat->Prop) (W:World) (lb db r:Nat) (L:Lg) (N:Nat) (w:World) (h:LgAt P w lb db r L) (hE:Env P W w) (hB:LgB L) (hG:DkG L.d N) (hN:N+8<=349524) :
  Calls Tryz.prog 39 #[.pointer (some ⟨lb,0,none⟩)] w fun e w'=>Fr (LS lb db r) w w'/\e=.returned (.int .i64 (nxL L).2)/\LgAt P w' lb db r (nxL L).1:=by
 refine (F39.of (some ⟨lb,0,none⟩) w (Q:=fun v w'=>Fr (LS lb db r) w w'/\v=.int .i64 (nxL L).2/\LgAt P w' lb db r (nxL L).1) ?_).mono (fun e w' ⟨v,he,hf,hv,h⟩=>⟨hf,by rw [he,hv],h⟩)
 have hls:(∀ k,LS lb db r k->P k)/\lb < w.heap.size/\db < w.heap.size/\r < w.heap.size:=by
  obtain ⟨A,n,c,A2,n2,c2,vs,h⟩:=h
  exact ⟨h.ls,h.lt⟩
 obtain ⟨hls,hlb,hdb,hr⟩:=hls
 refine rec_new (fun b1 w2 f2 hb1 r1=>⟨_,r1.cell (o:=0) rfl,(seal_calls P W lb db r L N w2 (h.fr0 f2) (hE.up f2) hB hG (by omega)).mono ?_⟩)
 rintro e w4 ⟨f4,rfl,h4⟩
 have hE4:=(hE.up f2).step (f4.mono (fun k _ hk=>hls k hk))
 have hG4:=sl_G (L:=L) hG
 have s2:=f2.size
 have nb1:¬ LS lb db r b1:=by rintro (q | q | q) <;> omega
 have r1:=r1.fr f4 nb1
 have f04:Fr (LS lb db r) w w4:=(f2.mono (fun _ _ h=>h.elim)).trans1 f4
 refine ⟨_,rfl,vIf_mk (fun g=>?_) (fun g=>?_)⟩
 ·have g:¬ (slL L).2=0:=by simpa using g
  have e1:nxL L=slL L:=if_pos g
  rw [e1]
  exact ⟨f04,rfl,h4⟩
 have g:(slL L).2=0:=by simpa using g
 obtain ⟨k1,k2,k3,k4,k5,k6,k7,k8,k9⟩:=slL_e hB g
 have es:nxL L=(if (nxO (slL L).1).2 ≠ 0 then ({ (slL L).1 with d:=(nxO (slL L).1).1,e:=(nxO (slL L).1).2 },(nxO (slL L).1).2)
   else ({ (slL L).1 with d:=(nxO (slL L).1).1,e:=(nxO (slL L).1).2,ts:=(slL L).1.ts+1,tz:=37,tr:=0,sl:=false,tq:=(slL L).1.tq+1 },0)):=if_neg (fun q=>q g)
 rw [es]
 have hts:=hB.ts
 generalize (slL L).1=M at *
 obtain ⟨A,n,c,A2,n2,c2,vs,h4⟩:=h4
 have ets:IntKind.wrap .i64 (M.ts+1)=M.ts+1:=i64_id (by omega) (by omega)
 obtain ⟨m,hm⟩:∃ m:Nat,M.ts+1=(m:Int):=⟨(M.ts+1).toNat,by omega⟩
 refine ⟨_,r1.cell (o:=0) rfl,dr_mk ⟨_,h4.lg.cell (o:=0+7) rfl,?_⟩⟩
 show Calls Tryz.prog 27 #[.int .i64 1,.int .i64 (IntKind.wrap .i64 (M.ts+1))] w4 _
 rw [ets]
 refine (Nm8.file_calls 1 (M.ts+1) w4 hE4.v).mono ?_
 rintro e w11 ⟨rfl,f11⟩
 refine ⟨_,rfl,box1 rfl (fun b14 w16 f16 hb14 r14=>?_)⟩
 have f416:=f11.trans1 f16
 have r1:=r1.fr f416 (fun h=>h)
 have h16:=h4.fr0 f416
 refine ⟨_,r1.cell (o:=0) rfl,dr_mk ⟨_,h16.lg.cell (o:=0+7+4) rfl,?_⟩⟩
 show Calls Tryz.prog 61 #[.int .i64 (M.ts+1),.int .u64 (M.tq:Nat)] w16 _
 rw [hm]
 refine (head_calls m M.tq w16 (by omega) (by omega) (by omega)).mono ?_
 rintro e w21 ⟨A23,c25,rfl,h21⟩
 have hhl:=hd_len m M.tq
 refine ⟨A23,_,c25,rfl,box1 rfl (fun b26 w28 f28 hb26 r26=>?_)⟩
 have fd:Fr (fun _=>False) w28 w28.drew:=Fr.drew _ _
 have f1629:=(h21.1.trans1 f28).trans1 fd
 have f429:=f416.trans1 f1629
 have r1:=r1.fr f1629 (fun h=>h)
 have r14:=r14.fr f1629 (fun h=>h)
 have r26:=r26.fr fd (fun h=>h)
 have h29:=h4.fr0 f429
 have hsl:=(f28.trans1 fd).sl h21.sl (fun _ _ _ h=>h)
 have s4:=f04.size
 have s11:=f11.size
 have s16:=f416.size
 have s21:=h21.1.size
 have s28:=(f28.trans1 fd).size
 have lt14:w.heap.size<=b14:=by omega
 have lt26:w.heap.size<=b26:=by omega
 have hB23:∀ j,blkOf A23=some j->w.heap.size<=j:=fun j hj=>by have:=(h21.2.blt hj).1; omega
 have nb14:¬ LS lb db r b14:=by rintro (q | q | q) <;> omega
 have nb26:¬ LS lb db r b26:=by rintro (q | q | q) <;> omega
 have hw:w28.heap.size<=w28.drew.heap.size:=Nat.le_refl _
 generalize w28.drew=w29 at fd f1629 f429 r1 r14 r26 h29 hsl s28 hw ⊢
 refine ⟨_,r1.cell (o:=0) rfl,_,r1.cell (o:=0) rfl,dr_mk ⟨_,h29.lg.cell (o:=0) rfl,rec_new (fun b34 w35 f35 hb34 r34=>?_)⟩⟩
 have r1':=r1.fr f35 (fun h=>h)
 have r14':=r14.fr f35 (fun h=>h)
 have r26':=r26.fr f35 (fun h=>h)
 have h35:=h29.fr0 f35
 have hsl':=f35.sl hsl (fun _ _ _ h=>h)
 refine kp_mk f35 r1.lt (fun h=>h) ((steps_calls (LgO P lb A A2) lb db r (fun u=>RecAt u b1 27 [.pointer (some ⟨lb,0,none⟩)]/\RecAt u b26 33 [.slice A23 (mkW (hdR m M.tq)).length c25]/\RecAt u b14 9 [.string (segN (m:Int))]/\Sl u 1 A23 (mkW (hdR m M.tq)).length (bys (mkW (hdR m M.tq)))/\RecAt u lb 63 (lgC db M A n c A2 n2 c2)) (some ⟨b34,0,none⟩) 4 4 _ [opC (segN (m:Int)),opA (segN (m:Int)) (mkW (hdR m M.tq)),opS (segN (m:Int)),opD] M A n c A2 n2 c2 M.d (N+4) w35 rfl ⟨rfl,fun _=>⟨b34,0,rfl,rec_all r34⟩⟩
  (fun j hj=>by injection hj with hj; have hj:b34=j:=hj; omega) h35.lg k1 h35.nO h35.ld.1 h35.ld.2 h35.dk hG4 (by omega) ⟨r1',r26',by rw [<- hm]; exact r14',hsl',h35.lg⟩ ?_ ?_ ?_).mono ?_)
 ·rintro u u' ⟨q1,q2,q3,q4,q5⟩ fu
  refine ⟨q1.fr fu ?_,q2.fr fu ?_,q3.fr fu ?_,fu.sl q4 (fun h0 j hj hs=>?_),q5.fr fu ?_⟩
  ·rintro (q | q) <;> omega
  ·rintro (q | q) <;> omega
  ·rintro (q | q) <;> omega
  ·have:=hB23 j hj
   rcases hs with q | q <;> omega
  ·rintro (q | q)
   ·exact h4.ld.1 q
   ·exact h4.ld.2 q
 ·intro i v f hv hf
  match i,hv,hf with
  | 0,hv,hf =>
   cases hv; cases hf
   rintro u d N' K ⟨q1,q2,q3,q4,q5⟩ hdu hGu hN' hK
   refine callU_mk (fn:=Tryz.f62) (t:=34) Tryz.func62 (by kernel_rfl) (by kernel_rfl) (by kernel_rfl) ?_
   refine (F62.of (b1,0) (b14,0) u (Q:=fun v w'=>∃ x:Int,v=.int .i64 x/\K (.int .i64 x) w') ?_).mono (fun e w' ⟨v,he,x,hv,h⟩=>⟨x,by rw [he,hv],h⟩)
   have fd:Fr (fun _=>False) u u.drew:=Fr.drew _ _
   have q1:=q1.fr fd (fun h=>h)
   have q3:=q3.fr fd (fun h=>h)
   have q5:=q5.fr fd (fun h=>h)
   refine ⟨_,q1.cell (o:=0) rfl,dr_mk ⟨_,q5.cell (o:=0) rfl,_,q3.cell (o:=0) rfl,?_⟩⟩
   refine (@Create_calls ⟨LgO P lb A A2⟩ db r d (segN (m:Int)) u.drew N' (DkO.out hdu fd (fun h=>h) (fun h=>h) (fun _ h=>h.elim)) hGu.i hGu.b hN' (by have:=segN_size (m:Int); omega)).mono ?_
   rintro e u' ⟨fu',rfl,hdu'⟩
   exact ⟨_,rfl,_,rfl,hK u' (fd.trans fu' (fun _ _ h=>h.elim) (fun _ _ h=>h)) hdu'⟩
  | 1,hv,hf =>
   cases hv; cases hf
   rintro u d N' K ⟨q1,q2,q3,q4,q5⟩ hdu hGu hN' hK
   refine callU_mk (fn:=Tryz.f64) (t:=34) Tryz.func64 (by kernel_rfl) (by kernel_rfl) (by kernel_rfl) ?_
   refine (F64.of (b1,0) (b14,0) (b26,0) u (Q:=fun v w'=>∃ x:Int,v=.int .i64 x/\K (.int .i64 x) w') ?_).mono (fun e w' ⟨v,he,x,hv,h⟩=>⟨x,by rw [he,hv],h⟩)
   have fd:Fr (fun _=>False) u u.drew:=Fr.drew _ _
   have q1:=q1.fr fd (fun h=>h)
   have q2:=q2.fr fd (fun h=>h)
   have q3:=q3.fr fd (fun h=>h)
   have q5:=q5.fr fd (fun h=>h)
   refine ⟨_,q1.cell (o:=0) rfl,dr_mk ⟨_,q5.cell (o:=0) rfl,_,q3.cell (o:=0) rfl,_,_,_,q2.cell (o:=0) rfl,?_⟩⟩
   refine (@Append_calls ⟨LgO P lb A A2⟩ db r d (segN (m:Int)) A23 _ c25 (mkW (hdR m M.tq)) u.drew N' (DkO.out hdu fd (fun h=>h) (fun h=>h) (fun _ h=>h.elim)) hGu.i hGu.b hN' (fd.sl q4 (fun _ _ _ h=>h)) (by omega)).mono ?_
   rintro e u' ⟨fu',rfl,hdu'⟩
   exact ⟨_,rfl,_,rfl,hK u' (fd.trans fu' (fun _ _ h=>h.elim) (fun _ _ h=>h)) hdu'⟩
  | 2,hv,hf =>
   cases hv; cases hf
   rintro u d N' K ⟨q1,q2,q3,q4,q5⟩ hdu hGu hN' hK
   refine callU_mk (fn:=Tryz.f65) (t:=34) Tryz.func65 (by kernel_rfl) (by kernel_rfl) (by kernel_rfl) ?_
   refine (F65.of (b1,0) (b14,0) u (Q:=fun v w'=>∃ x:Int,v=.int .i64 x/\K (.int .i64 x) w') ?_).mono (fun e w' ⟨v,he,x,hv,h⟩=>⟨x,by rw [he,hv],h⟩)
   have fd:Fr (fun _=>False) u u.drew:=Fr.drew _ _
   have q1:=q1.fr fd (fun h=>h)
   have q3:=q3.fr fd (fun h=>h)
   have q5:=q5.fr fd (fun h=>h)
   refine ⟨_,q1.cell (o:=0) rfl,dr_mk ⟨_,q5.cell (o:=0) rfl,_,q3.cell (o:=0) rfl,?_⟩⟩
   refine (@Sync_calls ⟨LgO P lb A A2⟩ db r d (segN (m:Int)) u.drew N' (DkO.out hdu fd (fun h=>h) (fun h=>h) (fun _ h=>h.elim)) hGu.i hGu.b hN').mono ?_
   rintro e u' ⟨fu',rfl,hdu'⟩
   exact ⟨_,rfl,_,rfl,hK u' (fd.trans fu' (fun _ _ h=>h.elim) (fun _ _ h=>h)) hdu'⟩
  | 3,hv,hf =>
   cases hv; cases hf
   rintro u d N' K ⟨q1,q2,q3,q4,q5⟩ hdu hGu hN' hK
   refine callU_mk (fn:=Tryz.f66) (t:=34) Tryz.func66 (by kernel_rfl) (by kernel_rfl) (by kernel_rfl) ?_
   refine (@SyncDir_calls ⟨LgO P lb A A2⟩ db r d u N' hdu hGu.i hGu.b hN').mono ?_
   rintro e u' ⟨fu',rfl,hdu'⟩
   exact ⟨_,rfl,hK u' fu' hdu'⟩
  | i+4,hv,hf=>cases hv
 ·have:=nx_ops M
  rw [hm] at this
  exact this
 ·rintro e w36 ⟨f36,rfl,hlb36,hd36⟩
  have e0:nxO M=stp [opC (segN (m:Int)),opA (segN (m:Int)) (mkW (hdR m M.tq)),opS (segN (m:Int)),opD] M.d:=by unfold nxO; rw [hm]; rfl
  rw [<- e0] at hlb36 hd36 ⊢
  have f436:Fr (LS lb db r) w4 w36:=(f429.trans1 f35).trans f36 (fun _ _ h=>h.elim) (fun _ _ h=>h)
  have h36:LgP P w36 lb db r { M with d:=(nxO M).1,e:=(nxO M).2 } A n c A2 n2 c2 vs:=h4.upd f436 hlb36 rfl rfl hd36
  have f036:=f04.trans1 f436
  refine ⟨_,rfl,vIf_mk (fun g3=>?_) (fun g3=>?_)⟩
  ·have g3:(nxO M).2=0:=by simpa using g3
   rw [if_neg (fun q=>q g3)]
   have fd2:Fr (fun _=>False) w36 w36.drew:=Fr.drew _ _
   have h37:=h36.fr0 fd2
   have f36L:Fr (LS lb db r) w29 w36:=(f35.mono (fun _ _ h=>h.elim)).trans1 f36
   have r1'':=(r1.fr f36L nb1).fr fd2 (fun h=>h)
   have r26'':=(r26.fr f36L nb26).fr fd2 (fun h=>h)
   have a2:IntKind.wrap .u64 ((M.tq:Nat)+1:Int)=((M.tq+1:Nat):Int):=by rw [u64_id (by omega) (by omega)]; rfl
   refine ⟨_,r1''.cell (o:=0) rfl,_,_,_,r26''.cell (o:=0) rfl,_,r1''.cell (o:=0) rfl,dr_mk ⟨_,h37.lg.cell (o:=0+7+4) rfl,dr_mk (gd_mk rfl ?_)⟩⟩
   show st w36.drew lb (0+7) ([Value.int .i64 (m:Int)] ++ ([Value.int .i64 (((mkW (hdR m M.tq)).length:Nat):Int)] ++ ([Value.int .i64 0] ++ ([Value.bool false] ++ ([Value.int .u64 (IntKind.wrap .u64 ((M.tq:Nat)+1:Int))] ++ []))))) _
   rw [a2,hhl]
   refine h37.st (L':={ M with d:=(nxO M).1,e:=(nxO M).2,ts:=(m:Int),tz:=37,tr:=0,sl:=false,tq:=M.tq+1 }) rfl (by show 0+7+5<=16; omega) (fun v hv=>?_) rfl rfl rfl (fun w49 f49 h49=>?_)
   ·simp only [List.cons_append,List.nil_append,List.mem_cons,List.not_mem_nil,or_false] at hv
    rcases hv with rfl | rfl | rfl | rfl | rfl <;> rfl
   ·refine ⟨f036.trans ((fd2.mono (fun _ _ h=>h.elim)).trans1 f49) (fun _ _ h=>h) (fun _ _ h=>h),?_,A,n,c,A2,n2,c2,vs,h49⟩
    rw [g3]
  ·have g3:¬ (nxO M).2=0:=by simpa using g3
   rw [if_pos g3]
   exact ⟨f036,rfl,A,n,c,A2,n2,c2,vs,h36⟩
theorem RcE.go {O O' S:Nat->Prop} {w w':World} {cs:List Value} {x:Rc} (h:RcE O w cs x) (f:Fr S w w') (hS:∀ k,S k->¬ O k) (hO:∀ k,k < w.heap.size->O k->O' k):RcE O' w' cs x:=by
 obtain ⟨A,n,c,e,h1,h2,h3,h4⟩:=h
 exact ⟨A,n,c,e,f.sl h1 (fun h0 k hk hs=>hS k hs (h3 h0 k hk)),h2,fun h0 k hk=>hO k (h1.blt (by omega) h0 hk) (h3 h0 k hk),h4⟩
theorem DkO.go {O O' S:Nat->Prop} {w w':World} {db r:Nat} {d:Dk} (h:DkO O w db r d) (f:Fr S w w') (h1:¬ S db) (h2:¬ S r) (hS:∀ k,S k->¬ O k) (hO:∀ k,k < w.heap.size->O k->O' k) (hn:∀ k,w'.heap.size<=k->O' k):DkO O' w' db r d:=by
 obtain ⟨u,v,fz,lv,q1,q2,q3,q4⟩:=h
 have ok:∀ {A:Option Addr} {n sz:Nat} {vs:List Value},@OkA ⟨O⟩ w A n->Sl w sz A n vs->sz ≠ 0->@OkA ⟨O'⟩ w' A n:=fun a b hz=>⟨hn,fun h0 k hk=>hO k (b.blt hz h0 hk) (a.2 h0 k hk)⟩
 have sl:∀ {A:Option Addr} {n sz:Nat} {vs:List Value},@OkA ⟨O⟩ w A n->Sl w sz A n vs->Sl w' sz A n vs:=fun a b=>f.sl b (fun h0 k hk hs=>hS k hs (a.2 h0 k hk))
 refine ⟨u,v,fz,lv,q1.fr f h1,?_,?_,q4⟩
 ·obtain ⟨A,n,c,A',n',c',e,k1,k2,k3,k4,k5⟩:=q2
  exact ⟨A,n,c,A',n',c',e,⟨sl k4 k1.1,k1.2⟩,⟨sl k5 k2.1,k2.2⟩,k3,ok k4 k1.1 (by omega),ok k5 k2.1 (by omega)⟩
 ·obtain ⟨g,k1,k2⟩:=q3
  refine ⟨g,k1.fr f h2,fun id=>?_⟩
  obtain ⟨cs,e,A,n,c,A',n',c',e2,a1,a2,a3,a4,a5,a6⟩:=k2 id
  obtain ⟨vs,s1,s2,s3⟩:=a3
  refine ⟨cs,e,A,n,c,A',n',c',e2,sl a5 a1,a2,⟨vs,sl a6 s1,s2,s3.mono (fun cs x hx=>?_)⟩,a4,ok a5 a1 (by omega),ok a6 s1 (by omega)⟩
  obtain ⟨B,m,k,e3,t1,t2,t3⟩:=hx
  exact ⟨B,m,k,e3,sl t3 t1,t2,ok t3 t1 (by omega)⟩
structure LgQ (P:Nat->Prop) (w:World) (lb db r:Nat) (L:Lg) (bl:List UInt8) (A:Option Addr) (n c:Nat) (A2:Option Addr) (n2 c2:Nat) (vs:List Value):Prop where
 lg:RecAt w lb 63 (lgC db L A n c A2 n2 c2)
 one:L.c6.oneCell'=true
 row:Row w 0 71 38 A n c vs
 rcs:Ech 38 (RcE (LgR P lb db r A A2) w) vs L.rs
 len:L.rs.length=n
 byt:Row w 0 5 1 A2 n2 c2 (bl.map bv)
 dk:DkO (LgO P lb A A2) w db r L.d
 new:∀ k,w.heap.size<=k->P k
 pl:P lb
 pd:P db/\P r
 ld:lb ≠ db/\lb ≠ r
 bA:∀ k,blkOf A=some k->P k/\k ≠ lb/\k ≠ db/\k ≠ r/\blkOf A2 ≠ some k
 bB:∀ k,blkOf A2=some k->P k/\k ≠ lb/\k ≠ db/\k ≠ r
section
variable {P P' S:Nat->Prop} {w w':World} {lb db r:Nat} {L L':Lg} {bl:List UInt8} {A:Option Addr} {n c:Nat} {A2:Option Addr} {n2 c2:Nat} {vs:List Value}
theorem LgP.q (h:LgP P w lb db r L A n c A2 n2 c2 vs):LgQ P w lb db r L (byW L.rs) A n c A2 n2 c2 vs:=⟨h.lg,h.one,h.row,h.rcs,h.len,h.byt,h.dk,h.new,h.pl,h.pd,h.ld,h.bA,h.bB⟩
theorem LgQ.p (h:LgQ P w lb db r L bl A n c A2 n2 c2 vs) (e:bl=byW L.rs):LgP P w lb db r L A n c A2 n2 c2 vs:=⟨h.lg,h.one,h.row,h.rcs,h.len,by rw [<- e]; exact h.byt,h.dk,h.new,h.pl,h.pd,h.ld,h.bA,h.bB⟩
theorem LgQ.lt (h:LgQ P w lb db r L bl A n c A2 n2 c2 vs):lb < w.heap.size/\db < w.heap.size/\r < w.heap.size :=
 ⟨h.lg.lt,(@DkAt.lt ⟨LgO P lb A A2⟩ _ _ _ _ h.dk).1,(@DkAt.lt ⟨LgO P lb A A2⟩ _ _ _ _ h.dk).2⟩
theorem LgQ.go (h:LgQ P w lb db r L bl A n c A2 n2 c2 vs) (f:Fr S w w') (hS:∀ k,S k->¬ P k) (h1:∀ k,k < w.heap.size->P k->P' k) (h2:∀ k,w'.heap.size<=k->P' k):LgQ P' w' lb db r L bl A n c A2 n2 c2 vs:=by
 have hl:=h.lt
 have hs:=f.size
 have oA:∀ k,blkOf A=some k->k < w.heap.size:=fun k hk=>(h.row.blt hk).2
 have oB:∀ k,blkOf A2=some k->k < w.heap.size:=fun k hk=>(h.byt.blt hk).2
 refine ⟨h.lg.fr f (fun q=>hS _ q h.pl),h.one,f.row h.row (fun b hb q=>hS _ q (h.bA b hb).1),h.rcs.mono (fun cs x hx=>hx.go f (fun k q q2=>hS k q q2.1.1) (fun k hk q=>⟨⟨h1 k hk q.1.1,q.1.2⟩,q.2⟩)),h.len,f.row h.byt (fun b hb q=>hS _ q (h.bB b hb).1),h.dk.go f (fun q=>hS _ q h.pd.1) (fun q=>hS _ q h.pd.2) (fun k q q2=>hS k q q2.1) (fun k hk q=>⟨h1 k hk q.1,q.2⟩) (fun k hk=>⟨h2 k hk,by omega,fun q=>?_,fun q=>?_⟩),h2,h1 _ hl.1 h.pl,⟨h1 _ hl.2.1 h.pd.1,h1 _ hl.2.2 h.pd.2⟩,h.ld,fun k hk=>⟨h1 k (oA k hk) (h.bA k hk).1,(h.bA k hk).2⟩,fun k hk=>⟨h1 k (oB k hk) (h.bB k hk).1,(h.bB k hk).2⟩⟩
 ·have:=oA k q; omega
 ·have:=oB k q; omega
theorem LgQ.app7 (h:LgQ P w lb db r L bl A n c A2 n2 c2 vs) {B:Option Addr} {m cB:Nat} {b:List UInt8} (hb:Sl w 1 B m (b.map bv)) (hm:n2+m<=1099511627776) {K:Option Addr->Nat->Nat->World->Prop}
  (hK:∀ A2' c2' w2,Fr (fun k=>k=lb\/blkOf A2=some k) w w2->LgQ P w2 lb db r L (bl ++ b) A n c A2' (n2+m) c2' vs->(∀ k,blkOf A2'=some k->blkOf A2=some k\/w.heap.size<=k)->K A2' (n2+m) c2' w2) :
  app w 1 1 [Value.int .u8 0] 5 A2 n2 c2 (.slice B m cB) fun A' n' c' w1=>dr (some ⟨lb,0,none⟩) fun b57 o58=>st w1 b57 (o58+13) [Value.slice A' n' c'] fun w2=>K A' n' c' w2:=by
 have hl:=h.lt
 refine app_row2 h.byt hb.src (bvs_one b) rfl (by show (n2+m) * 1<=_; omega) (by omega) (Nat.zero_le _) (fun A2' c2' w1 hr f hA=>dr_mk ?_)
 have hlb1:=h.lg.fr f (fun q=>(h.bB _ q).2.1 rfl)
 refine hlb1.st_mk (o:=0+13) (by show 0+13+1<=16; omega) (fun v hv=>by simp at hv; subst hv; rfl) (fun q g=>?_)
 have q:RecAt (stB w1 lb (0+13) [Value.slice A2' (n2+m) c2']) lb 63 (lgC db L A n c A2' (n2+m) c2'):=q
 generalize stB w1 lb (0+13) [Value.slice A2' (n2+m) c2']=w2 at q g ⊢
 have ff:Fr (fun k=>k=lb\/blkOf A2=some k) w w2:=f.trans g (fun _ _ h=>.inr h) (fun _ _ h=>.inl h)
 have sA:∀ k,k < w.heap.size->blkOf A2'=some k->blkOf A2=some k:=fun k hk e=>(hA k e).elim id (fun q=>by omega)
 have s1:=f.size
 have s2:=g.size
 refine hK A2' c2' w2 ff ⟨q,h.one,ff.row h.row (fun k hk hs=>?_),h.rcs.mono (fun cs x hx=>hx.go ff (fun k hs hq=>?_) (fun k hk hq=>⟨⟨hq.1.1,hq.1.2.1,hq.1.2.2.1,fun e=>hq.1.2.2.2 (sA k hk e)⟩,hq.2⟩)),h.len,?_,h.dk.go ff (fun hs=>?_) (fun hs=>?_) (fun k hs hq=>?_) (fun k hk hq=>⟨hq.1,hq.2.1,hq.2.2.1,fun e=>hq.2.2.2 (sA k hk e)⟩) (fun k hk=>⟨h.new k (by omega),by omega,fun e=>?_,fun e=>?_⟩),fun k hk=>h.new k (by omega),h.pl,h.pd,h.ld,fun k hk=>⟨(h.bA k hk).1,(h.bA k hk).2.1,(h.bA k hk).2.2.1,(h.bA k hk).2.2.2.1,fun e=>(h.bA k hk).2.2.2.2 (sA k (h.row.blt hk).2 e)⟩,fun k hk=>?_⟩ hA
 ·rcases hs with hs | hs
  ·exact (h.bA k hk).2.1 hs
  ·exact (h.bA k hk).2.2.2.2 hs
 ·rcases hs with hs | hs
  ·exact hq.1.2.1 hs
  ·exact hq.1.2.2.2 hs
 ·rw [List.map_append]
  refine g.row hr (fun k hk hs=>?_)
  have hs:k=lb:=hs
  rcases hA k hk with e | e
  ·exact (h.bB k e).2.1 hs
  ·omega
 ·rcases hs with hs | hs
  ·exact h.ld.1 hs.symm
  ·exact (h.bB _ hs).2.2.1 rfl
 ·rcases hs with hs | hs
  ·exact h.ld.2 hs.symm
  ·exact (h.bB _ hs).2.2.2 rfl
 ·rcases hs with hs | hs
  ·exact hq.2.1 hs
  ·exact hq.2.2.2 hs
 ·have:=(h.row.blt e).2; omega
 ·have:=(hr.blt e).2; omega
 ·rcases hA k hk with e | e
  ·exact h.bB k e
  ·exact ⟨h.new k e,by omega,by omega,by omega⟩
theorem LgQ.app8 (h:LgQ P w lb db r L bl A n c A2 n2 c2 vs) {b:Nat} {cs:List Value} {x:Rc} (hb:RecAt w b 71 cs) (hx:RcE (LgR P lb db r A A2) w cs x) (hm:n<=1099511627) {K:Option Addr->Nat->Nat->World->Prop}
  (hK:∀ A' c' w2,Fr (fun k=>k=lb\/blkOf A=some k) w w2->LgQ P w2 lb db r { L with rs:=L.rs ++ [x] } bl A' (n+1) c' A2 n2 c2 (vs ++ cs)->K A' (n+1) c' w2) :
  app w 38 104 Z71 71 A n c (.slice (some ⟨b,0,none⟩) 1 1) fun A' n' c' w1=>dr (some ⟨lb,0,none⟩) fun b57 o58=>st w1 b57 (o58+12) [Value.slice A' n' c'] fun w2=>K A' n' c' w2:=by
 have hl:=h.lt
 have hxl:=hx.len
 refine app_row2 (us:=cs) (m:=1) h.row ⟨rfl,by rw [hxl.1],fun _=>dr_mk (rec_rd hb)⟩ hxl.2 rfl (by omega) (by omega) (Nat.zero_le _) (fun A' c' w1 hr f hA=>dr_mk ?_)
 have hlb1:=h.lg.fr f (fun q=>(h.bA _ q).2.1 rfl)
 refine hlb1.st_mk (o:=0+12) (by show 0+12+1<=16; omega) (fun v hv=>by simp at hv; subst hv; rfl) (fun q g=>?_)
 have q:RecAt (stB w1 lb (0+12) [Value.slice A' (n+1) c']) lb 63 (lgC db { L with rs:=L.rs ++ [x] } A' (n+1) c' A2 n2 c2):=q
 generalize stB w1 lb (0+12) [Value.slice A' (n+1) c']=w2 at q g ⊢
 have ff:Fr (fun k=>k=lb\/blkOf A=some k) w w2:=f.trans g (fun _ _ h=>.inr h) (fun _ _ h=>.inl h)
 have sA:∀ k,k < w.heap.size->blkOf A'=some k->blkOf A=some k:=fun k hk e=>(hA k e).elim id (fun q=>by omega)
 have s1:=f.size
 have s2:=g.size
 have hS:∀ k,(k=lb\/blkOf A=some k)->¬ LgR P lb db r A A2 k:=by
  rintro k (hs | hs) hq
  ·exact hq.1.2.1 hs
  ·exact hq.1.2.2.1 hs
 have hO:∀ k,k < w.heap.size->LgR P lb db r A A2 k->LgR P lb db r A' A2 k:=fun k hk hq=>⟨⟨hq.1.1,hq.1.2.1,fun e=>hq.1.2.2.1 (sA k hk e),hq.1.2.2.2⟩,hq.2⟩
 refine hK A' c' w2 ff ⟨q,h.one,g.row hr (fun k hk hs=>?_),(h.rcs.mono (fun cs x hx=>hx.go ff hS hO)).snoc h.row.len h.len hxl.1 (hx.go ff hS hO),by rw [List.length_append,h.len]; rfl,ff.row h.byt (fun k hk hs=>?_),h.dk.go ff (fun hs=>?_) (fun hs=>?_) (fun k hs hq=>?_) (fun k hk hq=>⟨hq.1,hq.2.1,fun e=>hq.2.2.1 (sA k hk e),hq.2.2.2⟩) (fun k hk=>⟨h.new k (by omega),by omega,fun e=>?_,fun e=>?_⟩),fun k hk=>h.new k (by omega),h.pl,h.pd,h.ld,fun k hk=>?_,h.bB⟩
 ·have hs:k=lb:=hs
  rcases hA k hk with e | e
  ·exact (h.bA k e).2.1 hs
  ·omega
 ·rcases hs with hs | hs
  ·exact (h.bB k hk).2.1 hs
  ·exact (h.bA k hs).2.2.2.2 hk
 ·rcases hs with hs | hs
  ·exact h.ld.1 hs.symm
  ·exact (h.bA _ hs).2.2.1 rfl
 ·rcases hs with hs | hs
  ·exact h.ld.2 hs.symm
  ·exact (h.bA _ hs).2.2.2.1 rfl
 ·rcases hs with hs | hs
  ·exact hq.2.1 hs
  ·exact hq.2.2.1 hs
 ·have:=(hr.blt e).2; omega
 ·have:=(h.byt.blt e).2; omega
 ·rcases hA k hk with e | e
  ·exact h.bA k e
  ·exact ⟨h.new k e,by omega,by omega,by omega,fun e2=>by have:=(h.byt.blt e2).2; omega⟩
end
set_option maxHeartbeats 1000000 in
theorem own_calls (x:Rc) (A:Option Addr) (n c q:Nat) (w:World) (hd:x.d.length=32) (hD:Sl w 1 A n (x.dat.map bv)) (hn:n<=1099511627776) :
  Calls Tryz.prog 40 #[ofL (rcC x A n c),.int .u64 (q:Nat)] w fun e w'=>∃ A' c',e=.returned (ofL (rcC { x with sq:=q } A' n c'))/\RB w w' A' n c' x.dat:=by
 refine (F40.of _ (q:Nat) w (Q:=fun v w'=>∃ A' c',v=ofL (rcC { x with sq:=q } A' n c')/\RB w w' A' n c' x.dat) ?_).mono (fun e w' ⟨v,he,A',c',hv,h⟩=>⟨A',c',by rw [he,hv],h⟩)
 refine rec_new (fun b1 w2 f2 hb1 r1=>rec_new (fun b3 w4 f4 hb3 r3=>?_))
 have l0:=r1.lt
 have r1:=r1.fr f4 (fun h=>h)
 have f04:=f2.trans1 f4
 have s2:=f2.size
 have l1:=r1.lt
 have l3:=r3.lt
 refine ⟨_,_,_,r1.cell (o:=0+35) (by rw [Nat.zero_add]; exact rc_data hd A n c),(clone_by A n c x.dat w4 (f04.sl hD (fun _ _ _ h=>h)) hn).mono ?_⟩
 rintro e w8 ⟨f8,A10,c12,rfl,h8⟩
 have r1:=r1.fr f8 (fun h=>h)
 have r3:=r3.fr f8 (fun h=>h)
 refine ⟨A10,n,c12,rfl,r1.st_mk (o:=0+35) (by rw [rcC_len hd]; show 0+35+1<=38; omega) (fun v hv=>by simp at hv; subst hv; rfl) (fun q1 g1=>?_)⟩
 rw [show (0+35:Nat)=35 from rfl,rcC_sta hd] at q1
 refine q1.st_mk (o:=0+1) (by rw [rcC_len hd]; show 0+1+1<=38; omega) (fun v hv=>by simp at hv; subst hv; rfl) (fun q2 g2=>?_)
 have q2:RecAt (stB (stB w8 b1 35 [Value.slice A10 n c12]) b1 (0+1) [Value.int .u64 (q:Nat)]) b1 71 (rcC { x with sq:=q } A10 n c12):=q2
 have g12:Fr (fun k=>k=b1) w8 (stB (stB w8 b1 35 [Value.slice A10 n c12]) b1 (0+1) [Value.int .u64 (q:Nat)]):=Fr.trans1 g1 g2
 have r3:=r3.fr g12 (fun h=>by have h:b3=b1:=h; omega)
 have h8:=g12.row h8 (fun k hk h=>by have h:k=b1:=h; have:=(h8.blt hk).1; omega)
 show ldA 38 (stB (stB w8 b1 35 [Value.slice A10 n c12]) b1 (0+1) [Value.int .u64 (q:Nat)]) b1 0 _
 generalize stB (stB w8 b1 35 [Value.slice A10 n c12]) b1 (0+1) [Value.int .u64 (q:Nat)]=w14 at q2 g12 r3 h8 ⊢
 have f014:Fr (fun _=>False) w w14:=(f04.trans1 f8).trans g12 (fun _ _ h=>h) (fun k hk h=>by have h:k=b1:=h; omega)
 refine ⟨_,rcC_len (x:={ x with sq:=q }) hd _ _ _,rec_all q2,?_⟩
 refine ansN_mk (N:=38) (cs:=rcC { x with sq:=q } A10 n c12) (K:=fun a w1=>∃ A' c',ofL a=ofL (rcC { x with sq:=q } A' n c')/\RB w w1 A' n c' x.dat) r3 rfl (rcC_len (x:={ x with sq:=q }) hd _ _ _) (rcC_one _ _ _ _) (fun w' g=>⟨A10,c12,rfl,f014.trans g (fun _ _ h=>h) (fun k hk h=>by have h:k=b3:=h; omega),?_⟩)
 have h9:=g.row h8 (fun k hk h=>by have h:k=b3:=h; have:=(h8.blt hk).1; omega)
 exact row_low f04.size h9
def nmR:List Rc->Nat->List Rc
 | [],_=>[]
 | x :: r,q=>{ x with sq:=q } :: nmR r (q+1)
theorem nmR_len:∀ (l:List Rc) (q:Nat),(nmR l q).length=l.length
 | [],_=>rfl
 | x :: l,q=>by
  show (nmR l (q+1)).length+1=l.length+1
  rw [nmR_len l]
theorem nmR_snoc:∀ (l:List Rc) (x:Rc) (q:Nat),nmR (l ++ [x]) q=nmR l q ++ [{ x with sq:=q+l.length }]
 | [],x,q=>rfl
 | y :: l,x,q=>by
  show { y with sq:=q } :: nmR (l ++ [x]) (q+1)={ y with sq:=q } :: (nmR l (q+1) ++ _)
  rw [nmR_snoc l x (q+1),List.length_cons,show q+1+l.length=q+(l.length+1) by omega]
theorem byW_app (a b:List Rc):byW (a ++ b)=byW a ++ byW b:=by unfold byW; rw [List.map_append,List.flatten_append]
def wdS:List Rc->Int->Int->List Wo
 | [],_,_=>[]
 | x :: r,s,z=>wdR x s z ((mkW x).length:Int) :: wdS r s (z+((mkW x).length:Int))
theorem wdS_snoc:∀ (l:List Rc) (x:Rc) (s z:Int),wdS (l ++ [x]) s z=wdS l s z ++ [wdR x s (z+((byW l).length:Int)) ((mkW x).length:Int)]
 | [],x,s,z=>by
  show [wdR x s z ((mkW x).length:Int)]=[wdR x s (z+((0:Nat):Int)) ((mkW x).length:Int)]
  rw [show z+((0:Nat):Int)=z by omega]
 | y :: l,x,s,z=>by
  have e:byW (y :: l)=mkW y ++ byW l:=rfl
  show wdR y s z _ :: wdS (l ++ [x]) s (z+((mkW y).length:Int))=wdR y s z _ :: (wdS l s (z+((mkW y).length:Int)) ++ _)
  rw [wdS_snoc l x s _,e,List.length_append,show z+((mkW y).length:Int)+((byW l).length:Int)=z+(((mkW y).length+(byW l).length:Nat):Int) by omega]
def opL (l:List Rc) (L:Lg):Lg:={ L with rs:=L.rs ++ nmR l (L.tq+L.rs.length) }
def opW (l:List Rc) (L:Lg):List Wo:=wdS (nmR l (L.tq+L.rs.length)) L.ts (L.tz+((byW L.rs).length:Int))
theorem opL_snoc (l:List Rc) (x:Rc) (L:Lg):opL (l ++ [x]) L={ opL l L with rs:=(opL l L).rs ++ [{ x with sq:=L.tq+(opL l L).rs.length }] }:=by
 unfold opL
 dsimp only
 rw [nmR_snoc,List.append_assoc,List.length_append,nmR_len,Nat.add_assoc]
theorem opW_snoc (l:List Rc) (x:Rc) (L:Lg):opW (l ++ [x]) L=opW l L ++ [wdR { x with sq:=L.tq+(opL l L).rs.length } L.ts (L.tz+((byW (opL l L).rs).length:Int)) ((mkW { x with sq:=L.tq+(opL l L).rs.length }).length:Int)]:=by
 unfold opW opL
 dsimp only
 rw [nmR_snoc,wdS_snoc,byW_app,List.length_append,List.length_append,nmR_len,Nat.add_assoc,show L.tz+((byW L.rs).length:Int)+((byW (nmR l (L.tq+L.rs.length))).length:Int)=L.tz+(((byW L.rs).length+(byW (nmR l (L.tq+L.rs.length))).length:Nat):Int) by omega]
theorem opL_nil (L:Lg):opL [] L=L:=by
 unfold opL nmR
 rw [List.append_nil]
theorem take_snoc {l:List Rc} {i:Nat} {x:Rc} (h:l[i]?=some x):l.take (i+1)=l.take i ++ [x]:=by rw [List.take_add_one,h]; rfl
theorem nmR_take:∀ (l:List Rc) (q i:Nat),(nmR l q).take i=nmR (l.take i) q
 | [],q,i=>by cases i <;> rfl
 | x :: l,q,0=>rfl
 | x :: l,q,i+1=>by
  show _ :: (nmR l (q+1)).take i=_ :: nmR (l.take i) (q+1)
  rw [nmR_take l]
theorem byW_take (l:List Rc) (i:Nat):(byW (l.take i)).length<=(byW l).length:=by
 have h:byW l=byW (l.take i) ++ byW (l.drop i):=by rw [<- byW_app,List.take_append_drop]
 rw [h,List.length_append]; omega
theorem op_le (l:List Rc) (L:Lg) (i:Nat):(byW (opL (l.take i) L).rs).length<=(byW (opL l L).rs).length:=by
 unfold opL
 dsimp only
 rw [byW_app,byW_app,List.length_append,List.length_append,<- nmR_take]
 have:=byW_take (nmR l (L.tq+L.rs.length)) i
 omega
structure Wr2 (w:World) (B:Nat) (A:Option Addr) (n c:Nat) (l:List Wo):Prop where
 row:Row w B 73 39 A n c (wsC l)
 len:l.length=n
 d:W39 l
theorem Wr2.fr {S:Nat->Prop} {w w':World} {B:Nat} {A:Option Addr} {n c:Nat} {l:List Wo} (h:Wr2 w B A n c l) (f:Fr S w w') (hS:∀ k,B<=k->¬ S k):Wr2 w' B A n c l:=⟨f.row h.row (fun k hk=>hS k (h.row.blt hk).1),h.len,h.d⟩
theorem RSl.d {O:Nat->Prop} {w:World} {A:Option Addr} {n:Nat} {l:List Rc} (h:RSl O w A n l):∀ x ∈ l,x.d.length=32:=fun x hm=>by
 obtain ⟨j,hj⟩:=List.mem_iff_getElem?.1 hm
 obtain ⟨⟨vs,_,hE⟩,_⟩:=h
 obtain ⟨_,_,_,_,_,_,_,hd,_⟩:=hE j x hj
 exact hd
theorem Wr2.push {w:World} {B:Nat} {A:Option Addr} {n c:Nat} {l:List Wo} (h:Wr2 w B A n c l) (hB:B<=w.heap.size) {x:Wo} (hd:x.d.length=32) (hm:n < 1099511627776) {K:Option Addr->Nat->Nat->World->Prop}
  (hK:∀ A' c' w',Wr2 w' B A' (n+1) c' (l ++ [x])->Fr (fun k=>blkOf A=some k) w w'->(∀ k,blkOf A'=some k->blkOf A=some k\/w.heap.size<=k)->K A' (n+1) c' w') :
  nw w (woC x ++ []) 73 fun b w1=>app w1 39 96 Z73 73 A n c (.slice (some ⟨b,0,none⟩) 1 1) K:=by
 rw [List.append_nil]
 refine rec_new (fun b w1 f1 hb r1=>?_)
 have s1:=f1.size
 refine app_row2 (us:=woC x) (m:=1) (f1.row h.row (fun _ _ h=>h)) ⟨rfl,by rw [woC_len hd],fun _=>dr_mk (rec_rd r1)⟩ (woC_one x) rfl (by show (n+1) * 96<=_; omega) (by omega) (by omega) (fun A' c' w' hr f hA=>hK A' c' w' ⟨?_,by rw [List.length_append,h.len]; rfl,?_⟩ ((f1.mono (fun _ _ h=>h.elim)).trans1 f) (fun k hk=>(hA k hk).imp id (fun q=>by omega)))
 ·rw [wsC_app,wsC_one]; exact hr
 ·intro y hy
  rcases List.mem_append.1 hy with hy | hy
  ·exact h.d y hy
  ·simp at hy; subst hy; exact hd
theorem LgQ.fr0 {P:Nat->Prop} {w w':World} {lb db r:Nat} {L:Lg} {bl:List UInt8} {A:Option Addr} {n c:Nat} {A2:Option Addr} {n2 c2:Nat} {vs:List Value} (h:LgQ P w lb db r L bl A n c A2 n2 c2 vs) (f:Fr (fun _=>False) w w'):LgQ P w' lb db r L bl A n c A2 n2 c2 vs :=
 h.go f (fun _ h=>h.elim) (fun _ _ h=>h) (fun k hk=>h.new k (Nat.le_trans f.size hk))
set_option maxRecDepth 100000 in
set_option maxHeartbeats 4000000 in
theorem open_calls (P OA:Nat->Prop) (lb db r:Nat) (L:Lg) (A1:Option Addr) (n1 c1:Nat) (l:List Rc) (w:World) (h:LgAt P w lb db r L) (hA:RSl OA w A1 n1 l) (hOA:∀ k,OA k->¬ P k) (hl:∀ x ∈ l,rgR x=0)
  (hz:0<=L.tz/\L.tz+((byW (opL l L).rs).length:Int)<=65536) (hq:L.tq+(opL l L).rs.length<=1152921504606846976) (hts:0<=L.ts/\L.ts<=1000001) :
  Calls Tryz.prog 23 #[.pointer (some ⟨lb,0,none⟩),.slice A1 n1 c1] w fun e w'=>Fr P w w'/\LgAt P w' lb db r (opL l L)/\∃ A' c',e=.returned (.slice A' (opW l L).length c')/\Wr2 w' w.heap.size A' (opW l L).length c' (opW l L):=by
 refine (F23.of (some ⟨lb,0,none⟩) A1 n1 c1 w (Q:=fun v w'=>Fr P w w'/\LgAt P w' lb db r (opL l L)/\∃ A' c',v=.slice A' (opW l L).length c'/\Wr2 w' w.heap.size A' (opW l L).length c' (opW l L)) ?_).mono (fun e w' ⟨v,he,hf,hL,A',c',hv,h⟩=>⟨hf,hL,A',c',by rw [he,hv],h⟩)
 have hl1:=hA.len
 have hd:=hA.d
 have hfin:(opL l L).rs.length=L.rs.length+l.length:=by unfold opL; dsimp only; rw [List.length_append,nmR_len]
 have hnb:=byW_ge (opL l L).rs
 refine jnC_mk (loop_rule (fun s u=>∃ (i:Nat) (W:Option Addr) (cW:Nat),i<=n1/\s=(some ⟨lb,0,none⟩,(W,i,cW),(A1,n1,c1),(n1:Int),(i:Int),())/\Fr P w u/\LgAt (fun k=>P k/\blkOf W ≠ some k) u lb db r (opL (l.take i) L)/\Wr2 u w.heap.size W i cW (opW (l.take i) L)) (fun s _=>(n1 - s.2.2.2.2.1).toNat) ?_ _ _ ⟨0,none,0,by omega,rfl,Fr.refl _ _,?_,⟨Row.nil _ _ _ _,rfl,fun _ h=>by cases h⟩⟩)
 ·rintro s u C ⟨i,W,cW,hi,rfl,fu,⟨A,n,c,A2,n2,c2,vs,hu⟩,hW⟩ hC _
  refine vIf_mk (fun hlt=>?_) (fun hge=>?_)
  ·have hlt:(i:Int) < (n1:Int):=of_decide_eq_true hlt
   have gi:l[i]?=some (l[i]'(by omega)):=List.getElem?_eq_getElem (by omega)
   generalize l[i]'(by omega)=x at gi
   have hxm:=List.mem_of_getElem? gi
   have hle:=op_le l L (i+1)
   have hrl:(opL (l.take i) L).rs.length=L.rs.length+i:=by unfold opL; dsimp only; rw [List.length_append,nmR_len,List.length_take,Nat.min_eq_left (by omega)]
   have hsn:opL (l.take (i+1)) L={ opL (l.take i) L with rs:=(opL (l.take i) L).rs ++ [{ x with sq:=L.tq+(opL (l.take i) L).rs.length }] }:=by rw [take_snoc gi,opL_snoc]
   have hsw:opW (l.take (i+1)) L=opW (l.take i) L ++ [wdR { x with sq:=L.tq+(opL (l.take i) L).rs.length } L.ts (L.tz+((byW (opL (l.take i) L).rs).length:Int)) ((mkW { x with sq:=L.tq+(opL (l.take i) L).rs.length }).length:Int)]:=by rw [take_snoc gi,opW_snoc]
   have ets:(opL (l.take i) L).ts=L.ts:=rfl
   have etz:(opL (l.take i) L).tz=L.tz:=rfl
   have etq:(opL (l.take i) L).tq=L.tq:=rfl
   rw [hsn] at hle
   have hle:(byW ((opL (l.take i) L).rs ++ [{ x with sq:=L.tq+(opL (l.take i) L).rs.length }])).length<=(byW (opL l L).rs).length:=hle
   rw [byW_app,List.length_append] at hle
   have hbx:byW [{ x with sq:=L.tq+(opL (l.take i) L).rs.length }]=mkW { x with sq:=L.tq+(opL (l.take i) L).rs.length }:=by unfold byW; simp
   rw [hbx] at hle
   generalize opL (l.take i) L=M at *
   generalize hws:opW (l.take i) L=ws at *
   have hlen:=hu.len
   have hblen:(byW M.rs).length=n2:=by have:=hu.byt.len; rw [List.length_map,Nat.mul_one] at this; exact this
   generalize hq2:L.tq+M.rs.length=q at *
   have hqM:M.tq+n=q:=by rw [etq,<- hlen]; exact hq2
   refine rs_all (hA.fr fu (fun k hk ho=>hOA k ho hk)) gi (fun cs hx=>rcv_mk hx (fun b4 w6 f6 hb4 r4=>?_))
   obtain ⟨A0,n0,c0,rfl,x1,x2,x3,x4,x5,x6⟩:=hx
   have hn0:=sl_len x1
   have fd6:Fr (fun _=>False) w6 w6.drew:=Fr.drew _ _
   have f7:=f6.trans1 fd6
   have r4:=r4.fr fd6 (fun h=>h)
   have x1:=f7.sl x1 (fun _ _ _ h=>h)
   have hu7:=hu.fr0 f7
   have hb4':u.heap.size<=b4:=hb4
   generalize w6.drew=w7 at fd6 f7 r4 x1 hu7 ⊢
   have e1:IntKind.wrap .u64 ((n:Nat):Int)=(n:Int):=u64_id (by omega) (by omega)
   have e2:IntKind.wrap .u64 (((M.tq:Nat):Int)+(n:Int))=((q:Nat):Int):=by rw [u64_id (by omega) (by omega)]; omega
   refine ⟨_,rcC_len x4 _ _ _,rec_all r4,dr_mk ⟨_,hu7.lg.cell (o:=0+7+4) rfl,dr_mk ⟨_,_,_,hu7.lg.cell (o:=0+12) rfl,?_⟩⟩⟩
   dsimp only
   rw [e1,e2]
   have lt4:b4 < w7.heap.size:=r4.lt
   refine (own_calls x A0 n0 c0 q w7 x4 x1 (by omega)).mono ?_
   rintro e w16 ⟨A10,c12,rfl,h10⟩
   have r4:=r4.fr h10.1 (fun h=>h)
   refine ⟨_,rfl,gd_mk (by rw [rcC_len (x:={ x with sq:=q }) x4]; rfl) (fo_st r4 (by rw [rcC_len (x:={ x with sq:=q }) x4,rcC_len x4]) (rcC_one _ _ _ _) (fun w19 f19 r5=>?_))⟩
   have f716:=f7.trans1 h10.1
   have s7:=f7.size
   have s16:=h10.1.size
   have s19:=f19.size
   have f019:Fr (fun _=>False) u w19:=f716.trans f19 (fun _ _ h=>h) (fun k hk h=>by have h:k=b4:=h; omega)
   have hD19:Row w19 w7.heap.size 5 1 A10 n0 c12 (x.dat.map bv):=f19.row h10.2 (fun k hk h=>by have h:k=b4:=h; have:=(h10.2.blt hk).1; omega)
   have hD16:∀ k,blkOf A10=some k->w7.heap.size<=k/\k < w16.heap.size:=fun k hk=>h10.2.blt hk
   have hG:RcG { x with sq:=q }:=⟨x4,hl x hxm,by show q < _; omega⟩
   refine ⟨_,rcC_len (x:={ x with sq:=q }) x4 _ _ _,rec_all r5,(bmake_calls { x with sq:=q } A10 n0 c12 w19 hG x5 hD19.sl).mono ?_⟩
   rintro e w21 ⟨A23,c25,rfl,h23⟩
   have hml:=mkW_le (x:={ x with sq:=q }) x4 (hl x hxm)
   have fd21:Fr (fun _=>False) w21 w21.drew:=Fr.drew _ _
   have f21:=h23.1.trans1 fd21
   have r6:=r5.fr f21 (fun h=>h)
   have h23d:=fd21.row h23.2 (fun _ _ h=>h)
   have hu21:=hu.fr0 (f019.trans1 f21)
   have hD21:=f21.row hD19 (fun _ _ h=>h)
   have s21:=f21.size
   generalize w21.drew=w22 at fd21 f21 r6 h23d hu21 hD21 s21 ⊢
   have e3:IntKind.wrap .i64 (M.tz+(n2:Int))=L.tz+((byW M.rs).length:Int):=by rw [etz,hblen,i64_id (by omega) (by omega)]
   refine ⟨A23,_,c25,0,rfl,_,rcC_len (x:={ x with sq:=q }) x4 _ _ _,rec_all r6,dr_mk ⟨_,hu21.lg.cell (o:=0+7) rfl,dr_mk ⟨_,hu21.lg.cell (o:=0+7+1) rfl,dr_mk ⟨_,_,_,hu21.lg.cell (o:=0+13) rfl,?_⟩⟩⟩⟩
   dsimp only
   rw [e3,ets]
   refine (word39_calls { x with sq:=q } A10 n0 c12 L.ts (L.tz+((byW M.rs).length:Int)) ((mkW { x with sq:=q }).length:Int) w22 x4 hn0.symm).mono ?_
   rintro e w39 ⟨rfl,f39⟩
   have r7:=r6.fr f39 (fun h=>h)
   have hu39:=hu21.fr0 f39
   have hD39:=f39.row hD21 (fun _ _ h=>h)
   have h23e:=f39.row h23d (fun _ _ h=>h)
   have s39:=f39.size
   have f039:=(f019.trans1 f21).trans1 f39
   have s039:=f039.size
   have hlu:=hu.lt
   have hWb:∀ k,blkOf W=some k->w.heap.size<=k/\k < u.heap.size:=fun k hk=>hW.row.blt hk
   have hW39:Wr2 w39 w.heap.size W i cW ws:=hW.fr f039 (fun _ _ h=>h)
   have hPn:∀ k,w.heap.size<=k->P k:=by
    obtain ⟨_,_,_,_,_,_,_,h⟩:=h
    exact h.new
   have su:=fu.size
   refine ⟨_,rfl,gd_mk (by rw [woC_len (wdR_len (x:={ x with sq:=q }) x4 _ _ _)]; rfl) (hW39.push (by omega) (wdR_len (x:={ x with sq:=q }) x4 _ _ _) (by omega) (fun W' cW' w47 hW' f47 hWin=>?_))⟩
   have s47:=f47.size
   have hu47:LgQ (fun k=>P k/\blkOf W' ≠ some k) w47 lb db r M (byW M.rs) A n c A2 n2 c2 vs:=hu39.q.go f47 (fun k hk q=>q.2 hk) (fun k hk q=>⟨q.1,fun e=>(hWin k e).elim q.2 (fun h=>by omega)⟩) (fun k hk=>⟨(hu39.new k (by omega)).1,fun e=>by have:=(hW'.row.blt e).2; omega⟩)
   have r8:=r7.fr f47 (fun h=>by have:=(hWb b4 h).2; omega)
   have hD47:=f47.row hD39 (fun k hk h=>by have:=(hWb k h).2; have:=(hD16 k hk).1; omega)
   have h23f:=f47.row h23e (fun k hk h=>by have:=(hWb k h).2; have:=(h23.2.blt hk).1; omega)
   refine dr_mk ⟨_,_,_,hu47.lg.cell (o:=0+13) rfl,hu47.app7 h23f.sl (by omega) (fun A2' c2' w59 f59 hu59 hA2=>?_)⟩
   have s59:=f59.size
   have bA2:∀ k,blkOf A2=some k->k < u.heap.size:=fun k hk=>(hu.byt.blt hk).2
   have bA1:∀ k,blkOf A=some k->k < u.heap.size:=fun k hk=>(hu.row.blt hk).2
   have r9:=r8.fr f59 (fun h=>by
    rcases h with h | h
    ·omega
    ·have:=bA2 b4 h; omega)
   have hD59:=f59.row hD47 (fun k hk h=>by
    have:=(hD16 k hk).1
    rcases h with h | h
    ·omega
    ·have:=bA2 k h; omega)
   have hW59:Wr2 w59 w.heap.size W' (i+1) cW' _:=⟨f59.row hW'.row (fun k hk h=>by
    rcases h with h | h
    ·exact hu47.pl.2 (by rw [<- h]; exact hk)
    ·exact (hu47.bB k h).1.2 hk),hW'.len,hW'.d⟩
   have fd59:Fr (fun _=>False) w59 w59.drew:=Fr.drew _ _
   have hu60:=hu59.fr0 fd59
   have r10:=r9.fr fd59 (fun h=>h)
   refine dr_mk ⟨_,_,_,hu60.lg.cell (o:=0+12) rfl,_,rcC_len (x:={ x with sq:=q }) x4 _ _ _,rec_all r10,gd_mk (by rw [rcC_len (x:={ x with sq:=q }) x4]; rfl) ?_⟩
   rw [List.append_nil]
   refine rec_new (fun b66 w67 f67 hb66 r66=>kp_mk f67 hu60.lg.lt (fun h=>h) ?_)
   have f5967:=fd59.trans1 f67
   have hu67:=hu60.fr0 f67
   have hD67:=f5967.row hD59 (fun _ _ h=>h)
   have hW67:Wr2 w67 w.heap.size W' (i+1) cW' _:=hW59.fr f5967 (fun _ _ h=>h)
   have hxE:RcE (LgR (fun k=>P k/\blkOf W' ≠ some k) lb db r A A2') w67 (rcC { x with sq:=q } A10 n0 c12) { x with sq:=q }:=⟨A10,n0,c12,rfl,hD67.sl,hD67.le,fun h0 k hk=>by
    have k1:=(hD16 k hk)
    refine ⟨⟨⟨hPn k (by omega),fun e=>?_⟩,by omega,fun e=>by have:=bA1 k e; omega,fun e=>?_⟩,by omega,by omega⟩
    ·rcases hWin k e with e | e
     ·have:=(hWb k e).2; omega
     ·omega
    ·rcases hA2 k e with e | e
     ·have:=bA2 k e; omega
     ·omega,x4,x5,x6⟩
   refine hu67.app8 r66 hxE (by omega) (fun A' c' w74 f74 hu74=>jnC_mk (hC _ _ ⟨i+1,W',cW',by omega,?_,?_,?_,?_⟩ ?_))
   ·show (_,_,_,_,IntKind.wrap .i64 ((i:Int)+1),())=_
    rw [i64_id (by omega) (by omega)]; rfl
   ·have q1:Fr P u w39:=f039.mono (fun _ _ h=>h.elim)
    have q2:Fr P w39 w47:=f47.mono (fun k _ h=>hPn k (hWb k h).1)
    have q3:Fr P w47 w59:=f59.mono (fun k _ h=>by
     rcases h with h | h
     ·rw [h]; exact hu47.pl.1
     ·exact (hu47.bB k h).1.1)
    have q4:Fr P w59 w67:=f5967.mono (fun _ _ h=>h.elim)
    have q5:Fr P w67 w74:=f74.mono (fun k _ h=>by
     rcases h with h | h
     ·rw [h]; exact hu67.pl.1
     ·exact (hu67.bA k h).1.1)
    exact ((((fu.trans1 q1).trans1 q2).trans1 q3).trans1 q4).trans1 q5
   ·rw [hsn]
    exact ⟨A',_,c',A2',_,c2',_,hu74.p (by show _=byW (M.rs ++ [{ x with sq:=q }]); rw [byW_app,hbx])⟩
   ·rw [hsw]
    refine ⟨f74.row hW67.row (fun k hk h=>?_),hW67.len,hW67.d⟩
    rcases h with h | h
    ·exact hu67.pl.2 (by rw [<- h]; exact hk)
    ·exact (hu67.bA k h).1.2 hk
   ·show ((n1:Int) - IntKind.wrap .i64 ((i:Int)+1)).toNat < ((n1:Int) - (i:Int)).toNat
    rw [i64_id (by omega) (by omega)]; omega
  ·have hge:¬ (i:Int) < (n1:Int):=of_decide_eq_false hge
   have hin:i=n1:=by omega
   have eT:l.take i=l:=List.take_of_length_le (by omega)
   rw [eT] at hu hW
   have hwl:=hW.len
   refine ⟨fu,⟨A,n,c,A2,n2,c2,vs,(hu.q.go (P':=P) (Fr.refl (fun _=>False) _) (fun _ h=>h.elim) (fun k _ q=>q.1) (fun k hk=>(hu.new k hk).1)).p rfl⟩,W,cW,?_,?_⟩
   ·rw [hwl]
   ·rw [hwl]; exact hW
 ·obtain ⟨A,n,c,A2,n2,c2,vs,h⟩:=h
  refine ⟨A,n,c,A2,n2,c2,vs,?_⟩
  rw [show l.take 0=[] from rfl,opL_nil]
  exact (h.q.go (Fr.refl (fun _=>False) _) (fun _ h=>h.elim) (fun k _ q=>⟨q,fun e=>(by cases e)⟩) (fun k hk=>⟨h.new k hk,fun e=>(by cases e)⟩)).p rfl
def szK (k:Int):Rc:=⟨k,0,z32,[],[],1,0⟩
def szS (ks:List Int):Nat:=(ks.map fun k=>szW (szK k)).sum
theorem szW_7:szW (szK 7)=37:=by
 have e:szK 7=hdR 1 0:=rfl
 rw [e]
 unfold szW
 rw [if_pos (rg_hd (by omega) (by omega)),hd_len]
theorem szW_6:szW (szK 6)=29:=by
 have e:szK 6=cmR 1 0 0:=rfl
 rw [e]
 unfold szW
 rw [if_pos (rg_cm (by omega) (by omega)),cm_len]
theorem szW_8:szW (szK 8)=29:=by
 have e:szK 8=ftR 1 0 0:=rfl
 rw [e]
 unfold szW
 rw [if_pos (rg_ft (by omega) (by omega)),ft_len]
theorem szW_le (x:Rc) (hd:x.d.length=32):szW x<=65557:=by
 unfold szW
 split
 ·rename_i h; exact mkW_le hd h
 ·omega
theorem szS_le:∀ ks:List Int,szS ks<=ks.length * 65557
 | []=>Nat.zero_le _
 | k :: r=>by
  have h1:=szW_le (szK k) z32_len
  have h2:=szS_le r
  have e:szS (k :: r)=szW (szK k)+szS r:=by unfold szS; simp
  rw [e,List.length_cons]; omega
theorem szS_snoc (ks:List Int) (k:Int):szS (ks ++ [k])=szS ks+szW (szK k):=by unfold szS; simp
theorem sizes_calls (A:Option Addr) (n c:Nat) (ks:List Int) (w:World) (h:Sl w 1 A n (ivs ks)) (hn:n<=1000) :
  Calls Tryz.prog 38 #[.slice A n c] w fun e w'=>e=.returned (.int .i64 (szS ks:Nat))/\Fr (fun _=>False) w w':=by
 refine (F38.of A n c w (Q:=fun v w'=>v=.int .i64 (szS ks:Nat)/\Fr (fun _=>False) w w') ?_).mono (fun e w' ⟨v,he,hv,h⟩=>⟨by rw [he,hv],h⟩)
 have hl:=sl_n h
 have tk:∀ i,szS (ks.take i)<=1000 * 65557:=fun i=>Nat.le_trans (szS_le _) (Nat.mul_le_mul_right _ (by rw [List.length_take]; omega))
 refine jnC_mk (loop_rule (fun s u=>Fr (fun _=>False) w u/\∃ i:Nat,i<=n/\s=(((szS (ks.take i):Nat):Int),(A,n,c),(n:Int),(i:Int),())) (fun s _=>(n - s.2.2.2.1).toNat) ?_ _ _ ⟨Fr.refl _ _,0,by omega,rfl⟩)
 rintro s u C ⟨fu,i,hi,rfl⟩ hC _
 refine vIf_mk (fun hlt=>?_) (fun hge=>?_)
 ·have hlt:(i:Int) < (n:Int):=of_decide_eq_true hlt
  have gi:ks[i]?=some (ks[i]'(by omega)):=List.getElem?_eq_getElem (by omega)
  generalize ks[i]'(by omega)=k at gi
  have h1:=tk i
  have h2:=tk (i+1)
  have e1:ks.take (i+1)=ks.take i ++ [k]:=by rw [List.take_add_one,gi]; rfl
  rw [e1,szS_snoc] at h2
  refine sl_rd (fu.sl h (fun _ _ _ h=>h)) (by omega) gi ((bsize_calls (szK k) none 0 0 u z32_len (Nat.zero_le _) (Sl.nil _ _ _)).mono ?_)
  rintro e w4 ⟨rfl,f4⟩
  refine ⟨_,rfl,jnC_mk (hC _ _ ⟨fu.trans1 f4,i+1,by omega,?_⟩ ?_)⟩
  ·show (IntKind.wrap .i64 (((szS (ks.take i):Nat):Int)+((szW (szK k):Nat):Int)),(A,n,c),(n:Int),IntKind.wrap .i64 ((i:Int)+1),())=_
   rw [i64_id (n:=((szS (ks.take i):Nat):Int)+((szW (szK k):Nat):Int)) (by omega) (by omega),i64_id (by omega) (by omega),e1,szS_snoc]; rfl
  ·show ((n:Int) - IntKind.wrap .i64 ((i:Int)+1)).toNat < ((n:Int) - (i:Int)).toNat
   rw [i64_id (by omega) (by omega)]; omega
 ·have hge:¬ (i:Int) < (n:Int):=of_decide_eq_false hge
  have eT:ks.take i=ks:=List.take_of_length_le (by omega)
  refine ⟨?_,fu⟩
  rw [eT]
def cfC (L:Lg):List Value:=[.int .i64 L.sg,.int .i64 L.bt,.int .i64 L.c3,.int .i64 L.c4,.int .i64 L.c5,L.c6]
theorem room_of {sg:Int} (h : -1099511627776<=sg/\sg<=1099511627776):IntKind.wrap .i64 (sg - ((szS [7,6,8]:Nat):Int))=sg - 95:=by
 have e:szS [7,6,8]=95:=by
  show szW (szK 7)+(szW (szK 6)+(szW (szK 8)+0))=95
  rw [szW_7,szW_6,szW_8]
 rw [e,i64_id (by omega) (by omega)]; rfl
theorem croom_calls (cs:List Value) (sg:Int) (w:World) (hl:cs.length=6) (h0:cs[0]?=some (.int .i64 sg)) (hs : -1099511627776<=sg/\sg<=1099511627776) :
  Calls Tryz.prog 21 #[ofL cs] w fun e w'=>e=.returned (.int .i64 (sg - 95))/\Fr (fun _=>False) w w':=by
 refine (F21.of cs w (Q:=fun v w'=>v=.int .i64 (sg - 95)/\Fr (fun _=>False) w w') ?_).mono (fun e w' ⟨v,he,hv,h⟩=>⟨by rw [he,hv],h⟩)
 refine rec_new (fun b1 w2 f2 hb1 r1=>?_)
 have fd:Fr (fun _=>False) w2 w2.drew:=Fr.drew _ _
 have r1:=r1.fr fd (fun h=>h)
 refine ⟨sg,r1.cell (o:=0) h0,rec_new (fun b4 w5 f5 hb4 r4=>kp_mk f5 r1.lt (fun h=>h) ((sizes_calls _ 3 3 [7,6,8] w5 ⟨rfl,fun _=>⟨b4,0,rfl,rec_all r4⟩⟩ (by omega)).mono ?_))⟩
 rintro e w6 ⟨rfl,f6⟩
 refine ⟨_,rfl,kp_mk (f5.trans1 f6) r1.lt (fun h=>h) ⟨?_,(((f2.trans1 fd).trans1 f5).trans1 f6)⟩⟩
 rw [room_of hs]
noncomputable def rmL (L:Lg) (n size:Int):Lg×Int :=
 if L.ts=0\/L.sl=true\/L.tz+((byW L.rs).length:Int)+size+58 > L.sg then nxL L
 else if (L.rs.length:Int) > 0/\(L.rs.length:Int)+n > L.bt then flL L
 else (L,0)
theorem rm_G {L:Lg} {N:Nat} {n size:Int} (h:DkG L.d N):DkG (rmL L n size).1.d (N+8):=by
 have h1:=fl_G (L:=L) h
 unfold rmL
 split
 ·exact nx_G h
 ·split
  ·exact ⟨h1.i,h1.b.mono (by omega)⟩
  ·exact ⟨h.i,h.b.mono (by omega)⟩
set_option maxHeartbeats 2000000 in
theorem room_calls1 (P:Nat->Prop) (W:World) (lb db r:Nat) (L:Lg) (N:Nat) (m size:Int) (w:World) (h:LgAt P w lb db r L) (hE:Env P W w) (hB:LgB L) (hG:DkG L.d N) (hN:N+8<=349524) (hm:0<=m/\m<=1099511627776) (hsz:0<=size/\size<=1099511627776) :
  Calls Tryz.prog 22 #[.pointer (some ⟨lb,0,none⟩),.int .i64 m,.int .i64 size] w fun e w'=>Fr (LS lb db r) w w'/\e=.returned (.int .i64 (rmL L m size).2)/\LgAt P w' lb db r (rmL L m size).1:=by
 refine (F22.of (some ⟨lb,0,none⟩) m size w (Q:=fun v w'=>Fr (LS lb db r) w w'/\v=.int .i64 (rmL L m size).2/\LgAt P w' lb db r (rmL L m size).1) ?_).mono (fun e w' ⟨v,he,hf,hv,h⟩=>⟨hf,by rw [he,hv],h⟩)
 have hbz:=hB.tz
 have hbn:=hB.n
 have hcm:szW (cmR 0 0 0)=29:=by
  unfold szW
  rw [if_pos (rg_cm (by omega) (by omega)),cm_len]
 have hft:szW (ftR 0 0 0)=29:=by
  unfold szW
  rw [if_pos (rg_ft (by omega) (by omega)),ft_len]
 refine (bsize_calls (cmR 0 0 0) none 0 0 w z32_len (Nat.zero_le _) (Sl.nil _ _ _)).mono ?_
 rintro e w1 ⟨rfl,f1⟩
 rw [hcm]
 refine ⟨_,rfl,(bsize_calls (ftR 0 0 0) none 0 0 w1 z32_len (Nat.zero_le _) (Sl.nil _ _ _)).mono ?_⟩
 rintro e w4 ⟨rfl,f4⟩
 rw [hft]
 refine ⟨_,rfl,?_⟩
 have fd:Fr (fun _=>False) w4 w4.drew:=Fr.drew _ _
 have f5:=(f1.trans1 f4).trans1 fd
 have h5:=h.fr0 f5
 have hE5:=hE.up f5
 generalize w4.drew=w5 at fd f5 h5 hE5 ⊢
 have f5L:Fr (LS lb db r) w w5:=f5.mono (fun _ _ h=>h.elim)
 have k3:∀ t:Bool,(t=true ↔ (L.ts=0\/L.sl=true\/L.tz+((byW L.rs).length:Int)+size+58 > L.sg))->jnC (F22.k3 (fun v w'=>Fr (LS lb db r) w w'/\v=.int .i64 (rmL L m size).2/\LgAt P w' lb db r (rmL L m size).1)) (some ⟨lb,0,none⟩,m,t,()) w5:=by
  intro t ht
  refine jnC_mk (fun _=>vIf_mk (fun g=>?_) (fun g=>?_))
  ·have g:t=true:=g
   have e1:rmL L m size=nxL L:=if_pos (ht.1 g)
   rw [e1]
   refine (next_calls P W lb db r L N w5 h5 hE5 hB hG hN).mono ?_
   rintro e w6 ⟨f6,rfl,h6⟩
   exact ⟨_,rfl,f5L.trans1 f6,rfl,h6⟩
  ·have g:t=false:=g
   have e1:rmL L m size=if (L.rs.length:Int) > 0/\(L.rs.length:Int)+m > L.bt then flL L else (L,0):=if_neg (fun q=>by rw [ht.2 q] at g; cases g)
   rw [e1]
   have fd2:Fr (fun _=>False) w5 w5.drew:=Fr.drew _ _
   have h6:=h5.fr0 fd2
   have hE6:=hE5.up fd2
   have f6L:Fr (LS lb db r) w w5.drew:=f5L.trans1 (fd2.mono (fun _ _ h=>h.elim))
   have h60:=h6
   obtain ⟨A,n,c,A2,n2,c2,vs,h6⟩:=h6
   have hlen:=h6.len
   have k5:∀ t:Bool,(t=true ↔ ((L.rs.length:Int) > 0/\(L.rs.length:Int)+m > L.bt))->jnC (F22.k5 (fun v w'=>Fr (LS lb db r) w w'/\v=.int .i64 (if (L.rs.length:Int) > 0/\(L.rs.length:Int)+m > L.bt then flL L else (L,0)).2/\LgAt P w' lb db r (if (L.rs.length:Int) > 0/\(L.rs.length:Int)+m > L.bt then flL L else (L,0)).1)) (some ⟨lb,0,none⟩,t,()) w5.drew:=by
    intro t ht
    refine jnC_mk (fun _=>vIf_mk (fun g=>?_) (fun g=>?_))
    ·have g:t=true:=g
     rw [if_pos (ht.1 g)]
     refine (flush_calls P W lb db r L N w5.drew h60 hE6 hB hG (by omega)).mono ?_
     rintro e w7 ⟨f7,rfl,h7⟩
     exact ⟨_,rfl,f6L.trans1 f7,rfl,h7⟩
    ·have g:t=false:=g
     rw [if_neg (fun q=>by rw [ht.2 q] at g; cases g)]
     exact ⟨f6L,rfl,h60⟩
   refine dr_mk ⟨_,_,_,h6.lg.cell (o:=0+12) rfl,vIf_mk (fun g1=>?_) (fun g1=>?_)⟩
   ·have g1:(n:Int) > 0:=of_decide_eq_true g1
    refine dr_mk ⟨_,_,_,h6.lg.cell (o:=0+12) rfl,dr_mk ⟨_,h6.lg.cell (o:=0+1+1) rfl,k5 _ ?_⟩⟩
    dsimp only
    rw [i64_id (n:=((n:Nat):Int)+m) (by omega) (by omega),hlen]
    exact ⟨fun q=>⟨by omega,of_decide_eq_true q⟩,fun q=>decide_eq_true q.2⟩
   ·have g1:¬ (n:Int) > 0:=of_decide_eq_false g1
    exact k5 false ⟨fun q=>(by cases q),fun q=>absurd q.1 (by omega)⟩
 obtain ⟨A,n,c,A2,n2,c2,vs,h6⟩:=h5
 have hblen:(byW L.rs).length=n2:=by have:=h6.byt.len; rw [List.length_map,Nat.mul_one] at this; exact this
 refine dr_mk ⟨_,h6.lg.cell (o:=0+7) rfl,vIf_mk (fun g=>k3 true ⟨fun _=>.inl (by simpa using g),fun _=>rfl⟩) (fun g=>dr_mk ⟨_,h6.lg.cell (o:=0+7+3) rfl,vIf_mk (fun g2=>k3 true ⟨fun _=>.inr (.inl g2),fun _=>rfl⟩) (fun g2=>dr_mk ⟨_,h6.lg.cell (o:=0+7+1) rfl,dr_mk ⟨_,_,_,h6.lg.cell (o:=0+13) rfl,dr_mk ⟨_,h6.lg.cell (o:=0+1) rfl,k3 _ ?_⟩⟩⟩)⟩)⟩
 have g:¬ L.ts=0:=by simpa using g
 have e1:IntKind.wrap .i64 (L.tz+((n2:Nat):Int))=L.tz+((byW L.rs).length:Int):=by rw [i64_id (by omega) (by omega),hblen]
 have e2:IntKind.wrap .i64 (((29:Nat):Int)+((29:Nat):Int))=58:=by rw [i64_id (by omega) (by omega)]; rfl
 rw [e1,e2,i64_id (n:=L.tz+((byW L.rs).length:Int)+size) (by omega) (by omega),i64_id (n:=L.tz+((byW L.rs).length:Int)+size+58) (by omega) (by omega)]
 refine ⟨fun q=>.inr (.inr (of_decide_eq_true q)),fun q=>decide_eq_true ?_⟩
 rcases q with q | q | q
 ·exact absurd q g
 ·rw [g2] at q; cases q
 ·exact q
def szs (l:List Rc):Nat:=(l.map szW).sum
theorem szs_snoc (l:List Rc) (x:Rc):szs (l ++ [x])=szs l+szW x:=by unfold szs; simp
theorem szs_le:∀ l:List Rc,(∀ x ∈ l,x.d.length=32)->szs l<=l.length * 65557
 | [],_=>Nat.zero_le _
 | x :: r,h=>by
  have h1:=szW_le x (h x List.mem_cons_self)
  have h2:=szs_le r (fun y hy=>h y (List.mem_cons_of_mem _ hy))
  have e:szs (x :: r)=szW x+szs r:=by unfold szs; simp
  rw [e,List.length_cons]; omega
def aoL (M:Lg) (l:List Rc) (deeds:Int):Lg:={ opL l M with de:=IntKind.wrap .i64 (M.de+deeds) }
noncomputable def adL (L:Lg) (l:List Rc) (deeds:Int):Lg×List Wo×Int :=
  if L.e ≠ 0 then (L,[],L.e)
  else if (bmR l 0).2.2 ≠ 0 then (L,[],(bmR l 0).2.2)
  else if (szs l:Int) > L.sg - 95 then (L,[],18)
  else if (rmL L l.length (szs l)).2 ≠ 0 then ((rmL L l.length (szs l)).1,[],(rmL L l.length (szs l)).2)
  else if (aoL (rmL L l.length (szs l)).1 l deeds).bt<=((aoL (rmL L l.length (szs l)).1 l deeds).rs.length:Int) then
    (if (flL (aoL (rmL L l.length (szs l)).1 l deeds)).2 ≠ 0 then ((flL (aoL (rmL L l.length (szs l)).1 l deeds)).1,[],(flL (aoL (rmL L l.length (szs l)).1 l deeds)).2)
     else ((flL (aoL (rmL L l.length (szs l)).1 l deeds)).1,opW l (rmL L l.length (szs l)).1,0))
  else (aoL (rmL L l.length (szs l)).1 l deeds,opW l (rmL L l.length (szs l)).1,0)
theorem ad_G {L:Lg} {N:Nat} {l:List Rc} {deeds:Int} (h:DkG L.d N):DkG (adL L l deeds).1.d (N+10):=by
 have h0:DkG L.d (N+10):=⟨h.i,h.b.mono (by omega)⟩
 have h1:=rm_G (L:=L) (n:=l.length) (size:=szs l) h
 have h1':DkG (rmL L l.length (szs l)).1.d (N+10):=⟨h1.i,h1.b.mono (by omega)⟩
 have h2:DkG (flL (aoL (rmL L l.length (szs l)).1 l deeds)).1.d (N+8+2):=fl_G (L:=aoL (rmL L l.length (szs l)).1 l deeds) h1
 unfold adL
 split
 ·exact h0
 ·split
  ·exact h0
  ·split
   ·exact h0
   ·split
    ·exact h1'
    ·split
     ·split
      ·exact h2
      ·exact h2
     ·exact h1'
theorem LgAt.nP {P:Nat->Prop} {w:World} {lb db r:Nat} {L:Lg} (h:LgAt P w lb db r L):(∀ k,LS lb db r k->P k)/\(∀ k,w.heap.size<=k->P k)/\lb < w.heap.size/\db < w.heap.size/\r < w.heap.size:=by
 obtain ⟨A,n,c,A2,n2,c2,vs,h⟩:=h
 exact ⟨h.ls,h.new,h.lt⟩
set_option maxHeartbeats 4000000 in
theorem add_calls (P OA:Nat->Prop) (W:World) (lb db r:Nat) (L:Lg) (N:Nat) (A:Option Addr) (n c:Nat) (l:List Rc) (deeds:Int) (w:World) (h:LgAt P w lb db r L) (hE:Env P W w) (hB:LgB L) (hG:DkG L.d N) (hN:N+10<=349524)
    (hA:RSl OA w A n l) (hOA:∀ k,OA k->¬ P k) (hn:n<=60000) (hsg : -1099511627776<=L.sg)
    (hM:L.e=0->(bmR l 0).2.2=0->(szs l:Int)<=L.sg - 95->(rmL L l.length (szs l)).2=0->LgB (aoL (rmL L l.length (szs l)).1 l deeds)) :
    Calls Tryz.prog 10 #[.pointer (some ⟨lb,0,none⟩),.slice A n c,.int .i64 deeds] w fun e w'=>Fr P w w'/\LgAt P w' lb db r (adL L l deeds).1/\∃ A' c',e=.returned (.tuple #[.slice A' (adL L l deeds).2.1.length c',.int .i64 (adL L l deeds).2.2])/\Wr2 w' w.heap.size A' (adL L l deeds).2.1.length c' (adL L l deeds).2.1:=by
  refine (F10.of (some ⟨lb,0,none⟩) A n c deeds w (Q:=fun v w'=>Fr P w w'/\LgAt P w' lb db r (adL L l deeds).1/\∃ A' c',v=.tuple #[.slice A' (adL L l deeds).2.1.length c',.int .i64 (adL L l deeds).2.2]/\Wr2 w' w.heap.size A' (adL L l deeds).2.1.length c' (adL L l deeds).2.1) ?_).mono (fun e w' ⟨v,he,hf,hL,A',c',hv,h⟩=>⟨hf,hL,A',c',by rw [he,hv],h⟩)
  have hl:=hA.len
  have hd:=hA.d
  have nil:∀ u:World,Wr2 u w.heap.size none 0 0 []:=fun u=>⟨Row.nil _ _ _ _,rfl,fun _ h=>by cases h⟩
  obtain ⟨hls,hnew,hlb,hdb,hrb⟩:=h.nP
  refine (wrong_calls1 P lb db r L w h).mono ?_
  rintro e w1 ⟨rfl,rfl⟩
  refine ⟨_,rfl,vIf_mk (fun g=>?_) (fun g=>?_)⟩
  · have g:¬ L.e=0:=by simpa using g
    have e1:adL L l deeds=(L,[],L.e):=if_pos g
    rw [e1]
    exact ⟨Fr.refl _ _,h,none,0,rfl,nil _⟩
  have g:L.e=0:=by simpa using g
  refine (bmk_calls OA A n c 0 l w1 hA hn (by omega)).mono ?_
  rintro e w4 ⟨A6,c8,rfl,h4⟩
  have f4:=h4.1
  have f4P:Fr P w1 w4:=f4.mono (fun _ _ h=>h.elim)
  have hh4:=h.fr0 f4
  refine ⟨A6,_,c8,_,_,rfl,vIf_mk (fun g1=>?_) (fun g1=>?_)⟩
  · have g1:¬ (bmR l 0).2.2=0:=by simpa using g1
    have e1:adL L l deeds=(L,[],(bmR l 0).2.2):=by
      unfold adL
      rw [if_neg (fun q=>q g),if_pos g1]
    rw [e1]
    exact ⟨f4P,hh4,none,0,rfl,nil _⟩
  have g1:(bmR l 0).2.2=0:=by simpa using g1
  have hw0:wrB l=0:=by
    refine Decidable.byContradiction fun q=>?_
    have e1:bmR l 0=([],0,wrB l):=if_pos q
    rw [e1] at g1
    exact q g1
  have hbsz:=szs_le l hd
  refine jnC_mk (loop_rule (fun s u=>Fr (fun _=>False) w1 u/\∃ i:Nat,i<=n/\s=(some ⟨lb,0,none⟩,(A,n,c),deeds,((szs (l.take i):Nat):Int),(A,n,c),(n:Int),(i:Int),())) (fun s _=>(n - s.2.2.2.2.2.2.1).toNat) ?_ _ _ ⟨f4,0,by omega,rfl⟩)
  rintro s u C ⟨fu,i,hi,rfl⟩ hC _
  have tk:∀ i,szs (l.take i)<=60000 * 65557:=fun i=>Nat.le_trans (szs_le _ (fun x hx=>hd x (List.mem_of_mem_take hx))) (Nat.mul_le_mul_right _ (by rw [List.length_take]; omega))
  refine vIf_mk (fun hlt=>?_) (fun hge=>?_)
  · have hlt:(i:Int) < (n:Int):=of_decide_eq_true hlt
    have gi:l[i]?=some (l[i]'(by omega)):=List.getElem?_eq_getElem (by omega)
    generalize l[i]'(by omega)=x at gi
    have h1:=tk i
    have h2:=tk (i+1)
    have e1:l.take (i+1)=l.take i ++ [x]:=take_snoc gi
    rw [e1,szs_snoc] at h2
    refine rs_all (hA.fr0 fu) gi (fun cs hx=>rcv_mk hx (fun b14 w16 f16 hb14 r14=>?_))
    obtain ⟨A0,n0,c0,rfl,x1,x2,x3,x4,x5,x6⟩:=hx
    refine ⟨_,rcC_len x4 _ _ _,rec_all r14,(bsize_calls x A0 n0 c0 w16 x4 x5 (f16.sl x1 (fun _ _ _ h=>h))).mono ?_⟩
    rintro e w18 ⟨rfl,f18⟩
    refine ⟨_,rfl,jnC_mk (hC _ _ ⟨(fu.trans1 f16).trans1 f18,i+1,by omega,?_⟩ ?_)⟩
    · show (_,(A,n,c),deeds,IntKind.wrap .i64 (((szs (l.take i):Nat):Int)+((szW x:Nat):Int)),(A,n,c),(n:Int),IntKind.wrap .i64 ((i:Int)+1),())=_
      rw [i64_id (n:=((szs (l.take i):Nat):Int)+((szW x:Nat):Int)) (by omega) (by omega),i64_id (by omega) (by omega),e1,szs_snoc]; rfl
    · show ((n:Int) - IntKind.wrap .i64 ((i:Int)+1)).toNat < ((n:Int) - (i:Int)).toNat
      rw [i64_id (by omega) (by omega)]; omega
  have hge:¬ (i:Int) < (n:Int):=of_decide_eq_false hge
  have eT:l.take i=l:=List.take_of_length_le (by omega)
  rw [eT]
  clear hC
  have hu:=h.fr0 fu
  have fuP:Fr P w1 u:=fu.mono (fun _ _ h=>h.elim)
  have hEu:=hE.up fu
  have hu0:=hu
  obtain ⟨B1,m1,k1,B2,m2,k2,vs,hu⟩:=hu
  refine dr_mk ⟨cfC L,rfl,hu.lg.cells (o:=1) (fun j v hj=>?_),(croom_calls (cfC L) L.sg u rfl rfl ⟨hsg,by have:=hB.sg; omega⟩).mono ?_⟩
  · match j,hj with
    | 0,hj=>exact hj
    | 1,hj=>exact hj
    | 2,hj=>exact hj
    | 3,hj=>exact hj
    | 4,hj=>exact hj
    | 5,hj=>exact hj
    | j+6,hj=>cases hj
  rintro e w24 ⟨rfl,f24⟩
  have f124:=fu.trans1 f24
  have f124P:Fr P w1 w24:=f124.mono (fun _ _ h=>h.elim)
  have h24:=hu0.fr0 f24
  refine ⟨_,rfl,vIf_mk (fun g2=>?_) (fun g2=>?_)⟩
  · have g2:((szs l:Nat):Int) > L.sg - 95:=of_decide_eq_true g2
    have e1:adL L l deeds=(L,[],18):=by
      unfold adL
      rw [if_neg (fun q=>q g),if_neg (fun q=>q g1),if_pos g2]
    rw [e1]
    exact ⟨f124P,h24,none,0,rfl,nil _⟩
  have g2:¬ ((szs l:Nat):Int) > L.sg - 95:=of_decide_eq_false g2
  have ead:adL L l deeds=(if (rmL L l.length (szs l)).2 ≠ 0 then ((rmL L l.length (szs l)).1,[],(rmL L l.length (szs l)).2)
    else if (aoL (rmL L l.length (szs l)).1 l deeds).bt<=((aoL (rmL L l.length (szs l)).1 l deeds).rs.length:Int) then
      (if (flL (aoL (rmL L l.length (szs l)).1 l deeds)).2 ≠ 0 then ((flL (aoL (rmL L l.length (szs l)).1 l deeds)).1,[],(flL (aoL (rmL L l.length (szs l)).1 l deeds)).2)
       else ((flL (aoL (rmL L l.length (szs l)).1 l deeds)).1,opW l (rmL L l.length (szs l)).1,0))
    else (aoL (rmL L l.length (szs l)).1 l deeds,opW l (rmL L l.length (szs l)).1,0)):=by
    unfold adL
    rw [if_neg (fun q=>q g),if_neg (fun q=>q g1),if_neg g2]
  rw [ead]
  have hM:=hM g g1 (by omega)
  refine (room_calls1 P W lb db r L N (n:Int) (szs l:Int) w24 h24 (hEu.up f24) hB hG (by omega) ⟨by omega,by omega⟩ ⟨by omega,by omega⟩).mono ?_
  rintro e w27 ⟨f27,rfl,h27⟩
  have f127:Fr P w1 w27:=f124P.trans1 (f27.mono (fun k _ hk=>hls k hk))
  have hE27:=hE.step f127
  have hG27:=rm_G (L:=L) (n:=(n:Int)) (size:=(szs l:Int)) hG
  rw [hl] at hM ⊢
  have rok:∀ R:Lg×Int,rmL L (n:Int) (szs l:Int)=R->True:=fun _ _=>trivial
  generalize hR:rmL L (n:Int) (szs l:Int)=R at hM h27 hG27 ⊢
  refine ⟨_,rfl,vIf_mk (fun g3=>?_) (fun g3=>?_)⟩
  · have g3:¬ R.2=0:=by simpa using g3
    rw [if_pos g3]
    exact ⟨f127,h27,none,0,rfl,nil _⟩
  have g3:R.2=0:=by simpa using g3
  rw [if_neg (fun q=>q g3)]
  have hM:=hM g3
  have hMz:=hM.tz
  have hMq:=hM.tq
  have hMt:=hM.ts
  refine (open_calls P OA lb db r R.1 A n c l w27 h27 (hA.fr f127 (fun k hk ho=>hOA k ho hk)) hOA (fun x hx=>((wrB_0 hw0).2 x hx).2) ⟨hMz.1,hMz.2⟩ hMq ⟨hMt.1,by have:R.1.ts<=1000000:=hMt.2; omega⟩).mono ?_
  rintro e w30 ⟨f30,h30,A32,c34,rfl,hW30⟩
  have f130:=f127.trans1 f30
  obtain ⟨B1,m1,k1,B2,m2,k2,vs,h30⟩:=h30
  have s27:=f127.size
  refine ⟨A32,_,c34,rfl,dr_mk ⟨_,h30.lg.cell (o:=0+14) rfl,dr_mk (h30.st (L':=aoL R.1 l deeds) rfl (by show 0+14+1<=16; omega) (fun v hv=>by simp at hv; subst hv; rfl) rfl rfl rfl (fun w40 f40 h40=>?_))⟩⟩
  have nLS:∀ k,w27.heap.size<=k->¬ LS lb db r k:=by rintro k hk (q | q | q) <;> omega
  have fd:Fr (fun _=>False) w40 w40.drew:=Fr.drew _ _
  have h41:=h40.fr0 fd
  have hW41:=(hW30.fr f40 nLS).fr fd (fun _ _ h=>h)
  have f141:Fr P w1 w40.drew:=(f130.trans1 (f40.mono (fun k _ hk=>hls k hk))).trans1 (fd.mono (fun _ _ h=>h.elim))
  have hE41:=hE.step f141
  have hlen:=h41.len
  have low:∀ {v:World} {A':Option Addr} {n' c':Nat} {ws:List Wo},Wr2 v w27.heap.size A' n' c' ws->Wr2 v w1.heap.size A' n' c' ws:=fun hh=>⟨row_low s27 hh.row,hh.len,hh.d⟩
  refine dr_mk ⟨_,_,_,h41.lg.cell (o:=0+12) rfl,dr_mk ⟨_,h41.lg.cell (o:=0+1+1) rfl,vIf_mk (fun g4=>?_) (fun g4=>?_)⟩⟩
  · have g4:(m1:Int) >= (aoL R.1 l deeds).bt:=of_decide_eq_true g4
    rw [if_pos (show (aoL R.1 l deeds).bt<=((aoL R.1 l deeds).rs.length:Int) by rw [hlen]; exact g4)]
    refine (flush_calls P W lb db r (aoL R.1 l deeds) (N+8) w40.drew ⟨_,_,_,_,_,_,_,h41⟩ hE41 hM hG27 (by omega)).mono ?_
    rintro e w49 ⟨f49,rfl,h49⟩
    have f149:=f141.trans1 (f49.mono (fun k _ hk=>hls k hk))
    refine ⟨_,rfl,vIf_mk (fun g5=>?_) (fun g5=>jnC_mk (fun _=>?_))⟩
    · have g5:¬ (flL (aoL R.1 l deeds)).2=0:=by simpa using g5
      rw [if_pos g5]
      exact ⟨f149,h49,none,0,rfl,nil _⟩
    · have g5:(flL (aoL R.1 l deeds)).2=0:=by simpa using g5
      rw [if_neg (fun q=>q g5)]
      exact ⟨f149,h49,A32,c34,rfl,low (hW41.fr f49 nLS)⟩
  · have g4:¬ (m1:Int) >= (aoL R.1 l deeds).bt:=of_decide_eq_false g4
    rw [if_neg (show ¬ (aoL R.1 l deeds).bt<=((aoL R.1 l deeds).rs.length:Int) by rw [hlen]; exact g4)]
    exact jnC_mk (fun _=>⟨f141,⟨_,_,_,_,_,_,_,h41⟩,A32,c34,rfl,low hW41⟩)
theorem digs_lt:∀ (k i j:Nat),i % 10 ^ k < j % 10 ^ k->compareBytes (Nm8.digs k i) (Nm8.digs k j) < 0
 | 0,i,j,h=>by simp [Nat.mod_one] at h
 | k+1,i,j,h=>by
  rw [Nat.mod_pow_succ,Nat.mod_pow_succ] at h
  rw [Nm8.digs_cons,Nm8.digs_cons]
  have hp:0 < 10 ^ k:=Nat.pow_pos (by omega)
  have h1:i % 10 ^ k < 10 ^ k:=Nat.mod_lt _ hp
  have h2:j % 10 ^ k < 10 ^ k:=Nat.mod_lt _ hp
  unfold compareBytes
  by_cases ha:Nm8.dg (i / 10 ^ k) < Nm8.dg (j / 10 ^ k)
  ·rw [if_pos ha]; decide
  ·rw [if_neg ha]
   rw [UInt8.lt_iff_toNat_lt,Nm8.dg_nat,Nm8.dg_nat] at ha
   have hle:j / 10 ^ k % 10<=i / 10 ^ k % 10:=by omega
   have heq:j / 10 ^ k % 10=i / 10 ^ k % 10:=by
    refine Nat.le_antisymm hle (Nat.le_of_not_lt (fun hlt=>?_))
    have:10 ^ k * (j / 10 ^ k % 10+1)<=10 ^ k * (i / 10 ^ k % 10):=Nat.mul_le_mul_left _ hlt
    rw [Nat.mul_add,Nat.mul_one] at this
    omega
   rw [if_neg (by rw [UInt8.lt_iff_toNat_lt,Nm8.dg_nat,Nm8.dg_nat]; omega)]
   rw [heq] at h
   exact digs_lt k i j (by omega)
theorem segN_eq {n:Nat} (h1:1<=n) (h2:n<=99999999):segN (n:Int)=Nm8.bs (Nm8.wl 1 ++ Nm8.digs 8 n):=by
 unfold segN
 rw [Nm8.fileL_good ⟨by omega,by omega,by omega,by omega⟩,Int.toNat_natCast]
theorem segN_lt {i j:Nat} (h1:1<=i) (h:i < j) (h2:j<=99999999):cmpN (segN (i:Int)) (segN (j:Int)) < 0:=by
 rw [segN_eq h1 (by omega),segN_eq (by omega) h2]
 unfold cmpN
 rw [Nm8.bs_list,Nm8.bs_list]
 rw [cmp_at 4 _ _ (by rw [List.take_left' (by rfl),List.take_left' (by rfl)]),List.drop_left' (by rfl),List.drop_left' (by rfl)]
 exact digs_lt 8 i j (by rw [Nat.mod_eq_of_lt (by omega),Nat.mod_eq_of_lt (by omega)]; exact h)
theorem digs_mem:∀ (k n:Nat) (b:UInt8),b ∈ Nm8.digs k n->48<=b.toNat/\b.toNat<=57
 | 0,_,b,h=>by cases h
 | k+1,n,b,h=>by
  rw [Nm8.digs_cons] at h
  rcases List.mem_cons.1 h with rfl | h
  ·rw [Nm8.dg_nat]; omega
  ·exact digs_mem k n b h
theorem segN_disk {n:Nat} (h1:1<=n) (h2:n<=99999999):DiskP (segN (n:Int)):=by
 rw [segN_eq h1 h2]
 have hs:(Nm8.bs (Nm8.wl 1 ++ Nm8.digs 8 n)).size=12:=by rw [Nm8.bs_size,List.length_append,Nm8.digs_len]; rfl
 refine ⟨fun i hi=>?_,by omega,by omega⟩
 rw [byteAt_eq hi]
 have hm:(Nm8.bs (Nm8.wl 1 ++ Nm8.digs 8 n))[i] ∈ Nm8.wl 1 ++ Nm8.digs 8 n:=by
  have:(Nm8.bs (Nm8.wl 1 ++ Nm8.digs 8 n))[i]=(Nm8.wl 1 ++ Nm8.digs 8 n)[i]'(by rw [Nm8.bs_size] at hi; exact hi):=rfl
  rw [this]; exact List.getElem_mem _
 rcases List.mem_append.1 hm with h | h
 ·have h:(Nm8.bs (Nm8.wl 1 ++ Nm8.digs 8 n))[i] ∈ ([115,101,103,45]:List UInt8):=h
  generalize (Nm8.bs (Nm8.wl 1 ++ Nm8.digs 8 n))[i]=b at h
  simp only [List.mem_cons,List.not_mem_nil,or_false] at h
  rcases h with rfl | rfl | rfl | rfl <;> decide
 ·have:=digs_mem _ _ _ h
  omega
def sgL (n:Nat):List Nm:=(List.range n).map fun k=>(segN ((k+1:Nat):Int),((k+1:Nat):Int))
def upI (n:Nat):List Int:=(List.range n).map fun k=>((k+1:Nat):Int)
theorem sgL_snoc (n:Nat):sgL (n+1)=sgL n ++ [(segN ((n+1:Nat):Int),((n+1:Nat):Int))]:=by unfold sgL; rw [List.range_succ,List.map_append]; rfl
theorem sgL_mem {n:Nat} {x:Nm}:x ∈ sgL n ↔ ∃ k:Nat,1<=k/\k<=n/\x=(segN (k:Int),(k:Int)):=by
 unfold sgL
 rw [List.mem_map]
 constructor
 ·rintro ⟨k,hk,rfl⟩
  rw [List.mem_range] at hk
  exact ⟨k+1,by omega,by omega,rfl⟩
 ·rintro ⟨k,h1,h2,rfl⟩
  exact ⟨k - 1,List.mem_range.2 (by omega),by rw [show k - 1+1=k by omega]⟩
theorem upI_mem {n:Nat} {x:Int}:x ∈ upI n ↔ 1<=x/\x<=(n:Int):=by
 unfold upI
 rw [List.mem_map]
 constructor
 ·rintro ⟨k,hk,rfl⟩
  rw [List.mem_range] at hk
  omega
 ·rintro ⟨h1,h2⟩
  exact ⟨(x - 1).toNat,List.mem_range.2 (by omega),by omega⟩
theorem upI_len (n:Nat):(upI n).length=n:=by unfold upI; rw [List.length_map,List.length_range]
theorem sgL_asc:∀ {n:Nat},n<=99999999->AscN (sgL n)
 | 0,_=>List.Pairwise.nil
 | n+1,h=>by
  rw [sgL_snoc]
  refine List.pairwise_append.2 ⟨sgL_asc (by omega),List.pairwise_singleton _ _,fun x hx y hy=>?_⟩
  obtain ⟨k,h1,h2,rfl⟩:=sgL_mem.1 hx
  rw [List.mem_singleton] at hy
  subst hy
  exact segN_lt h1 (by omega) h
theorem upI_asc:∀ n:Nat,AscI (upI n)
 | 0=>List.Pairwise.nil
 | n+1=>by
  have e:upI (n+1)=upI n ++ [((n+1:Nat):Int)]:=by unfold upI; rw [List.range_succ,List.map_append]; rfl
  rw [e]
  refine List.pairwise_append.2 ⟨upI_asc n,List.pairwise_singleton _ _,fun x hx y hy=>?_⟩
  have:=upI_mem.1 hx
  rw [List.mem_singleton] at hy
  subst hy
  omega
theorem sgL_find {n k:Nat} (h1:1<=k) (h2:k<=n) (hn:n<=99999999):findN (segN (k:Int)) (sgL n)=some (k:Int):=by
 induction n with
 | zero=>omega
 | succ n ih =>
  rw [sgL_snoc,findN_app]
  by_cases hk:k<=n
  ·rw [ih hk (by omega)]; rfl
  ·obtain rfl:k=n+1:=by omega
   rw [findN_none (fun x hx=>?_)]
   ·show (findN _ [_])=_
    unfold findN
    rw [if_pos rfl]
   ·obtain ⟨j,j1,j2,rfl⟩:=sgL_mem.1 hx
    exact cmp_ne (segN_lt j1 (by omega) hn)
theorem sgL_no {n:Nat} (hn:n+1<=99999999):findN (segN ((n+1:Nat):Int)) (sgL n)=none:=findN_none (fun x hx=>by
 obtain ⟨j,j1,j2,rfl⟩:=sgL_mem.1 hx
 exact cmp_ne (segN_lt j1 (by omega) hn))
theorem sgL_put {n:Nat} (hn:n+1<=99999999):putN (segN ((n+1:Nat):Int),((n+1:Nat):Int)) (sgL n)=sgL (n+1):=by
 have h:=putN_app (x:=(segN ((n+1:Nat):Int),((n+1:Nat):Int))) (U:=sgL n) [] (fun z hz=>by
  obtain ⟨j,j1,j2,rfl⟩:=sgL_mem.1 hz
  exact segN_lt j1 (by omega) hn)
 rw [List.append_nil] at h
 rw [h,sgL_snoc]; rfl
theorem ascI_ext:∀ {a b:List Int},AscI a->AscI b->(∀ x,x ∈ a ↔ x ∈ b)->a=b
 | [],[],_,_,_=>rfl
 | [],y :: b,_,_,h=>by have:=(h y).2 List.mem_cons_self; cases this
 | x :: a,[],_,_,h=>by have:=(h x).1 List.mem_cons_self; cases this
 | x :: a,y :: b,ha,hb,h=>by
  obtain ⟨a1,a2⟩:=List.pairwise_cons.1 ha
  obtain ⟨b1,b2⟩:=List.pairwise_cons.1 hb
  have hxy:x=y:=by
   rcases List.mem_cons.1 ((h x).1 List.mem_cons_self) with e | e
   ·exact e
   ·rcases List.mem_cons.1 ((h y).2 List.mem_cons_self) with e2 | e2
    ·exact e2.symm
    ·have:=b1 x e
     have:=a1 y e2
     omega
  subst hxy
  congr 1
  refine ascI_ext a2 b2 (fun z=>⟨fun hz=>?_,fun hz=>?_⟩)
  ·rcases List.mem_cons.1 ((h z).1 (List.mem_cons_of_mem _ hz)) with e | e
   ·have:=a1 z hz; omega
   ·exact e
  ·rcases List.mem_cons.1 ((h z).2 (List.mem_cons_of_mem _ hz)) with e | e
   ·have:=b1 z hz; omega
   ·exact e
def fo0 (n:Nat):Fo:=⟨sgL n,[]⟩
def crC (n:Nat):Ch:=⟨1,segN ((n+1:Nat):Int),⟨#[]⟩,((n+1:Nat):Int)⟩
def fo1 (n:Nat):Fo:=⟨sgL n,[crC n]⟩
theorem now_0 {n:Nat} (hn:n<=99999999):nowF (fo0 n)=sgL n:=by
 rw [nowF_at]
 show lastN (sgL n)=_
 exact lastN_id (sgL_asc hn)
theorem now_1 {n:Nat} (hn:n+1<=99999999):nowF (fo1 n)=sgL (n+1):=by
 rw [nowF_at]
 show stepN (lastN (sgL n)) (crC n)=_
 rw [lastN_id (sgL_asc (by omega))]
 unfold stepN
 rw [if_pos (show (crC n).k=1 from rfl)]
 exact sgL_put hn
theorem ids_0 {n:Nat} (hn:n<=99999999):idsF (fo0 n)=upI n:=by
 refine ascI_ext (ids_asc _) (upI_asc n) (fun x=>?_)
 rw [show (fo0 n)=⟨sgL n,[]⟩ from rfl,ids_one,lastN_id (sgL_asc hn),upI_mem]
 constructor
 ·rintro ⟨nm,h⟩
  obtain ⟨k,h1,h2,e⟩:=sgL_mem.1 h
  cases e; omega
 ·rintro ⟨h1,h2⟩
  exact ⟨segN x,sgL_mem.2 ⟨x.toNat,by omega,by omega,by rw [show ((x.toNat:Nat):Int)=x by omega]⟩⟩
theorem ids_1 {n:Nat} (hn:n+1<=99999999):idsF (fo1 n)=upI (n+1):=by
 refine ascI_ext (ids_asc _) (upI_asc _) (fun x=>?_)
 rw [show (fo1 n)=⟨sgL n,[] ++ [crC n]⟩ from rfl,ids_snoc,show (⟨sgL n,[]⟩:Fo)=fo0 n from rfl,ids_0 (by omega),now_0 (by omega),upI_mem,upI_mem]
 have e:stepN (sgL n) (crC n)=sgL (n+1):=by
  unfold stepN
  rw [if_pos (show (crC n).k=1 from rfl)]
  exact sgL_put hn
 rw [e]
 constructor
 ·rintro (h | ⟨nm,h⟩)
  ·omega
  ·obtain ⟨k,h1,h2,e⟩:=sgL_mem.1 h
   cases e; omega
 ·rintro ⟨h1,h2⟩
  exact .inr ⟨segN x,sgL_mem.2 ⟨x.toNat,by omega,by omega,by rw [show ((x.toNat:Nat):Int)=x by omega]⟩⟩
structure LD (d:Dk) (F:Fo) (m:Nat) (g:Nat->Ino):Prop where
 fo:d.F=F
 ids:idsF F=upI m
 now:nowF F=sgL m
 f:∀ k:Nat,1<=k->k<=m->d.f (k:Int)=g k
 last:d.last=(m:Int)
 down:d.down=false
 le:m<=99999999
def tick (d:Dk):Dk:={ d with fu:=d.fu.map (· - 1),calls:=d.calls+1 }
theorem LD.tick {d:Dk} {F:Fo} {m:Nat} {g:Nat->Ino} (h:LD d F m g):LD (tick d) F m g:=⟨h.fo,h.ids,h.now,h.f,h.last,h.down,h.le⟩
theorem pow_go {d:Dk} (h:offD d=false) (call:Dk->Dk×Int):powD d call=call (tick d):=if_neg (by rw [h]; simp)
def updG (g:Nat->Ino) (k:Nat) (x:Ino):Nat->Ino:=fun j=>if j=k then x else g j
theorem sum_le (f:Int->Int) (R:Int):∀ l:List Int,(∀ x ∈ l,f x<=R)->(l.map f).sum<=(l.length:Int) * R
 | [],_=>by simp
 | x :: l,h=>by
  have h1:=h x List.mem_cons_self
  have h2:=sum_le f R l (fun y hy=>h y (List.mem_cons_of_mem _ hy))
  rw [List.map_cons,List.sum_cons,List.length_cons,show ((l.length+1:Nat):Int)=(l.length:Int)+1 by omega,Int.add_mul,Int.one_mul]
  omega
theorem LD.file {d:Dk} {F:Fo} {m:Nat} {g:Nat->Ino} (h:LD d F m g) {k:Nat} (h1:1<=k) (h2:k<=m) {fn:Ino->Ino×Int} (h0:(fn (g k)).2=0) {R:Int} (hR:∀ j,1<=j->j<=m->roomI (updG g k (fn (g k)).1 j)<=R) (hlb:(m:Int) * R<=d.lb) :
  (fileD d (segN (k:Int)) fn).2=0/\LD (fileD d (segN (k:Int)) fn).1 F m (updG g k (fn (g k)).1)/\(fileD d (segN (k:Int)) fn).1.fu=d.fu/\(fileD d (segN (k:Int)) fn).1.lb=d.lb/\(fileD d (segN (k:Int)) fn).1.lf=d.lf:=by
 have hf:findN (segN (k:Int)) (nowF d.F)=some (k:Int):=by rw [h.fo,h.now,sgL_find h1 h2 h.le]
 have hg:=h.f k h1 h2
 have ht:takenF d.F (updF d.f (k:Int) (fn (d.f (k:Int))).1)<=d.lb:=by
  unfold takenF
  rw [h.fo,h.ids]
  refine Int.le_trans (sum_le _ R _ (fun x hx=>?_)) (by rw [upI_len]; exact hlb)
  have hx:=upI_mem.1 hx
  obtain ⟨j,rfl⟩:∃ j:Nat,x=(j:Int):=⟨x.toNat,by omega⟩
  have:=hR j (by omega) (by omega)
  unfold updG at this
  unfold updF
  by_cases e:j=k
  ·subst e
   rw [if_pos rfl] at this ⊢
   rw [hg]; exact this
  ·rw [if_neg e] at this
   rw [if_neg (by omega),h.f j (by omega) (by omega)]; exact this
 have e:fileD d (segN (k:Int)) fn=({ d with f:=updF d.f (k:Int) (fn (g k)).1 },0):=by
  have:=file_ok (d:=d) (s:=segN (k:Int)) (id:=(k:Int)) (g:=fn) hf (by rw [hg]; exact h0) (fun q=>by omega)
  rw [this,hg]
 rw [e]
 refine ⟨rfl,⟨h.fo,h.ids,h.now,fun j j1 j2=>?_,h.last,h.down,h.le⟩,rfl,rfl,rfl⟩
 show updF d.f (k:Int) _ (j:Int)=updG g k _ j
 unfold updF updG
 by_cases e:j=k
 ·subst e; rw [if_pos rfl,if_pos rfl]
 ·rw [if_neg (by omega),if_neg e,h.f j j1 j2]
theorem LD.cr {d:Dk} {n:Nat} {g:Nat->Ino} (h:LD d (fo0 n) n g) (hn:n+1<=99999999) (hlf:(n:Int) < d.lf) (hz:d.f ((n+1:Nat):Int)=zI) :
  (crD d (segN ((n+1:Nat):Int))).2=0/\LD (crD d (segN ((n+1:Nat):Int))).1 (fo1 n) (n+1) (updG g (n+1) zI)/\(crD d (segN ((n+1:Nat):Int))).1.fu=d.fu/\(crD d (segN ((n+1:Nat):Int))).1.lb=d.lb/\(crD d (segN ((n+1:Nat):Int))).1.lf=d.lf:=by
 have el:d.last+1=((n+1:Nat):Int):=by rw [h.last]; rfl
 have hw:wrongF d.F ⟨1,segN ((n+1:Nat):Int),⟨#[]⟩,d.last+1⟩=0:=by
  unfold wrongF
  rw [if_pos rfl,if_neg (not_not_intro (segN_disk (by omega) hn)),h.fo,h.now,sgL_no hn]; rfl
 have hd:doF d.F ⟨1,segN ((n+1:Nat):Int),⟨#[]⟩,d.last+1⟩=fo1 n:=by
  unfold doF
  rw [if_pos hw,h.fo,el]; rfl
 have e:crD d (segN ((n+1:Nat):Int))=({ d with F:=fo1 n,f:=trim (fo1 n) d.f,last:=((n+1:Nat):Int) },0):=by
  unfold crD
  rw [if_neg (by rw [h.fo,h.ids,upI_len]; omega),if_pos hw]
  unfold chD
  rw [hd,el]
 rw [e]
 refine ⟨rfl,⟨rfl,ids_1 hn,now_1 hn,fun j j1 j2=>?_,rfl,h.down,hn⟩,rfl,rfl,rfl⟩
 show trim (fo1 n) d.f (j:Int)=updG g (n+1) zI j
 rw [trim_in (by rw [ids_1 hn]; exact upI_mem.2 ⟨by omega,by omega⟩)]
 unfold updG
 by_cases e:j=n+1
 ·subst e; rw [if_pos rfl]; exact hz
 ·rw [if_neg e,h.f j j1 (by omega)]
theorem LD.sd {d:Dk} {F:Fo} {m:Nat} {g:Nat->Ino} (h:LD d F m g):(sdD d).2=0/\LD (sdD d).1 (fo0 m) m g/\(sdD d).1.fu=d.fu/\(sdD d).1.lb=d.lb/\(sdD d).1.lf=d.lf:=by
 have e:sdD d=({ d with F:=fo0 m,f:=trim (fo0 m) d.f },0):=by
  unfold sdD
  have:(⟨nowF d.F,[]⟩:Fo)=fo0 m:=by rw [h.fo,h.now]; rfl
  rw [this]
 rw [e]
 refine ⟨rfl,⟨rfl,ids_0 h.le,now_0 h.le,fun j j1 j2=>?_,h.last,h.down,h.le⟩,rfl,rfl,rfl⟩
 show trim (fo0 m) d.f (j:Int)=g j
 rw [trim_in (by rw [ids_0 h.le]; exact upI_mem.2 ⟨by omega,by omega⟩),h.f j j1 j2]
def tlC (ts tz tr:Int) (sl:Bool) (tq:Nat):List Value:=[.int .i64 ts,.int .i64 tz,.int .i64 tr,.bool sl,.int .u64 (tq:Nat)]
def newL (d:Dk) (sg bt c3 c4 c5:Int) (c6:Value) (ts tz tr:Int) (sl:Bool) (tq:Nat):Lg:=⟨d,sg,bt,c3,c4,c5,c6,ts,tz,tr,sl,tq,[],0,0⟩
theorem lnew_calls (P:Nat->Prop) (db r:Nat) (d:Dk) (sg bt c3 c4 c5:Int) (c6:Value) (ts tz tr:Int) (sl:Bool) (tq:Nat) (w:World) (hd:DkO P w db r d) (hn:∀ k,w.heap.size<=k->P k) (hp:P db/\P r) (h6:c6.oneCell'=true) :
  Calls Tryz.prog 17 #[.pointer (some ⟨db,0,none⟩),ofL [.int .i64 sg,.int .i64 bt,.int .i64 c3,.int .i64 c4,.int .i64 c5,c6],ofL (tlC ts tz tr sl tq)] w fun e w'=>Fr (fun _=>False) w w'/\∃ lb,e=.returned (.pointer (some ⟨lb,0,none⟩))/\w.heap.size<=lb/\LgAt P w' lb db r (newL d sg bt c3 c4 c5 c6 ts tz tr sl tq):=by
 refine (F17.of (some ⟨db,0,none⟩) _ _ w (Q:=fun v w'=>Fr (fun _=>False) w w'/\∃ lb,v=.pointer (some ⟨lb,0,none⟩)/\w.heap.size<=lb/\LgAt P w' lb db r (newL d sg bt c3 c4 c5 c6 ts tz tr sl tq)) ?_).mono (fun e w' ⟨v,he,hf,lb,hv,h⟩=>⟨hf,lb,by rw [he,hv],h⟩)
 refine rec_new (fun b1 w2 f2 hb1 r1=>rec_new (fun b3 w4 f4 hb3 r3=>⟨_,rfl,rec_all (r1.fr f4 (fun h=>h)),_,rfl,rec_all r3,gd_mk rfl (gd_mk rfl (rec_new (fun b7 w8 f8 hb7 r7=>?_)))⟩))
 have f:=(f2.trans1 f4).trans1 f8
 have s2:=f2.size
 have s4:=f4.size
 have hs:=f.size
 have hlt:=@DkAt.lt ⟨P⟩ _ _ _ _ hd
 have l7:=r7.lt
 have hb:w.heap.size<=b7:=by omega
 refine ⟨f,b7,rfl,hb,none,0,0,none,0,0,[],r7,h6,Row.nil _ _ _ _,Ech.nil,rfl,Row.nil _ _ _ _,?_,fun k hk=>hn k (by omega),hn b7 hb,hp,⟨by omega,by omega⟩,fun k hk=>(by cases hk),fun k hk=>(by cases hk)⟩
 exact hd.go f (fun h=>h) (fun h=>h) (fun _ h=>h.elim) (fun k hk q=>⟨q,by omega,fun e=>(by cases e),fun e=>(by cases e)⟩) (fun k hk=>⟨hn k (by omega),by omega,fun e=>(by cases e),fun e=>(by cases e)⟩)
theorem ltail_calls (P:Nat->Prop) (lb db r:Nat) (L:Lg) (w:World) (h:LgAt P w lb db r L) :
  Calls Tryz.prog 7 #[.pointer (some ⟨lb,0,none⟩)] w fun e w'=>e=.returned (ofL (tlC L.ts L.tz L.tr L.sl L.tq))/\Fr (fun _=>False) w w':=by
 refine (F7.of (some ⟨lb,0,none⟩) w (Q:=fun v w'=>v=ofL (tlC L.ts L.tz L.tr L.sl L.tq)/\Fr (fun _=>False) w w') ?_).mono (fun e w' ⟨v,he,hv,h⟩=>⟨by rw [he,hv],h⟩)
 obtain ⟨A,n,c,A2,n2,c2,vs,h⟩:=h
 refine rec_new (fun b1 w2 f2 hb1 r1=>vIf_f rfl (dr_mk ⟨tlC L.ts L.tz L.tr L.sl L.tq,rfl,(h.fr0 f2).lg.cells (o:=0+7) (fun j v hj=>?_),?_⟩))
 ·match j,hj with
  | 0,hj=>exact hj
  | 1,hj=>exact hj
  | 2,hj=>exact hj
  | 3,hj=>exact hj
  | 4,hj=>exact hj
  | j+5,hj=>cases hj
 ·exact ansN_mk (N:=5) (cs:=tlC L.ts L.tz L.tr L.sl L.tq) (K:=fun a w1=>ofL a=ofL (tlC L.ts L.tz L.tr L.sl L.tq)/\Fr (fun _=>False) w w1) r1 rfl rfl (fun v hv=>by
   simp only [tlC,List.mem_cons,List.not_mem_nil,or_false] at hv
   rcases hv with rfl | rfl | rfl | rfl | rfl <;> rfl) (fun w' g=>⟨rfl,fr_var f2 hb1 g⟩)
theorem lwrong_nil (w:World):Calls Tryz.prog 18 #[.pointer none] w fun e w'=>e=.returned (.int .i64 1)/\w'=w :=
 (F18.of none w (Q:=fun v w'=>v=.int .i64 1/\w'=w) (vIf_t rfl ⟨rfl,rfl⟩)).mono (fun e w' ⟨v,he,hv,h⟩=>⟨by rw [he,hv],h⟩)
theorem ladd_nil (A:Option Addr) (n c:Nat) (m:Int) (w:World):Calls Tryz.prog 10 #[.pointer none,.slice A n c,.int .i64 m] w fun e w'=>e=.returned (.tuple #[.slice none 0 0,.int .i64 1])/\Fr (fun _=>False) w w':=by
 refine (F10.of none A n c m w (Q:=fun v w'=>v=.tuple #[.slice none 0 0,.int .i64 1]/\Fr (fun _=>False) w w') ?_).mono (fun e w' ⟨v,he,hv,h⟩=>⟨by rw [he,hv],h⟩)
 refine (lwrong_nil w).mono ?_
 rintro e w1 ⟨rfl,rfl⟩
 exact ⟨_,rfl,vIf_t rfl ⟨rfl,Fr.refl _ _⟩⟩
theorem lflush_nil (w:World):Calls Tryz.prog 11 #[.pointer none] w fun e w'=>e=.returned (.int .i64 1)/\Fr (fun _=>False) w w':=by
 refine (F11.of none w (Q:=fun v w'=>v=.int .i64 1/\Fr (fun _=>False) w w') ?_).mono (fun e w' ⟨v,he,hv,h⟩=>⟨by rw [he,hv],h⟩)
 refine (lwrong_nil w).mono ?_
 rintro e w1 ⟨rfl,rfl⟩
 exact ⟨_,rfl,vIf_t rfl ⟨rfl,Fr.refl _ _⟩⟩
theorem lseal_nil (w:World):Calls Tryz.prog 12 #[.pointer none] w fun e w'=>e=.returned (.int .i64 1)/\Fr (fun _=>False) w w':=by
 refine (F12.of none w (Q:=fun v w'=>v=.int .i64 1/\Fr (fun _=>False) w w') ?_).mono (fun e w' ⟨v,he,hv,h⟩=>⟨by rw [he,hv],h⟩)
 refine (lflush_nil w).mono ?_
 rintro e w1 ⟨rfl,f1⟩
 exact ⟨_,rfl,vIf_t rfl ⟨rfl,f1⟩⟩
theorem lread_nil (cs:List Value) (w:World):Calls Tryz.prog 14 #[.pointer none,ofL cs] w fun e w'=>e=.returned (.tuple #[.slice none 0 0,.int .i64 1])/\Fr (fun _=>False) w w' :=
 (F14.of none cs w (Q:=fun v w'=>v=.tuple #[.slice none 0 0,.int .i64 1]/\Fr (fun _=>False) w w') (rec_new (fun b1 w2 f2 hb1 r1=>vIf_t rfl ⟨rfl,f2⟩))).mono (fun e w' ⟨v,he,hv,h⟩=>⟨by rw [he,hv],h⟩)
theorem lopen_nil (w:World):Calls Tryz.prog 6 #[.pointer none] w fun e w'=>e=.returned (.tuple #[.int .i64 0,.int .i64 0,.int .i64 0])/\w'=w :=
 (F6.of none w (Q:=fun v w'=>v=.tuple #[.int .i64 0,.int .i64 0,.int .i64 0]/\w'=w) (vIf_t rfl ⟨rfl,rfl⟩)).mono (fun e w' ⟨v,he,hv,h⟩=>⟨by rw [he,hv],h⟩)
theorem lfits_nil (a b:Int) (w:World):Calls Tryz.prog 8 #[.pointer none,.int .i64 a,.int .i64 b] w fun e w'=>e=.returned (.bool false)/\w'=w :=
 (F8.of none a b w (Q:=fun v w'=>v=.bool false/\w'=w) (vIf_t rfl ⟨rfl,rfl⟩)).mono (fun e w' ⟨v,he,hv,h⟩=>⟨by rw [he,hv],h⟩)
theorem ltail_nil (w:World):Calls Tryz.prog 7 #[.pointer none] w fun e w'=>e=.returned (ofL (tlC 0 0 0 false 0))/\Fr (fun _=>False) w w':=by
 refine (F7.of none w (Q:=fun v w'=>v=ofL (tlC 0 0 0 false 0)/\Fr (fun _=>False) w w') ?_).mono (fun e w' ⟨v,he,hv,h⟩=>⟨by rw [he,hv],h⟩)
 refine rec_new (fun b1 w2 f2 hb1 r1=>vIf_t rfl ?_)
 exact ansN_mk (N:=5) (cs:=tlC 0 0 0 false 0) (K:=fun a w1=>ofL a=ofL (tlC 0 0 0 false 0)/\Fr (fun _=>False) w w1) r1 rfl rfl (fun v hv=>by
   simp only [tlC,List.mem_cons,List.not_mem_nil,or_false] at hv
   rcases hv with rfl | rfl | rfl | rfl | rfl <;> rfl) (fun w' g=>⟨rfl,fr_var f2 hb1 g⟩)
theorem app1 {C b:Bs} (h:C.length+b.length<=1048576) (hb:b ≠ []):appI ⟨C,[]⟩ b=(⟨C,[⟨false,(C.length:Int),b⟩]⟩,0):=by
 have e:nowI ⟨C,[]⟩=C:=rfl
 unfold appI
 rw [e,if_neg (by omega),if_neg hb]
 rfl
theorem right1 {C b:Bs} (h:C.length+b.length<=1048576):rightW ⟨false,(C.length:Int),b⟩=true:=right_iff.2 ⟨by show (0:Int)<=(C.length:Int); omega,by show (C.length:Int)<=1048576 - (b.length:Int); omega⟩
theorem over1 (C b:Bs):over C C.length b=C ++ b:=by
 unfold over
 rw [Nat.sub_self,List.replicate_zero,List.append_nil,List.take_length,List.drop_of_length_le (by omega),List.append_nil]
theorem apply1 {C b:Bs} (h:C.length+b.length<=1048576) (hb:b ≠ []):applyW C ⟨false,(C.length:Int),b⟩=C ++ b:=by
 unfold applyW
 rw [if_neg (fun q=>q.elim (fun q=>by rw [right1 h] at q; cases q) (fun q=>hb q.2)),if_neg (by show ¬ false=true; simp)]
 show over C ((C.length:Int)).toNat b=_
 rw [Int.toNat_natCast,over1]
theorem sync1 {C b:Bs} (h:C.length+b.length<=1048576) (hb:b ≠ []):syncI ⟨C,[⟨false,(C.length:Int),b⟩]⟩=⟨C ++ b,[]⟩:=by
 unfold syncI nowI allW
 show (⟨applyW C ⟨false,(C.length:Int),b⟩,[]⟩:Ino)=_
 rw [apply1 h hb]
theorem room1 {C b:Bs} (h:C.length+b.length<=1048576) (hb:b ≠ []):roomI ⟨C,[⟨false,(C.length:Int),b⟩]⟩=((C.length+b.length:Nat):Int):=by
 show endW (C.length:Int) ⟨false,(C.length:Int),b⟩=_
 have hl:0 < b.length:=List.length_pos_iff.2 hb
 rw [endW_pos ⟨right1 h,rfl,hb⟩]
 show (if (C.length:Int) < (C.length:Int)+(b.length:Int) then (C.length:Int)+(b.length:Int) else (C.length:Int))=_
 rw [if_pos (by omega)]; omega
theorem room0 (C:Bs):roomI ⟨C,[]⟩=(C.length:Int):=rfl
theorem zI_eq:zI=⟨[],[]⟩:=rfl
def okG (C:Nat->Bs):Nat->Ino:=fun k=>⟨C k,[]⟩
def updC (C:Nat->Bs) (k:Nat) (b:Bs):Nat->Bs:=fun j=>if j=k then b else C j
theorem upd_ok (C:Nat->Bs) (k:Nat) (b:Bs):updG (okG C) k ⟨b,[]⟩=okG (updC C k b):=by
 funext j
 unfold updG okG updC
 split <;> rfl
theorem upd_upd (g:Nat->Ino) (k:Nat) (x y:Ino):updG (updG g k x) k y=updG g k y:=by
 funext j
 unfold updG
 split <;> rfl
theorem upd_at (g:Nat->Ino) (k:Nat) (x:Ino):updG g k x k=x:=if_pos rfl
structure LS0 (d:Dk) (n:Nat) (C:Nat->Bs) (lb lf:Int):Prop where
 ld:LD d (fo0 n) n (okG C)
 fu:d.fu=none
 lb:d.lb=lb
 lf:d.lf=lf
 i:DkI d
theorem off_no {d:Dk} (h1:d.down=false) (h2:d.fu=none):offD d=false:=by unfold offD; rw [h1,h2]; rfl
theorem tick_fu {d:Dk} (h:d.fu=none):(tick d).fu=none:=by show d.fu.map _=none; rw [h]; rfl
theorem wr_ok {d:Dk} {n:Nat} {C:Nat->Bs} {lb lf R:Int} {b:Bs} (h:LS0 d n C lb lf) (h1:1<=n) (hl:(C n).length+b.length<=1048576) (hb:b ≠ []) (hR:∀ j,1<=j->j<=n->((updC C n (C n ++ b) j).length:Int)<=R) (hlb:(n:Int) * R<=lb) :
  (stp [opA (segN (n:Int)) b,opS (segN (n:Int))] d).2=0/\LD (stp [opA (segN (n:Int)) b,opS (segN (n:Int))] d).1 (fo0 n) n (okG (updC C n (C n ++ b)))/\(stp [opA (segN (n:Int)) b,opS (segN (n:Int))] d).1.fu=none/\(stp [opA (segN (n:Int)) b,opS (segN (n:Int))] d).1.lb=lb/\(stp [opA (segN (n:Int)) b,opS (segN (n:Int))] d).1.lf=lf:=by
 have hx:=app1 hl hb
 have key:∀ x:Ino,roomI x<=((C n).length+b.length:Nat)->∀ j,1<=j->j<=n->roomI (updG (okG C) n x j)<=R:=by
  intro x hx j j1 j2
  have:=hR j j1 j2
  unfold updC at this
  unfold updG okG
  by_cases e:j=n
  ·rw [if_pos e] at this ⊢
   rw [List.length_append] at this
   exact Int.le_trans hx this
  ·rw [if_neg e] at this ⊢
   exact this
 have a:=h.ld.tick.file (k:=n) h1 (Nat.le_refl _) (fn:=fun x=>appI x b) (by show (appI ⟨C n,[]⟩ b).2=0; rw [hx]) (R:=R) (by
  show ∀ j,1<=j->j<=n->roomI (updG (okG C) n (appI ⟨C n,[]⟩ b).1 j)<=R
  rw [hx]
  exact key _ (by rw [room1 hl hb]; omega)) (by show (n:Int) * R<=d.lb; rw [h.lb]; exact hlb)
 have e1:opA (segN (n:Int)) b d=fileD (tick d) (segN (n:Int)) (fun x=>appI x b):=pow_go (off_no h.ld.down h.fu) _
 obtain ⟨a1,a2,a3,a4,a5⟩:=a
 have a2':LD (fileD (tick d) (segN (n:Int)) (fun x=>appI x b)).1 (fo0 n) n (updG (okG C) n (⟨C n,[⟨false,((C n).length:Int),b⟩]⟩)):=by
  have e:(appI (okG C n) b).1=⟨C n,[⟨false,((C n).length:Int),b⟩]⟩:=by show (appI ⟨C n,[]⟩ b).1=_; rw [hx]
  rw [<- e]; exact a2
 have hst:stp [opA (segN (n:Int)) b,opS (segN (n:Int))] d=stp [opS (segN (n:Int))] (fileD (tick d) (segN (n:Int)) (fun x=>appI x b)).1:=by
  show (if (opA (segN (n:Int)) b d).2=0 then stp [opS (segN (n:Int))] (opA (segN (n:Int)) b d).1 else opA (segN (n:Int)) b d)=_
  rw [e1,if_pos a1]
 generalize (fileD (tick d) (segN (n:Int)) (fun x=>appI x b)).1=d2 at a2' a3 a4 a5 hst
 have f2:d2.fu=none:=a3.trans (tick_fu h.fu)
 have l2:d2.lb=lb:=a4.trans h.lb
 have c:=a2'.tick.file (k:=n) h1 (Nat.le_refl _) (fn:=fun x=>(syncI x,0)) rfl (R:=R) (by
  show ∀ j,1<=j->j<=n->roomI (updG (updG (okG C) n _) n (syncI (updG (okG C) n _ n)) j)<=R
  rw [upd_at,sync1 hl hb,upd_upd]
  exact key _ (by rw [room0,List.length_append]; omega)) (by show (n:Int) * R<=d2.lb; rw [l2]; exact hlb)
 have e2:opS (segN (n:Int)) d2=fileD (tick d2) (segN (n:Int)) (fun x=>(syncI x,0)):=pow_go (off_no a2'.down f2) _
 obtain ⟨c1,c2,c3,c4,c5⟩:=c
 have hst2:stp [opS (segN (n:Int))] d2=((fileD (tick d2) (segN (n:Int)) (fun x=>(syncI x,0))).1,0):=by
  show (if (opS (segN (n:Int)) d2).2=0 then stp [] (opS (segN (n:Int)) d2).1 else opS (segN (n:Int)) d2)=_
  rw [e2,if_pos c1]; rfl
 rw [hst,hst2]
 refine ⟨rfl,?_,c3.trans (tick_fu f2),c4.trans l2,c5.trans (a5.trans h.lf)⟩
 have e:updG (updG (okG C) n ⟨C n,[⟨false,((C n).length:Int),b⟩]⟩) n (syncI (updG (okG C) n ⟨C n,[⟨false,((C n).length:Int),b⟩]⟩ n))=okG (updC C n (C n ++ b)):=by
  rw [upd_at,sync1 hl hb,upd_upd,upd_ok]
 rw [<- e]; exact c2
theorem nx_ok {d:Dk} {n:Nat} {C:Nat->Bs} {lb lf R:Int} {b:Bs} (h:LS0 d n C lb lf) (hn:n+1<=99999999) (hlf:(n:Int) < lf) (hl:b.length<=1048576) (hb:b ≠ []) (hR:∀ j,1<=j->j<=n+1->((updC C (n+1) b j).length:Int)<=R) (hlb:((n+1:Nat):Int) * R<=lb) :
  (stp [opC (segN ((n+1:Nat):Int)),opA (segN ((n+1:Nat):Int)) b,opS (segN ((n+1:Nat):Int)),opD] d).2=0/\LD (stp [opC (segN ((n+1:Nat):Int)),opA (segN ((n+1:Nat):Int)) b,opS (segN ((n+1:Nat):Int)),opD] d).1 (fo0 (n+1)) (n+1) (okG (updC C (n+1) b))/\(stp [opC (segN ((n+1:Nat):Int)),opA (segN ((n+1:Nat):Int)) b,opS (segN ((n+1:Nat):Int)),opD] d).1.fu=none/\(stp [opC (segN ((n+1:Nat):Int)),opA (segN ((n+1:Nat):Int)) b,opS (segN ((n+1:Nat):Int)),opD] d).1.lb=lb/\(stp [opC (segN ((n+1:Nat):Int)),opA (segN ((n+1:Nat):Int)) b,opS (segN ((n+1:Nat):Int)),opD] d).1.lf=lf:=by
 have key:∀ x:Ino,roomI x<=(b.length:Int)->∀ j,1<=j->j<=n+1->roomI (updG (okG C) (n+1) x j)<=R:=by
  intro x hx j j1 j2
  have:=hR j j1 j2
  unfold updC at this
  unfold updG okG
  by_cases e:j=n+1
  ·rw [if_pos e] at this ⊢
   exact Int.le_trans hx this
  ·rw [if_neg e] at this ⊢
   exact this
 have hz:(tick d).f ((n+1:Nat):Int)=zI:=by
  refine h.i.out _ (fun hm=>?_)
  rw [h.ld.fo,h.ld.ids,upI_mem] at hm
  omega
 have a:=h.ld.tick.cr hn (by show (n:Int) < d.lf; rw [h.lf]; exact hlf) hz
 have e1:opC (segN ((n+1:Nat):Int)) d=crD (tick d) (segN ((n+1:Nat):Int)):=pow_go (off_no h.ld.down h.fu) _
 obtain ⟨a1,a2,a3,a4,a5⟩:=a
 have hst:stp [opC (segN ((n+1:Nat):Int)),opA (segN ((n+1:Nat):Int)) b,opS (segN ((n+1:Nat):Int)),opD] d=stp [opA (segN ((n+1:Nat):Int)) b,opS (segN ((n+1:Nat):Int)),opD] (crD (tick d) (segN ((n+1:Nat):Int))).1:=by
  show (if (opC (segN ((n+1:Nat):Int)) d).2=0 then stp [opA (segN ((n+1:Nat):Int)) b,opS (segN ((n+1:Nat):Int)),opD] (opC (segN ((n+1:Nat):Int)) d).1 else opC (segN ((n+1:Nat):Int)) d)=_
  rw [e1,if_pos a1]
 rw [hst]
 generalize (crD (tick d) (segN ((n+1:Nat):Int))).1=d1 at a2 a3 a4 a5
 have f1:d1.fu=none:=a3.trans (tick_fu h.fu)
 have l1:d1.lb=lb:=a4.trans h.lb
 have m1:d1.lf=lf:=a5.trans h.lf
 have hx:=app1 (C:=[]) (b:=b) (by show 0+b.length<=_; omega) hb
 have hl0:([]:Bs).length+b.length<=1048576:=by show 0+b.length<=_; omega
 have p:=a2.tick.file (k:=n+1) (by omega) (Nat.le_refl _) (fn:=fun x=>appI x b) (by rw [upd_at,zI_eq,hx]) (R:=R) (by
  rw [upd_at,zI_eq,hx,upd_upd]
  exact key _ (by rw [room1 hl0 hb]; show ((0+b.length:Nat):Int)<=_; omega)) (by show _<=d1.lb; rw [l1]; exact hlb)
 have e2:opA (segN ((n+1:Nat):Int)) b d1=fileD (tick d1) (segN ((n+1:Nat):Int)) (fun x=>appI x b):=pow_go (off_no a2.down f1) _
 obtain ⟨p1,p2,p3,p4,p5⟩:=p
 rw [upd_at,zI_eq,hx,upd_upd] at p2
 have hst:stp [opA (segN ((n+1:Nat):Int)) b,opS (segN ((n+1:Nat):Int)),opD] d1=stp [opS (segN ((n+1:Nat):Int)),opD] (fileD (tick d1) (segN ((n+1:Nat):Int)) (fun x=>appI x b)).1:=by
  show (if (opA (segN ((n+1:Nat):Int)) b d1).2=0 then stp [opS (segN ((n+1:Nat):Int)),opD] (opA (segN ((n+1:Nat):Int)) b d1).1 else opA (segN ((n+1:Nat):Int)) b d1)=_
  rw [e2,if_pos p1]
 rw [hst]
 generalize (fileD (tick d1) (segN ((n+1:Nat):Int)) (fun x=>appI x b)).1=d2 at p2 p3 p4 p5
 have f2:d2.fu=none:=p3.trans (tick_fu f1)
 have l2:d2.lb=lb:=p4.trans l1
 have m2:d2.lf=lf:=p5.trans m1
 have sy:=sync1 (C:=[]) hl0 hb
 rw [List.nil_append] at sy
 have q:=p2.tick.file (k:=n+1) (by omega) (Nat.le_refl _) (fn:=fun x=>(syncI x,0)) rfl (R:=R) (by
  rw [upd_at,sy,upd_upd]
  exact key _ (by rw [room0]; omega)) (by show _<=d2.lb; rw [l2]; exact hlb)
 have e3:opS (segN ((n+1:Nat):Int)) d2=fileD (tick d2) (segN ((n+1:Nat):Int)) (fun x=>(syncI x,0)):=pow_go (off_no p2.down f2) _
 obtain ⟨q1,q2,q3,q4,q5⟩:=q
 rw [upd_at,sy,upd_upd,upd_ok] at q2
 have hst:stp [opS (segN ((n+1:Nat):Int)),opD] d2=stp [opD] (fileD (tick d2) (segN ((n+1:Nat):Int)) (fun x=>(syncI x,0))).1:=by
  show (if (opS (segN ((n+1:Nat):Int)) d2).2=0 then stp [opD] (opS (segN ((n+1:Nat):Int)) d2).1 else opS (segN ((n+1:Nat):Int)) d2)=_
  rw [e3,if_pos q1]
 rw [hst]
 generalize (fileD (tick d2) (segN ((n+1:Nat):Int)) (fun x=>(syncI x,0))).1=d3 at q2 q3 q4 q5
 have f3:d3.fu=none:=q3.trans (tick_fu f2)
 obtain ⟨s1,s2,s3,s4,s5⟩:=q2.tick.sd
 have e4:opD d3=sdD (tick d3):=pow_go (off_no q2.down f3) _
 have hst:stp [opD] d3=((sdD (tick d3)).1,0):=by
  show (if (opD d3).2=0 then stp [] (opD d3).1 else opD d3)=_
  rw [e4,if_pos s1]; rfl
 rw [hst]
 exact ⟨rfl,s2,s3.trans (tick_fu f3),s4.trans (q4.trans l2),s5.trans (q5.trans m2)⟩
theorem new_LS (lb lf:Int):LS0 (newD lb lf) 0 (fun _=>[]) lb lf:=⟨⟨rfl,by rw [ids_0 (by omega)],by rw [now_0 (by omega)],fun k h1 h2=>by omega,rfl,rfl,by omega⟩,rfl,rfl,rfl,new_I _ _⟩
theorem ad_first {L:Lg} {lb lf:Int} {x:Rc} (hB:LgB L) (hL:LS0 L.d 0 (fun _=>[]) lb lf) (e0:L.e=0) (e1:L.rs=[]) (e2:L.ts=0) (e3:L.bt > 1) (hlf:0 < lf) (hlb:37<=lb) (hk:1<=x.k/\x.k<=5) (hr:rgR x=0) (hz:((mkW x).length:Int)<=L.sg - 95) (hq:L.tq=0) :
  ∃ d1,LS0 d1 1 (updC (fun _=>[]) 1 (mkW (hdR 1 0))) lb lf/\(rmL L 1 (szs [x]:Nat)).2=0/\(rmL L 1 (szs [x]:Nat)).1={ L with d:=d1,ts:=1,tz:=37,tr:=0,sl:=false,tq:=1 } /\
   ∀ m,adL L [x] m=(aoL { L with d:=d1,ts:=1,tz:=37,tr:=0,sl:=false,tq:=1 } [x] m,opW [x] { L with d:=d1,ts:=1,tz:=37,tr:=0,sl:=false,tq:=1 },0):=by
 have f1:flL L=(L,0):=by
  unfold flL
  rw [if_neg (fun q=>q e0),if_pos e1]
 have s1:slL L=(L,0):=by
  unfold slL
  rw [f1]
  rw [if_neg (fun q=>q rfl),if_pos (.inl e2)]
 have et:L.ts+1=((0+1:Nat):Int):=by rw [e2]; rfl
 have hn:=nx_ok (n:=0) (R:=37) (b:=mkW (hdR 1 0)) hL (by omega) (by omega) (by rw [hd_len]; omega) (fun q=>by have:=hd_len 1 0; rw [q] at this; cases this) (fun j j1 j2=>by
  unfold updC
  split
  ·rw [hd_len]; omega
  ·show ((0:Nat):Int)<=37; omega) (by show (1:Int) * 37<=lb; omega)
 have no:nxO L=stp [opC (segN ((0+1:Nat):Int)),opA (segN ((0+1:Nat):Int)) (mkW (hdR 1 0)),opS (segN ((0+1:Nat):Int)),opD] L.d:=by
  unfold nxO
  rw [et,hq]; rfl
 rw [<- no] at hn
 obtain ⟨n1,n2,n3,n4,n5⟩:=hn
 have nx:nxL L=({ L with d:=(nxO L).1,ts:=1,tz:=37,tr:=0,sl:=false,tq:=1 },0):=by
  unfold nxL
  rw [s1]
  rw [if_neg (fun q=>q rfl),if_neg (fun q=>q n1)]
  show (({ L with d:=(nxO L).1,e:=(nxO L).2,ts:=L.ts+1,tz:=37,tr:=0,sl:=false,tq:=L.tq+1 }:Lg),(0:Int))=_
  rw [n1,e2,hq]
  cases L
  cases e0
  rfl
 have hi:DkI (nxO L).1:=by
  rw [no]
  have I0:DkI L.d:=hL.i
  have hlast:=hL.ld.last
  have g:∀ (ops:List (Dk->Dk×Int)) (d:Dk),(∀ f ∈ ops,∀ d,DkI d->0<=d.last->DkI (f d).1/\0<=(f d).1.last)->DkI d->0<=d.last->DkI (stp ops d).1:=by
   intro ops
   induction ops with
   | nil=>intro d _ h _; exact h
   | cons f r ih =>
    intro d hf h h0
    have:=hf f List.mem_cons_self d h h0
    unfold stp
    split
    ·exact ih _ (fun g hg=>hf g (List.mem_cons_of_mem _ hg)) this.1 this.2
    ·exact this.1
  refine g _ _ (fun f hf d hd h0=>?_) I0 (by rw [hlast]; omega)
  simp only [List.mem_cons,List.not_mem_nil,or_false] at hf
  rcases hf with rfl | rfl | rfl | rfl
  ·have:=do_I hd h0 ⟨1,segN ((0+1:Nat):Int),⟨#[]⟩,[],0⟩
   rw [doD1] at this
   exact this
  ·have:=do_I hd h0 ⟨2,segN ((0+1:Nat):Int),⟨#[]⟩,mkW (hdR 1 0),0⟩
   rw [doD2] at this
   exact this
  ·have:=do_I hd h0 ⟨4,segN ((0+1:Nat):Int),⟨#[]⟩,[],0⟩
   rw [doD4] at this
   exact this
  ·have:=do_I hd h0 ⟨7,⟨#[]⟩,⟨#[]⟩,[],0⟩
   rw [doD7] at this
   exact this
 have sz:szs [x]=(mkW x).length:=by
  show szW x+0=_
  unfold szW
  rw [if_pos hr]; rfl
 have rm:rmL L 1 (szs [x]:Nat)=nxL L:=if_pos (.inl e2)
 refine ⟨(nxO L).1,⟨n2,n3,n4,n5,hi⟩,by rw [rm,nx],by rw [rm,nx],fun m=>?_⟩
 have hb:(bmR [x] 0).2.2=0:=by
  have hw:wrB [x]=0:=wrB_of (by simp) (fun y hy=>by simp at hy; subst hy; exact ⟨hk,hr⟩)
  unfold bmR
  rw [if_neg (fun q=>q hw),if_neg (by show ¬ 1 >= 18446744073709551615 - 0; omega)]
 unfold adL
 rw [if_neg (fun q=>q e0),if_neg (fun q=>q hb),if_neg (by rw [sz]; omega)]
 have rm:rmL L (([x]:List Rc).length:Nat) (szs [x]:Nat)=nxL L:=if_pos (.inl e2)
 rw [rm,nx]
 rw [if_neg (fun q=>q rfl)]
 have hlen:((aoL { L with d:=(nxO L).1,ts:=1,tz:=37,tr:=0,sl:=false,tq:=1 } [x] m).rs.length:Int)=1:=by
  show (((L.rs ++ nmR [x] (1+L.rs.length)).length:Nat):Int)=1
  rw [e1]; rfl
 rw [if_neg (by rw [hlen]; show ¬ L.bt<=1; omega)]
def z7:List UInt8:=7 :: List.replicate 31 0
def x7:Rc:=⟨5,0,z7,[],[],0,0⟩
def L7:Lg:=newL (newD 9000 9) 1024 4 0 0 0 (.float .f64 0) 0 0 0 false 0
theorem del_len {x:Rc} (h:x.k=5) (hd:x.d.length=32):(mkW x).length=53:=by
 have e:daW x=x.d:=by
  unfold daW
  rw [if_neg (by omega),if_pos h]
 rw [mkW_len,e,hd]
theorem x7_rg:rgR x7=0:=by decide +kernel
theorem x7_len:z7.length=32:=rfl
theorem L7_B:LgB L7:=⟨⟨by show (0:Int)<=0; omega,by show (0:Int)<=1000000; omega⟩,⟨by show (0:Int)<=0; omega,by show (0:Int)+((0:Nat):Int)<=65536; omega⟩,⟨by show (0:Int)<=0; omega,by show (0:Int)<=0; omega⟩,by show 0+0<=1152921504606846976; omega,fun i x h=>(by
 have h:([]:List Rc)[i]?=some x:=h
 cases i <;> cases h),by show (1024:Int)<=65536; omega⟩
theorem lv29:∃ M,(∀ m,rmL L7 (([x7]:List Rc).length:Nat) (szs [x7]:Nat)=(M,0)/\adL L7 [x7] m=(aoL M [x7] m,opW [x7] M,0))/\M.ts=1/\M.tz=37/\LgB (aoL M [x7] 1)/\(flL (aoL M [x7] 1)).2=0/\(flL (aoL M [x7] 1)).1.ts=1/\(flL (aoL M [x7] 1)).1.tz=119/\(flL (aoL M [x7] 1)).1.tr=1/\(flL (aoL M [x7] 1)).1.sl=false/\(flL (aoL M [x7] 1)).1.tq=3/\opW [x7] M=[wdR { x7 with sq:=1 } 1 37 53]:=by
 obtain ⟨d1,hd,h1,h2,h3⟩:=ad_first (L:=L7) (x:=x7) L7_B (new_LS 9000 9) rfl rfl rfl (by show (4:Int) > 1; omega) (by omega) (by omega) ⟨by show (1:Int)<=5; omega,by show (5:Int)<=5; omega⟩ x7_rg (by rw [del_len rfl x7_len]; show ((53:Nat):Int)<=1024 - 95; omega) rfl
 have h4:=h3 1
 generalize hM:({ L7 with d:=d1,ts:=1,tz:=37,tr:=0,sl:=false,tq:=1 }:Lg)=M at h2 h3 h4
 have ml:=del_len (x:={ x7 with sq:=1 }) rfl x7_len
 have ers:(aoL M [x7] 1).rs=[{ x7 with sq:=1 }]:=by subst hM; rfl
 have etq:(aoL M [x7] 1).tq=1:=by subst hM; rfl
 have ets:(aoL M [x7] 1).ts=1:=by subst hM; rfl
 have etz:(aoL M [x7] 1).tz=37:=by subst hM; rfl
 have etr:(aoL M [x7] 1).tr=0:=by subst hM; rfl
 have esl:(aoL M [x7] 1).sl=false:=by subst hM; rfl
 have ee:(aoL M [x7] 1).e=0:=by subst hM; rfl
 have ed:(aoL M [x7] 1).d=d1:=by subst hM; rfl
 have esg:(aoL M [x7] 1).sg=1024:=by subst hM; rfl
 have eby:(byW [{ x7 with sq:=1 }]).length=53:=by
  have:byW [{ x7 with sq:=1 }]=mkW { x7 with sq:=1 }:=by unfold byW; simp
  rw [this,ml]
 have hB:LgB (aoL M [x7] 1):=by
  refine ⟨by rw [ets]; omega,⟨by rw [etz]; omega,by rw [etz,ers,eby]; omega⟩,by rw [etr,etz]; omega,by rw [etq,ers]; decide,fun i x hi=>?_,by rw [esg]; omega⟩
  rw [ers] at hi
  rw [etq]
  match i,hi with
  | 0,hi=>cases hi; exact ⟨rfl,⟨x7_len,x7_rg,by show 1 < _; omega⟩,by show (1:Int)<=5; omega,by show (5:Int)<=5; omega⟩
  | i+1,hi=>cases hi
 have hbl:=hB.bl
 rw [ers,etq,eby] at hbl
 have hw:=wr_ok (n:=1) (R:=119) (b:=batB [{ x7 with sq:=1 }] 1) hd (by omega) (by unfold updC; rw [if_pos rfl,hd_len]; omega) (fun q=>by rw [q] at hbl; cases hbl) (fun j j1 j2=>by
  unfold updC
  rw [if_pos (by omega),if_pos rfl,List.length_append,hd_len,hbl]; decide) (by show (1:Int) * 119<=9000; omega)
 have ew:wrO (aoL M [x7] 1) (batB (aoL M [x7] 1).rs (aoL M [x7] 1).tq)=stp [opA (segN ((1:Nat):Int)) (batB [{ x7 with sq:=1 }] 1),opS (segN ((1:Nat):Int))] d1:=by
  unfold wrO
  rw [ers,etq,ets,ed]; rfl
 have hf:flL (aoL M [x7] 1)=({ wrL (aoL M [x7] 1) (batB (aoL M [x7] 1).rs (aoL M [x7] 1).tq) with tz:=(aoL M [x7] 1).tz+((batB (aoL M [x7] 1).rs (aoL M [x7] 1).tq).length:Int),tr:=(aoL M [x7] 1).tr+((aoL M [x7] 1).rs.length:Int),tq:=(aoL M [x7] 1).tq+(aoL M [x7] 1).rs.length+1,rs:=[],de:=0 },0):=by
  unfold flL
  rw [if_neg (fun q=>q ee),if_neg (by rw [ers]; simp),if_neg (fun q=>q (by rw [ew]; exact hw.1))]
 refine ⟨M,fun m=>⟨?_,h3 m⟩,by subst hM; rfl,by subst hM; rfl,hB,by rw [hf],by rw [hf]; exact ets,?_,?_,by rw [hf]; exact esl,?_,?_⟩
 ·exact Prod.ext h2 h1
 ·rw [hf]
  show (aoL M [x7] 1).tz+((batB (aoL M [x7] 1).rs (aoL M [x7] 1).tq).length:Int)=119
  rw [etz,ers,etq,hbl]; rfl
 ·rw [hf]
  show (aoL M [x7] 1).tr+((aoL M [x7] 1).rs.length:Int)=1
  rw [etr,ers]; rfl
 ·rw [hf]
  show (aoL M [x7] 1).tq+(aoL M [x7] 1).rs.length+1=3
  rw [etq,ers]; rfl
 ·subst hM
  show [wdR { x7 with sq:=1 } 1 (37+((0:Nat):Int)) ((mkW { x7 with sq:=1 }).length:Int)]=_
  rw [ml]; rfl
end Go.Proofs.YtadbakmblklncaaGreatDoor
namespace Go.Proofs.YtadbakmblklncaaGreatDoor
open Go.GV Go.ChangeShapes Go.WideShapes Go.ChangeAt Go.RowKit
theorem own:ownKnob Tryz.prog.godebug=none:=by kernel_rfl
theorem laid:laidOutB Tryz.prog=true:=by kernel_rfl
end Go.Proofs.YtadbakmblklncaaGreatDoor
namespace Go.Proofs.YtadbakmblklncaaGreatDoor
open Go.GV Go.RowKit Go.Lib
theorem LgAt.go {P P' S:Nat->Prop} {w w':World} {lb db r:Nat} {L:Lg} (h:LgAt P w lb db r L) (f:Fr S w w') (hS:∀ k,S k->¬ P k) (h1:∀ k,k < w.heap.size->P k->P' k) (h2:∀ k,w'.heap.size<=k->P' k):LgAt P' w' lb db r L:=by
 obtain ⟨A,n,c,A2,n2,c2,vs,h⟩:=h
 exact ⟨A,n,c,A2,n2,c2,vs,(h.q.go f hS h1 h2).p rfl⟩
theorem x7_rs {w:World} {b:Nat} (h:RecAt w b 71 (rcC x7 none 0 0)):RSl (fun k=>k=b) w (some ⟨b,0,none⟩) 1 [x7]:=by
 have hl:=rcC_len (x:=x7) x7_len none 0 0
 refine ⟨⟨rcC x7 none 0 0,⟨by rw [hl],fun _=>⟨b,0,rfl,h.cells (fun j v hj=>by rw [Nat.zero_add]; exact hj)⟩⟩,fun i y hi=>?_⟩,rfl,fun _ k hk=>by cases hk; rfl⟩
 match i,hi with
 | 0,hi =>
  cases hi
  rw [chk_one hl]
  exact ⟨none,0,0,rfl,Sl.nil _ _ _,Nat.le_refl _,fun q=>absurd rfl q,x7_len,by show 0<=_; omega,by show 0<=_; omega⟩
 | i+1,hi=>cases hi
theorem x7_wd:wdR { x7 with sq:=1 } 1 37 53=⟨5,1,z7,[],0,1,37,53⟩:=by
 unfold wdR
 rw [if_neg (by show ¬ ((5:Int)=1\/(5:Int)=2); omega),if_pos (show ({ x7 with sq:=1 }:Rc).k=5 from rfl)]; rfl
set_option maxHeartbeats 2000000 in
theorem lives_calls (w:World) (hv:Nm8.VK w):Calls Tryz.prog 9 #[] w fun e w'=>e=.returned (.bool true)/\Fr (fun _=>False) w w':=by
 refine (F9.of w (Q:=fun v w'=>v=.bool true/\Fr (fun _=>False) w w') ?_).mono (fun e w' ⟨v,he,hv,h⟩=>⟨by rw [he,hv],h⟩)
 refine (@NewO_calls ⟨fun k=>w.heap.size<=k⟩ 9000 9 w (fun k hk=>hk)).mono ?_
 rintro e w1 ⟨f1,db,r,rfl,hd,hdb,hrb⟩
 refine ⟨_,rfl,(lnew_calls (fun k=>w.heap.size<=k) db r (newD 9000 9) 1024 4 0 0 0 (.float .f64 0) 0 0 0 false 0 w1 hd (fun k hk=>Nat.le_trans f1.size hk) ⟨hdb,hrb⟩ rfl).mono ?_⟩
 rintro e w4 ⟨f4,lb,rfl,hlb,hL⟩
 have hL:LgAt (fun k=>w.heap.size<=k) w4 lb db r L7:=hL
 refine ⟨_,rfl,gd_mk rfl (gd_mk rfl (rec_new (fun b7 w8 f8 hb7 r7=>?_)))⟩
 have r7:RecAt w8 b7 71 (rcC x7 none 0 0):=r7
 have s1:=f1.size
 have s4:=f4.size
 have s8:=f8.size
 have l7:=r7.lt
 have h8:LgAt (fun k=>w.heap.size<=k/\k ≠ b7) w8 lb db r L7:=hL.go f8 (fun _ h=>h.elim) (fun k hk q=>⟨q,by omega⟩) (fun k hk=>⟨by omega,by omega⟩)
 have hE:Env (fun k=>w.heap.size<=k/\k ≠ b7) w w8:=⟨hv,(f1.trans1 f4).trans1 f8,fun k hk=>hk.1⟩
 obtain ⟨M,hM,m1,m2,hB,e1,e2,e3,e4,e5,e6,e7⟩:=lv29
 have hG:DkG L7.d 0:=⟨(new_LS 9000 9).i,new_B 9000 9 (by omega) (by omega)⟩
 refine (add_calls (fun k=>w.heap.size<=k/\k ≠ b7) (fun k=>k=b7) w lb db r L7 0 _ 1 1 [x7] 1 w8 h8 hE L7_B hG (by omega) (x7_rs r7) (fun k hk q=>q.2 hk) (by omega) (by show (-1099511627776:Int)<=1024; omega) (fun _ _ _ _=>by rw [(hM 1).1]; exact hB)).mono ?_
 rintro e w9 ⟨f9,h9,A,c,rfl,hW⟩
 have hG9:=ad_G (l:=[x7]) (deeds:=1) hG
 rw [(hM 1).2] at h9 hW hG9 ⊢
 have hE9:=hE.step f9
 have h9:LgAt (fun k=>w.heap.size<=k/\k ≠ b7) w9 lb db r (aoL M [x7] 1):=h9
 have hW:Wr2 w9 w8.heap.size A (opW [x7] M).length c (opW [x7] M):=hW
 have hG9:DkG (aoL M [x7] 1).d (0+10):=hG9
 rw [e7,x7_wd] at hW
 refine ⟨A,(opW [x7] M).length,c,0,rfl,vIf_f rfl ?_⟩
 rw [e7]
 refine vIf_f rfl ?_
 obtain ⟨b,o,rfl,hc⟩:=hW.row.sl.2 (by decide)
 refine dr_mk (gd_mk rfl ⟨[.int .i64 1,.int .i64 37,.int .i64 53],rfl,fun j v hj=>?_,?_⟩)
 ·match j,hj with
  | 0,hj=>cases hj; exact hc 36 (.int .i64 1) rfl
  | 1,hj=>cases hj; exact hc 37 (.int .i64 37) rfl
  | 2,hj=>cases hj; exact hc 38 (.int .i64 53) rfl
  | j+3,hj=>cases hj
 refine ⟨[1,37,53],[1,37,53],rfl,rfl,rfl,rfl,vIf_f rfl (jnC_mk (fun _=>?_))⟩
 refine (flush_calls (fun k=>w.heap.size<=k/\k ≠ b7) w lb db r (aoL M [x7] 1) (0+10) w9 h9 hE9 hB hG9 (by omega)).mono ?_
 rintro e w19 ⟨f19,rfl,h19⟩
 have hE19:=hE9.step (f19.mono (fun k _ hk=>h9.nP.1 k hk))
 rw [e1]
 refine ⟨_,rfl,vIf_t rfl ((ltail_calls _ lb db r _ w19 h19).mono ?_)⟩
 rintro e w22 ⟨rfl,f22⟩
 rw [e2,e3,e4,e5,e6]
 exact ⟨_,rfl,rfl,rfl,rfl,(hE19.up f22).fr⟩
def acC (k:Int) (A:Option Addr) (n c:Nat) (p q s1 s2 s3:Int):List Value:=[.int .i64 k,.slice A n c,.int .i64 p,.int .i64 q,.int .i64 s1,.int .i64 s2,.int .i64 s3]
theorem do_nil (db r:Nat) (d:Dk) (k:Int) (A:Option Addr) (n c:Nat) (p q s1 s2 s3:Int) (w:World) (h:DkAt w db r d) :
  Calls Tryz.prog 5 #[.pointer (some ⟨db,0,none⟩),.pointer none,ofL (acC k A n c p q s1 s2 s3)] w fun e w'=>e=.returned (.tuple #[.slice none 0 0,.slice none 0 0,.int .i64 (if k=3 then 0 else 1)])/\Fr (DS db r) w w':=by
 refine (F5.of (some ⟨db,0,none⟩) none _ w (Q:=fun v w'=>v=.tuple #[.slice none 0 0,.slice none 0 0,.int .i64 (if k=3 then 0 else 1)]/\Fr (DS db r) w w') ?_).mono (fun e w' ⟨v,he,hv,h⟩=>⟨by rw [he,hv],h⟩)
 refine rec_new (fun b1 w2 f2 hb1 r1=>⟨k,r1.cell (o:=0) rfl,?_⟩)
 have up:∀ {w':World},Fr (fun _=>False) w2 w'->Fr (DS db r) w w':=fun f=>(f2.trans1 f).mono (fun _ _ h=>h.elim)
 refine vIf_mk (fun g=>?_) (fun g=>?_)
 ·have g:k=0:=by simpa using g
  rw [if_neg (by omega)]
  refine ⟨A,n,c,r1.cell (o:=0+1) rfl,p,r1.cell (o:=0+2) rfl,(ladd_nil A n c p w2).mono ?_⟩
  rintro e w3 ⟨rfl,f3⟩
  exact ⟨_,_,_,_,rfl,rfl,up f3⟩
 ·have g0:¬ k=0:=by simpa using g
  refine vIf_mk (fun g=>?_) (fun g=>?_)
  ·have g:k=1:=by simpa using g
   rw [if_neg (by omega)]
   refine (lflush_nil w2).mono ?_
   rintro e w3 ⟨rfl,f3⟩
   exact ⟨_,rfl,rfl,up f3⟩
  ·have g1:¬ k=1:=by simpa using g
   refine vIf_mk (fun g=>?_) (fun g=>?_)
   ·have g:k=2:=by simpa using g
    rw [if_neg (by omega)]
    refine (lseal_nil w2).mono ?_
    rintro e w3 ⟨rfl,f3⟩
    exact ⟨_,rfl,rfl,up f3⟩
   ·have g2:¬ k=2:=by simpa using g
    refine vIf_mk (fun g=>?_) (fun g=>?_)
    ·have g:k=3:=by simpa using g
     rw [if_pos g]
     refine ⟨q,r1.cell (o:=0+3) rfl,(Fuse_calls db r d q w2 (h.fr f2 (fun h=>h) (fun h=>h) (fun _ h=>h.elim))).mono ?_⟩
     rintro e w3 ⟨f3,rfl,_⟩
     exact ⟨rfl,rfl,(f2.mono (fun _ _ h=>h.elim)).trans1 f3⟩
    ·have g3:¬ k=3:=by simpa using g
     rw [if_neg g3]
     refine ⟨[.int .i64 s1,.int .i64 s2,.int .i64 s3],rfl,fun j v hj=>?_,(lread_nil _ w2).mono ?_⟩
     ·match j,hj with
      | 0,hj=>cases hj; exact r1.cell (o:=0+4) rfl
      | 1,hj=>cases hj; exact r1.cell (o:=0+4+1) rfl
      | 2,hj=>cases hj; exact r1.cell (o:=0+4+2) rfl
      | j+3,hj=>cases hj
     rintro e w3 ⟨rfl,f3⟩
     exact ⟨_,_,_,_,rfl,rfl,up f3⟩
set_option maxHeartbeats 1000000 in
theorem none_law (k:Int) (A:Option Addr) (n c:Nat) (p q s1 s2 s3:Int) (w:World) (hv:Nm8.VK w) :
  Calls Tryz.prog 3 #[ofL (acC k A n c p q s1 s2 s3)] w fun e w'=>e=.returned (.bool true)/\Fr (fun _=>False) w w':=by
 refine (F3.of _ w (Q:=fun v w'=>v=.bool true/\Fr (fun _=>False) w w') ?_).mono (fun e w' ⟨v,he,hv,h⟩=>⟨by rw [he,hv],h⟩)
 refine rec_new (fun b1 w2 f2 hb1 r1=>(New_calls 0 0 w2).mono ?_)
 rintro e w3 ⟨f3,db,r,rfl,hd,hdb,hrb⟩
 have l1:=r1.lt
 have r3:=r1.fr f3 (fun h=>h)
 refine ⟨_,rfl,_,rfl,rec_all r3,(do_nil db r _ k A n c p q s1 s2 s3 w3 hd).mono ?_⟩
 rintro e w7 ⟨rfl,f7⟩
 have s2:=f2.size
 have f27:Fr (fun _=>False) w w7:=(f2.trans1 f3).trans f7 (fun _ _ h=>h) (fun k hk q=>by rcases q with q | q <;> omega)
 refine ⟨_,_,_,_,_,_,_,rfl,(lopen_nil w7).mono ?_⟩
 rintro e w16 ⟨rfl,rfl⟩
 refine ⟨_,_,_,rfl,vIf_t rfl (vIf_t rfl ⟨k,(r3.fr f7 (fun q=>by rcases q with q | q <;> omega)).cell (o:=0) rfl,vIf_t ?_ (vIf_t rfl ((ltail_nil w16).mono ?_))⟩)⟩
 ·by_cases g:k=3
  ·subst g; rfl
  ·rw [if_neg g]
   simp [g]
 rintro e w22 ⟨rfl,f22⟩
 refine ⟨_,rfl,rfl,rfl,vIf_t rfl ((lfits_nil 0 0 w22).mono ?_)⟩
 rintro e w26 ⟨rfl,rfl⟩
 have f0:=f27.trans1 f22
 refine ⟨_,rfl,vIf_t rfl ((lives_calls w26 (hv.fr f0)).mono ?_)⟩
 rintro e w29 ⟨rfl,f29⟩
 exact ⟨_,rfl,rfl,f0.trans1 f29⟩
end Go.Proofs.YtadbakmblklncaaGreatDoor
namespace Go.Proofs.YtadbakmblklncaaGreatDoor
open Go.GV Go.ChangeShapes Go.WideShapes Go.ChangeAt Go.RowKit
def laidL:List (String×DataW Unit):=Rows.logNoneRow.laid
theorem laidL_eq : laidL = [("math/bits.deBruijn32tab", Rows.laid_math_bits_deBruijn32tab), ("math/bits.deBruijn64tab", Rows.laid_math_bits_deBruijn64tab), ("internal/strconv.uint64pow10", Rows.laid_internal_strconv_uint64pow10)] := rfl
theorem gTab : Tryz.prog.globalNamed "internal/strconv.uint64pow10" = some 0 := by kernel_rfl
theorem gTabType:(Tryz.prog.globals[0]?).map (·.type)=some 218:=by kernel_rfl
theorem cellsT:Tryz.prog.cellsOf 218=20:=by kernel_rfl
theorem cellsE:Tryz.prog.cellsOf 39=1:=by kernel_rfl
theorem vK {W:World} (h:laidMet Tryz.prog laidL W):Nm8.VK W:=by
 rw [laidL_eq] at h
 exact ⟨Lib.tabIs_of_head (rest:=_) gTab gTabType Tryz.underlying218 Tryz.underlying39 cellsE cellsT h.tail.tail⟩
noncomputable def laidWorld (os:Os):World :=
 let w0:=World.holding Tryz.prog os ⟨#[],#[],[]⟩
 { w0 with heap:=((w0.heap.modify 0 fun
   | .cells _ t frozen=>.cells #[.int .u64 1,.int .u64 10,.int .u64 100,.int .u64 1000,.int .u64 10000,.int .u64 100000,.int .u64 1000000,.int .u64 10000000,.int .u64 100000000,.int .u64 1000000000,.int .u64 10000000000,.int .u64 100000000000,.int .u64 1000000000000,.int .u64 10000000000000,.int .u64 100000000000000,.int .u64 1000000000000000,.int .u64 10000000000000000,.int .u64 100000000000000000,.int .u64 1000000000000000000,.int .u64 10000000000000000000] t frozen
   | o=>o).modify 2 fun
   | .cells _ t frozen=>.cells #[.int .u8 0,.int .u8 1,.int .u8 28,.int .u8 2,.int .u8 29,.int .u8 14,.int .u8 24,.int .u8 3,.int .u8 30,.int .u8 22,.int .u8 20,.int .u8 15,.int .u8 25,.int .u8 17,.int .u8 4,.int .u8 8,.int .u8 31,.int .u8 27,.int .u8 13,.int .u8 23,.int .u8 21,.int .u8 19,.int .u8 16,.int .u8 7,.int .u8 26,.int .u8 12,.int .u8 18,.int .u8 6,.int .u8 11,.int .u8 5,.int .u8 10,.int .u8 9] t frozen
   | o=>o).modify 3 fun
   | .cells _ t frozen=>.cells #[.int .u8 0,.int .u8 1,.int .u8 56,.int .u8 2,.int .u8 57,.int .u8 49,.int .u8 28,.int .u8 3,.int .u8 61,.int .u8 58,.int .u8 42,.int .u8 50,.int .u8 38,.int .u8 29,.int .u8 17,.int .u8 4,.int .u8 62,.int .u8 47,.int .u8 59,.int .u8 36,.int .u8 45,.int .u8 43,.int .u8 51,.int .u8 22,.int .u8 53,.int .u8 39,.int .u8 33,.int .u8 30,.int .u8 24,.int .u8 18,.int .u8 12,.int .u8 5,.int .u8 63,.int .u8 55,.int .u8 48,.int .u8 27,.int .u8 60,.int .u8 41,.int .u8 37,.int .u8 16,.int .u8 46,.int .u8 35,.int .u8 44,.int .u8 21,.int .u8 52,.int .u8 32,.int .u8 23,.int .u8 11,.int .u8 54,.int .u8 26,.int .u8 40,.int .u8 15,.int .u8 34,.int .u8 20,.int .u8 31,.int .u8 10,.int .u8 25,.int .u8 14,.int .u8 19,.int .u8 9,.int .u8 13,.int .u8 8,.int .u8 7,.int .u8 6] t frozen
   | o=>o }
end Go.Proofs.YtadbakmblklncaaGreatDoor
