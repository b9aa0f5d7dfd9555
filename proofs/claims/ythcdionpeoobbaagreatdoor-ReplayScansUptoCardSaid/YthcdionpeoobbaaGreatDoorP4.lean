import Derived.Test.YthcdionpeoobbaaGreatDoorP3
set_option linter.unusedVariables false
set_option linter.unusedSimpArgs false
namespace Go.Proofs.YthcdionpeoobbaaGreatDoor
open Go.GV Go.RowKit Go.Lib
theorem wr_one {w:World} {cs:List Value} {x:Wr} (h:WrP w cs x):cs.length=3/\∀ v ∈ cs,v.oneCell'=true:=by
 obtain ⟨B,m,k,rfl,_⟩:=h
 refine ⟨rfl,fun v hv=>?_⟩
 simp only [List.mem_cons,List.not_mem_nil,or_false] at hv
 rcases hv with rfl | rfl | rfl <;> rfl
theorem sl_nil0 {w:World} {A:Option Addr} {n:Nat} {vs:List Value} (h:Sl w 1 A n vs) (hA:A=none):n=0:=by
 by_cases h0:n=0
 ·exact h0
 ·obtain ⟨b,o,h1,_⟩:=h.2 h0
  rw [hA] at h1; cases h1
theorem clone_by (A:Option Addr) (n c:Nat) (b:Bs) (w:World) (h:Sl w 1 A n (bys b)) (hn:n<=1099511627776) :
  Calls Tryz.prog 89 #[.slice A n c] w fun e w'=>Fr (fun _=>False) w w'/\∃ A' c',e=.returned (.slice A' n c')/\Row w' w.heap.size 5 1 A' n c' (bys b):=by
 refine (F89.of A n c w (Q:=fun v w'=>Fr (fun _=>False) w w'/\∃ A' c',v=.slice A' n c'/\Row w' w.heap.size 5 1 A' n c' (bys b)) ?_).mono (fun e w' ⟨v,he,hf,A',c',hv,h⟩=>⟨hf,A',c',by rw [he,hv],h⟩)
 have hl:=by_n h
 refine vIf_mk (fun hA=>?_) (fun hA=>nw_mk ?_)
 ·have hA:A=none:=by simpa using hA
  have:=sl_nil0 h hA
  subst this
  have:b=[]:=List.length_eq_zero_iff.1 hl
  subst this
  exact ⟨Fr.refl _ _,none,0,rfl,Row.nil _ _ _ _⟩
 ·have f1:Fr (fun _=>False) w (w.alloc (.cells ([]:List Value).toArray 5)):=Fr.alloc _ _ _
  have r1:Row (w.alloc (.cells ([]:List Value).toArray 5)) w.heap.size 5 1 (some ⟨w.heap.size,0,none⟩) 0 0 []:=Row.new (Nat.le_refl _) rfl
  refine app_row r1 (f1.sl h (fun _ _ _ h=>h)).src (bvs_one b) rfl (by omega) (by omega) f1.size ?_
  intro A' c' w2 r2 f2
  rw [Nat.zero_add] at r2 ⊢
  rw [List.nil_append] at r2
  exact ⟨f1.trans f2 (fun _ _ h=>h) (fun k hk h=>by simp only [blkOf,Option.some.injEq] at h; omega),A',c',rfl,r2⟩
theorem right_calls (cs:List Value) (x:Wr) (w:World) (h:WrP w cs x) (hd:x.data.length<=1099511627776) :
  Calls Tryz.prog 183 #[ofL cs] w fun e w'=>e=.returned (.bool (rightW x))/\Fr (fun _=>False) w w':=by
 refine (F183.of cs w (Q:=fun v w'=>v=.bool (rightW x)/\Fr (fun _=>False) w w') ?_).mono (fun e w' ⟨v,he,hv,h⟩=>⟨by rw [he,hv],h⟩)
 obtain ⟨B,m,k,rfl,h1,h2⟩:=h
 have hm:=by_n h1
 refine nw_mk ?_
 have q:=RecAt.new w ([.bool x.cut,.int .i64 x.off,.slice B m k]:List Value) 188
 have f1:Fr (fun _=>False) w (w.alloc (.cells ([.bool x.cut,.int .i64 x.off,.slice B m k]:List Value).toArray 188)):=Fr.alloc _ _ _
 have ew:IntKind.wrap .i64 (1048576 - ((m:Nat):Int))=1048576 - (m:Int):=i64_id (by omega) (by omega)
 refine ⟨_,q.cell (o:=0+1) rfl,vIf_mk (fun h=>⟨_,q.cell (o:=0+1) rfl,_,_,_,q.cell (o:=0+2) rfl,?_,f1⟩) (fun h=>⟨?_,f1⟩)⟩
 ·unfold rightW
  rw [h,Bool.true_and,ew,hm]
 ·unfold rightW
  rw [h,Bool.false_and]
theorem over_cells (b d:Bs) (o:Nat):splice (bys b ++ zeros (max b.length (o+d.length) - b.length) [Value.int .u8 0]) o (bys d)=bys (over b o d):=by
 have hl:(bys b ++ zeros (max b.length (o+d.length) - b.length) [Value.int .u8 0]).length=max b.length (o+d.length):=by
  rw [List.length_append,zeros_length]; simp [bys]; omega
 have hfit:o+(bys d).length<=(bys b ++ zeros (max b.length (o+d.length) - b.length) [Value.int .u8 0]).length:=by
  rw [hl]; simp [bys]; omega
 apply List.ext_getElem?
 intro j
 rw [splice_get hfit]
 have e:(bys (over b o d))[j]?=((over b o d)[j]?).map bv:=by simp [bys]
 rw [e,over_get]
 have hd:(bys d).length=d.length:=by simp [bys]
 have hb:(bys b).length=b.length:=by simp [bys]
 have zer:∀ i,i < max b.length (o+d.length) - b.length->(zeros (max b.length (o+d.length) - b.length) [Value.int .u8 0])[i]?=some (bv 0):=fun i hi=>by
  have h:=zeros_get [Value.int .u8 0] (max b.length (o+d.length) - b.length) i (by simpa using hi)
  rw [h]; simp [Nat.mod_one]; rfl
 rw [hd]
 by_cases h1:j < o
 ·rw [if_pos h1,if_pos h1]
  by_cases h2:j < b.length
  ·rw [if_pos h2,List.getElem?_append_left (by omega)]; simp [bys]
  ·rw [if_neg h2]
   rw [List.getElem?_append_right (by omega),hb,zer _ (by omega)]; rfl
 ·rw [if_neg h1,if_neg h1]
  by_cases h2:j < o+d.length
  ·rw [if_pos h2,if_pos h2]; simp [bys]
  ·rw [if_neg h2,if_neg h2]
   by_cases h3:j < b.length
   ·rw [List.getElem?_append_left (by omega)]; simp [bys]
   ·rw [List.getElem?_eq_none (by rw [hl]; omega),List.getElem?_eq_none (by omega)]; rfl
set_option maxHeartbeats 1000000 in
theorem apply_calls (A:Option Addr) (n c:Nat) (b:Bs) (cs:List Value) (x:Wr) (w:World) (h:Sl w 1 A n (bys b)) (hc:n<=c) (hx:WrP w cs x) (hn:n<=1099511627776) (hd:x.data.length<=1099511627776) :
  Calls Tryz.prog 161 #[.slice A n c,ofL cs] w fun e w'=>Fr (fun _=>False) w w'/\∃ A' c',e=.returned (.slice A' (applyW b x).length c')/\Row w' w.heap.size 5 1 A' (applyW b x).length c' (bys (applyW b x)):=by
 refine (F161.of A n c cs w (Q:=fun v w'=>Fr (fun _=>False) w w'/\∃ A' c',v=.slice A' (applyW b x).length c'/\Row w' w.heap.size 5 1 A' (applyW b x).length c' (bys (applyW b x))) ?_).mono (fun e w' ⟨v,he,hf,A',c',hv,h⟩=>⟨hf,A',c',by rw [he,hv],h⟩)
 have hl:=by_n h
 have hone:=wr_one hx
 refine nw_mk ?_
 have q:=RecAt.new w cs 188
 have f1:Fr (fun _=>False) w (w.alloc (.cells cs.toArray 188)):=Fr.alloc _ _ _
 have s1:(w.alloc (.cells cs.toArray 188)).heap.size=w.heap.size+1:=alloc_size _ _
 generalize hb1:w.heap.size=b1 at q s1
 generalize w.alloc (.cells cs.toArray 188)=w2 at f1 q s1 ⊢
 refine ⟨cs,hone.1,q.cells (fun j v hj=>by rw [Nat.zero_add]; exact hj),(right_calls cs x w2 (hx.fr0 f1) hd).mono ?_⟩
 rintro e w4 ⟨rfl,f4⟩
 have q:=q.fr f4 (fun h=>h)
 have f:=f1.trans1 f4
 have hx4:=hx.fr0 f
 have h4:=f.sl h (fun _ _ _ h=>h)
 have hs4:=f.size
 obtain ⟨B,m,k,ecs,hB,hmk⟩:=hx4
 subst ecs
 have hm:=by_n hB
 have same:applyW b x=b->jnC (F161.k2 (fun v w'=>Fr (fun _=>False) w w'/\∃ A' c',v=.slice A' (applyW b x).length c'/\Row w' b1 5 1 A' (applyW b x).length c' (bys (applyW b x)))) ((A,n,c),(b1,0),true,()) w4:=by
  intro e
  refine jnC_mk (fun _=>vIf_t rfl ((clone_by A n c b w4 h4 hn).mono ?_))
  rintro r w5 ⟨f5,A',c',rfl,h5⟩
  refine ⟨_,_,_,rfl,f.trans1 f5,A',c',by rw [e,hl],?_⟩
  rw [e,hl]
  refine ⟨h5.len,h5.le,?_⟩
  rcases h5.at_ with h' | ⟨b',cs',q1,q2,q3⟩
  ·exact .inl h'
  ·exact .inr ⟨b',cs',q1,by omega,q3⟩
 have some:rightW x=true->(x.cut=false->x.data ≠ [])->jnC (F161.k2 (fun v w'=>Fr (fun _=>False) w w'/\∃ A' c',v=.slice A' (applyW b x).length c'/\Row w' b1 5 1 A' (applyW b x).length c' (bys (applyW b x)))) ((A,n,c),(b1,0),false,()) w4:=by
  intro hr hne
  have hro:=right_iff.1 hr
  have hno:¬ (rightW x=false\/(x.cut=false/\x.data=[])):=fun h=>h.elim (fun h=>by rw [hr] at h; cases h) (fun h=>hne h.1 h.2)
  refine jnC_mk (fun _=>vIf_f rfl ⟨_,q.cell (o:=0) rfl,vIf_mk (fun hcut=>⟨_,q.cell (o:=0+1) rfl,?_⟩) (fun hcut=>jnC_mk (fun _=>⟨_,q.cell (o:=0+1) rfl,_,_,_,q.cell (o:=0+2) rfl,?_⟩))⟩)
  ·have e:applyW b x=b.take x.off.toNat:=by
    unfold applyW
    rw [if_neg hno,if_pos hcut]
   obtain ⟨t,ht,htn,hte⟩:∃ t:Nat,(if ((n:Nat):Int) < x.off then ((n:Nat):Int) else x.off)=(t:Int)/\t<=n/\b.take x.off.toNat=b.take t:=by
    by_cases h0:(n:Int) < x.off
    ·exact ⟨n,by rw [if_pos h0],Nat.le_refl _,by rw [List.take_of_length_le (by omega),List.take_of_length_le (by omega)]⟩
    ·exact ⟨x.off.toNat,by rw [if_neg h0]; omega,by omega,rfl⟩
   dsimp only
   rw [ht]
   have hsl:=sl_cut0 (c:=c) h4 htn
   have hsl:Sl w4 1 (slA A c 0 1) t (bys (b.take t)):=by
    have e2:bys (b.take t)=(bys b).take (t * 1):=by simp [bys,List.map_take]
    rw [e2]; exact hsl
   refine gd_mk (decide_eq_true (by omega)) (gd_mk (decide_eq_true (by omega)) ?_)
   rw [Int.toNat_natCast]
   refine (clone_by (slA A c 0 1) t c (b.take t) w4 hsl (by omega)).mono ?_
   rintro r w5 ⟨f5,A',c',rfl,h5⟩
   have hlt:(b.take t).length=t:=by rw [List.length_take]; omega
   refine ⟨_,_,_,rfl,f.trans1 f5,A',c',by rw [e,hte,hlt],?_⟩
   rw [e,hte,hlt]
   refine ⟨h5.len,h5.le,?_⟩
   rcases h5.at_ with h' | ⟨b',cs',q1,q2,q3⟩
   ·exact .inl h'
   ·exact .inr ⟨b',cs',q1,by omega,q3⟩
  ·have hcut:x.cut=false:=hcut
   have e:applyW b x=over b x.off.toNat x.data:=by
    unfold applyW
    rw [if_neg hno,if_neg (by rw [hcut]; decide)]
   obtain ⟨o,ho⟩:∃ o:Nat,x.off=(o:Int):=⟨x.off.toNat,by omega⟩
   have hol:o+m<=1048576:=by omega
   have ew:IntKind.wrap .i64 (x.off+((m:Nat):Int))=((o+m:Nat):Int):=by rw [i64_id (by omega) (by omega)]; omega
   obtain ⟨N,hN,hNe⟩:∃ N:Nat,(if ((n:Nat):Int) < IntKind.wrap .i64 (x.off+((m:Nat):Int)) then IntKind.wrap .i64 (x.off+((m:Nat):Int)) else ((n:Nat):Int))=(N:Int)/\N=max n (o+m):=by
    rw [ew]
    refine ⟨max n (o+m),?_,rfl⟩
    split <;> omega
   dsimp only
   rw [hN]
   refine gd_mk (decide_eq_true (by omega)) (gd_mk (decide_eq_true (by omega)) (gd_mk (decide_eq_true (by omega)) (nw_mk ?_)))
   rw [Int.toNat_natCast]
   have r3:Row (w4.alloc (.cells (zeros N [Value.int .u8 0]).toArray 5)) b1 5 1 (some ⟨w4.heap.size,0,none⟩) N N (zeros N [Value.int .u8 0]):=Row.made (by omega) rfl (Nat.le_refl _)
   have f3:Fr (fun _=>False) w4 (w4.alloc (.cells (zeros N [Value.int .u8 0]).toArray 5)):=Fr.alloc _ _ _
   generalize hb3:w4.heap.size=b3 at r3 ⊢
   generalize w4.alloc (.cells (zeros N [Value.int .u8 0]).toArray 5)=w5 at r3 f3 ⊢
   have h5:=f3.sl h4 (fun _ _ _ h=>h)
   have hbl:(bys b).length=n * 1:=by simp [bys]; omega
   have cp:=cpy_row (k:=0) (x:=.slice A n c) (m:=n) (us:=bys b) r3 h5.src hbl (Nat.zero_le _) (fun v hv=>bvs_one b v (List.mem_of_mem_take hv)) (K:=fun n25 w26 =>
    ldI .i64 w26.drew b1 (0+1) fun i27 =>
    gd (decide (0<=i27)) <|
    gd (decide (i27<=((N:Nat):Int))) <|
    ldSl w26.drew b1 (0+2) fun A28 n29 c30 =>
    cpy w26.drew 1 (slA (some ⟨b3,0,none⟩) N (i27).toNat 1) (N - (i27).toNat) (Value.slice A28 n29 c30) fun n31 w32 =>
    (fun v w'=>Fr (fun _=>False) w w'/\∃ A' c',v=.slice A' (applyW b x).length c'/\Row w' b1 5 1 A' (applyW b x).length c' (bys (applyW b x))) (Value.slice (some ⟨b3,0,none⟩) N N) w32) (fun w6 r6 f6=>?_)
   ·rw [sl0,Nat.sub_zero] at cp
    exact cp
   ·have f6d:=f6.trans (Fr.drew (fun _=>False) w6) (U:=fun k=>blkOf (some (⟨b3,0,none⟩:Addr))=some k) (fun _ _ h=>h) (fun _ _ h=>h.elim)
    have q6:=(q.fr f3 (fun h=>h)).fr f6d (fun h=>by
     simp only [blkOf,Option.some.injEq] at h
     have:=q.lt; omega)
    have hB6:Sl w6.drew 1 B m (bys x.data):=f6d.sl (f3.sl hB (fun _ _ _ h=>h)) (fun h0 k hk h=>by
     simp only [blkOf,Option.some.injEq] at h
     have:=hB.blt (by omega) h0 hk
     omega)
    have r6d:=(Fr.drew (fun _=>False) w6).row r6 (fun _ _ h=>h)
    have f6':Fr (fun _=>False) w4 w6.drew:=f3.trans f6d (fun _ _ h=>h) (fun k hk h=>by
     simp only [blkOf,Option.some.injEq] at h
     omega)
    generalize w6.drew=w7 at q6 hB6 r6d f6' ⊢
    refine ⟨_,q6.cell (o:=0+1) rfl,?_⟩
    rw [ho]
    refine gd_mk (decide_eq_true (by omega)) (gd_mk (decide_eq_true (by omega)) ⟨_,_,_,q6.cell (o:=0+2) rfl,?_⟩)
    rw [Int.toNat_natCast]
    have hdl:(bys x.data).length=m * 1:=by simp [bys]; omega
    refine cpy_row (k:=o) (us:=bys x.data) r6d hB6.src hdl (by omega) (fun v hv=>bvs_one x.data v (List.mem_of_mem_take hv)) (fun w8 r8 f8=>⟨?_,some ⟨b3,0,none⟩,N,?_,?_⟩)
    ·exact (f.trans1 f6').trans f8 (fun _ _ h=>h) (fun k hk h=>by
      simp only [blkOf,Option.some.injEq] at h
      omega)
    ·rw [e,over_len,ho,Int.toNat_natCast,hl,hm,hNe]
    ·have hmin1:min n (N - 0)=n:=by omega
     have hmin2:min m (N - o)=m:=by omega
     have ez:splice (zeros N [Value.int .u8 0]) (0 * 1) ((bys b).take (min n (N - 0) * 1))=bys b ++ zeros (N - n) [Value.int .u8 0]:=by
      rw [hmin1,List.take_of_length_le (by omega)]
      unfold splice
      rw [Nat.zero_mul,List.take_zero,List.nil_append,Nat.zero_add,hbl]
      congr 1
      have e3:zeros N [Value.int .u8 0]=zeros n [Value.int .u8 0] ++ zeros (N - n) [Value.int .u8 0]:=by
       unfold zeros
       rw [<- List.flatten_append,List.replicate_append_replicate]
       congr 2; omega
      rw [e3,List.drop_append_of_le_length (by rw [zeros_length]; simp),List.drop_of_length_le (by rw [zeros_length]; simp),List.nil_append]
     rw [ez,hmin2,List.take_of_length_le (by omega),Nat.mul_one] at r8
     have eo:=over_cells b x.data o
     rw [hl,hm,<- hNe] at eo
     rw [eo] at r8
     rw [e,over_len,ho,Int.toNat_natCast,hl,hm,<- hNe]
     exact r8
 refine ⟨_,rfl,vIf_mk (fun hr=>same ?_) (fun hr=>⟨_,q.cell (o:=0) rfl,vIf_mk (fun hcut=>⟨_,_,_,q.cell (o:=0+2) rfl,?_⟩) (fun hcut=>some ?_ ?_)⟩)⟩
 ·have hr:rightW x=false:=by simpa using hr
  unfold applyW
  rw [if_pos (.inl hr)]
 ·have hr:rightW x=true:=by simpa using hr
  have hcut:x.cut=false:=by simpa using hcut
  dsimp only
  cases hm0:(((m:Nat):Int) == 0) with
  | true =>
   refine same ?_
   have hm0:(m:Int)=0:=by simpa using hm0
   have hd0:x.data=[]:=List.length_eq_zero_iff.1 (by omega)
   unfold applyW
   rw [if_pos (.inr ⟨hcut,hd0⟩)]
  | false =>
   refine some hr (fun _ hd0=>?_)
   have hm0:¬ (m:Int)=0:=by simpa using hm0
   rw [hd0] at hm
   simp at hm
   omega
 ·simpa using hr
 ·intro hc2
  have hcut:x.cut=true:=by simpa using hcut
  rw [hcut] at hc2; cases hc2
theorem row_lowB {u:World} {B B':Nat} {e:TypeId} {sz:Nat} {A:Option Addr} {k c:Nat} {vs:List Value} (hB:B'<=B) (hr:Row u B e sz A k c vs):Row u B' e sz A k c vs:=by
 refine ⟨hr.len,hr.le,?_⟩
 rcases hr.at_ with h' | ⟨b',cs',q1,q2,q3⟩
 ·exact .inl h'
 ·exact .inr ⟨b',cs',q1,by omega,q3⟩
theorem var_new {w:World} {z cs:List Value} {e:TypeId} {sz:Nat} (hz:z.length=sz) (hc:cs.length=sz) (ho:∀ v ∈ cs,v.oneCell'=true) {K:Nat->World->Prop} (hK:∀ b w',Fr (fun _=>False) w w'->w.heap.size<=b->RecAt w' b e cs->K b w') :
  nw w z e fun b w1=>gd (cs.length == sz) (st w1 b 0 cs fun w2=>K b w2):=by
 refine nw_mk (gd_mk (by rw [hc]; simp) ?_)
 have f1:Fr (fun _=>False) w (w.alloc (.cells z.toArray e)):=Fr.alloc _ _ _
 have r1:=RecAt.new w z e
 generalize hb:w.heap.size=b at r1 ⊢
 generalize w.alloc (.cells z.toArray e)=w1 at f1 r1 ⊢
 refine r1.st_mk (o:=0) (by rw [hc,hz]; omega) ho (fun r2 f2=>hK _ _ (f1.trans f2 (fun _ _ h=>h) (fun k hk h=>by omega)) (by omega) ?_)
 rw [splice_full (by rw [hc,hz])] at r2
 exact r2
theorem rec_all {w:World} {b:Nat} {e:TypeId} {cs:List Value} (h:RecAt w b e cs):cellsAt w b 0 cs:=h.cells (fun j v hj=>by simpa using hj)
theorem all1_calls (i:Int) (cs:List Value) (x:Wr) (w:World) (h:WrP w cs x) :
  Calls Tryz.prog 119 #[.int .i64 i,ofL cs] w fun e w'=>Fr (fun _=>False) w w'/\e=.returned (.tuple #[ofL cs,.bool true]):=by
 refine (F119.of i cs w (Q:=fun v w'=>Fr (fun _=>False) w w'/\v=.tuple #[ofL cs,.bool true]) ?_).mono (fun e w' ⟨v,he,hf,hv⟩=>⟨hf,by rw [he,hv]⟩)
 have hone:=wr_one h
 refine nw_mk ?_
 have q:=RecAt.new w cs 188
 have f1:Fr (fun _=>False) w (w.alloc (.cells cs.toArray 188)):=Fr.alloc _ _ _
 generalize w.heap.size=b1 at q ⊢
 generalize w.alloc (.cells cs.toArray 188)=w2 at f1 q ⊢
 refine nw_mk ?_
 have p:=RecAt.new w2 [Value.bool false,Value.int .i64 0,Value.slice none 0 0] 188
 have f2:Fr (fun _=>False) w2 (w2.alloc (.cells [Value.bool false,Value.int .i64 0,Value.slice none 0 0].toArray 188)):=Fr.alloc _ _ _
 have q:=q.fr f2 (fun h=>h)
 generalize hb3:w2.heap.size=b3 at p ⊢
 generalize w2.alloc (.cells [Value.bool false,Value.int .i64 0,Value.slice none 0 0].toArray 188)=w4 at f2 q p ⊢
 refine ⟨cs,hone.1,rec_all q,gd_mk (by rw [hone.1]; rfl) (p.st_mk (o:=0) (by show 0+cs.length<=3; rw [hone.1]; omega) hone.2 (fun p f3=>?_))⟩
 rw [splice_full (by rw [hone.1]; rfl)] at p
 exact ⟨cs,hone.1,rec_all p,(f1.trans1 f2).trans f3 (fun _ _ h=>h) (fun k hk h=>by have:=f1.size; omega),rfl⟩
theorem all_le {b:Bs} {l:List Wr} (hb:b.length<=1048576):(allW b l).length<=1048576:=by
 have h1:=allW_len l b
 have h2:=peakW_le l (n:=(b.length:Int)) (by omega)
 omega
theorem takeW {l:List Wr} {i:Nat} {x:Wr} (h:l[i]?=some x):l.take (i+1)=l.take i ++ [x]:=by rw [List.take_add_one,h]; rfl
set_option maxHeartbeats 1000000 in
theorem all_calls (A:Option Addr) (n c:Nat) (b:Bs) (A':Option Addr) (n' c':Nat) (l:List Wr) (w:World) (h:Sl w 1 A n (bys b)) (hl:WSl w A' n' l) (hb:b.length<=1048576) (hn:n'<=1099511627775) (hd:∀ x ∈ l,x.data.length<=1048576) :
  Calls Tryz.prog 74 #[.slice A n c,.slice A' n' c'] w fun e w'=>Fr (fun _=>False) w w'/\∃ B k,e=.returned (.slice B (allW b l).length k)/\Row w' w.heap.size 5 1 B (allW b l).length k (bys (allW b l)):=by
 refine (F74.of A n c A' n' c' w (Q:=fun v w'=>Fr (fun _=>False) w w'/\∃ B k,v=.slice B (allW b l).length k/\Row w' w.heap.size 5 1 B (allW b l).length k (bys (allW b l))) ?_).mono (fun e w' ⟨v,he,hf,B,k,hv,h⟩=>⟨hf,B,k,by rw [he,hv],h⟩)
 have hbl:=by_n h
 have hwl:l.length=n':=by obtain ⟨vs,_,h2,_⟩:=hl; exact h2
 have key:Calls Tryz.prog 118 #[.slice A n c,.slice A' n' c',.func (.func 119) #[] #[]] w fun e w'=>Fr (fun _=>False) w w'/\∃ B k,e=.returned (.slice B (allW b l).length k)/\Row w' w.heap.size 5 1 B (allW b l).length k (bys (allW b l)):=by
  refine (F118a.of A n c A' n' c' w (Q:=fun v w'=>Fr (fun _=>False) w w'/\∃ B k,v=.slice B (allW b l).length k/\Row w' w.heap.size 5 1 B (allW b l).length k (bys (allW b l))) ?_).mono (fun e w' ⟨v,he,hf,B,k,hv,h⟩=>⟨hf,B,k,by rw [he,hv],h⟩)
  refine (clone_by A n c b w h (by omega)).mono ?_
  rintro e w1 ⟨f1,B,k,rfl,h1⟩
  refine ⟨_,_,_,rfl,jnC_mk (loop_rule (fun s v=>Fr (fun _=>False) w v/\∃ (i:Nat) (B:Option Addr) (k:Nat),i<=n'/\s=((),(B,(allW b (l.take i)).length,k),(A',n',c'),((n':Nat):Int),(i:Int),())/\Row v w.heap.size 5 1 B (allW b (l.take i)).length k (bys (allW b (l.take i))))
   (fun s _=>(n' - s.2.2.2.2.1).toNat) ?_ _ _ ⟨f1,0,B,k,by omega,by rw [List.take_zero,<- hbl]; rfl,by rw [List.take_zero,show (allW b []).length=n from hbl]; exact h1⟩)⟩
  rintro s v C ⟨hf,i,B,k,hi,rfl,hr⟩ hC _
  have hal:=all_le (l:=l.take i) hb
  refine vIf_mk (fun hlt=>?_) (fun hge=>?_)
  ·have hlt2:(i:Int) < (n':Int):=of_decide_eq_true hlt
   have gi:l[i]?=some (l[i]'(by omega)):=List.getElem?_eq_getElem (by omega)
   generalize l[i]'(by omega)=x at gi
   have hxd:=hd x (List.mem_of_getElem? gi)
   obtain ⟨vs,hs,_,hE⟩:=hl.fr0 hf
   refine el_all hs hE (by omega) gi (by omega) (fun cs hc hx=>var_new rfl hc (wr_one hx).2 (fun b9 w11 g1 hb9 r9=>⟨cs,hc,rec_all r9,?_⟩))
   have hf1:=hf.trans1 g1
   refine (all1_calls i cs x w11 (hx.fr0 g1)).mono ?_
   rintro e w13 ⟨g2,rfl⟩
   have g12:=g1.trans1 g2
   refine ⟨_,_,rfl,var_new rfl hc (wr_one hx).2 (fun b17 w19 g3 hb17 r17=>vIf_t rfl ⟨cs,hc,rec_all r17,?_⟩)⟩
   have g123:=g12.trans1 g3
   refine (apply_calls B _ k (allW b (l.take i)) cs x w19 (g123.row hr (fun _ _ h=>h)).sl hr.le (hx.fr0 g123) (by omega) (by omega)).mono ?_
   rintro e w21 ⟨g4,B2,k2,rfl,h2⟩
   have hsz:=(hf.trans1 g123).size
   have en:allW b (l.take (i+1))=applyW (allW b (l.take i)) x:=by rw [takeW gi,allW_snoc]
   refine ⟨_,_,_,rfl,jnC_mk (hC _ _ ⟨(hf.trans1 g123).trans1 g4,i+1,B2,k2,by omega,by rw [ei i (by omega),en],by rw [en]; exact row_lowB hsz h2⟩ ?_)⟩
   show ((n':Int) - IntKind.wrap .i64 ((i:Int)+1)).toNat < ((n':Int) - (i:Int)).toNat
   rw [ei i (by omega)]; omega
  ·have hge2:¬ (i:Int) < (n':Int):=of_decide_eq_false hge
   have e:l.take i=l:=List.take_of_length_le (by omega)
   rw [e] at hr ⊢
   exact ⟨hf,B,k,rfl,hr⟩
 refine key.mono ?_
 rintro e w1 ⟨f1,B,k,rfl,h1⟩
 exact ⟨_,_,_,rfl,f1,B,k,rfl,h1⟩
theorem ino_one {w:World} {cs:List Value} {x:Ino} (h:InoAt w cs x):cs.length=2/\∀ v ∈ cs,v.oneCell'=true:=by
 obtain ⟨A,n,c,A',n',c',rfl,_⟩:=h
 refine ⟨rfl,fun v hv=>?_⟩
 simp only [List.mem_cons,List.not_mem_nil,or_false] at hv
 rcases hv with rfl | rfl <;> rfl
theorem wsl_n {w:World} {A:Option Addr} {n:Nat} {l:List Wr} (h:WSl w A n l):l.length=n:=by
 obtain ⟨vs,_,h2,_⟩:=h
 exact h2
theorem rec_new {w:World} {cs:List Value} {e:TypeId} {K:Nat->World->Prop} (hK:∀ b w',Fr (fun _=>False) w w'->w.heap.size<=b->RecAt w' b e cs->K b w'):nw w cs e K :=
 nw_mk (hK _ _ (Fr.alloc _ _ _) (Nat.le_refl _) (RecAt.new w cs e))
theorem now_calls' (cs:List Value) (x:Ino) (w:World) (h:InoAt w cs x) (hb:InoB x) (hp:x.p.length<=1099511627775) :
  Calls Tryz.prog 40 #[ofL cs] w fun e w'=>Fr (fun _=>False) w w'/\∃ B k,e=.returned (.slice B (nowI x).length k)/\Row w' w.heap.size 5 1 B (nowI x).length k (bys (nowI x)):=by
 refine (F40.of cs w (Q:=fun v w'=>Fr (fun _=>False) w w'/\∃ B k,v=.slice B (nowI x).length k/\Row w' w.heap.size 5 1 B (nowI x).length k (bys (nowI x))) ?_).mono (fun e w' ⟨v,he,hf,B,k,hv,h⟩=>⟨hf,B,k,by rw [he,hv],h⟩)
 have h0:=h
 obtain ⟨A,n,c,A',n',c',rfl,h1,h2,h3,h4⟩:=h
 refine rec_new (fun b1 w2 f1 _ r1=>⟨_,_,_,r1.cell (o:=0) rfl,_,_,_,r1.cell (o:=0+1) rfl,?_⟩)
 have hn:=wsl_n h3
 refine (all_calls A n c x.b A' n' c' x.p w2 (f1.sl h1 (fun _ _ _ h=>h)) (h3.fr0 f1) hb.b (by omega) hb.d).mono ?_
 rintro e w9 ⟨f9,B,k,rfl,h9⟩
 exact ⟨_,_,_,rfl,f1.trans1 f9,B,k,rfl,row_lowB f1.size h9⟩
theorem sync_calls' (cs:List Value) (x:Ino) (w:World) (h:InoAt w cs x) (hb:InoB x) (hp:x.p.length<=1099511627775) :
  Calls Tryz.prog 16 #[ofL cs] w fun e w'=>Fr (fun _=>False) w w'/\∃ cs',e=.returned (ofL cs')/\InoAt w' cs' (syncI x):=by
 refine (F16.of cs w (Q:=fun v w'=>Fr (fun _=>False) w w'/\∃ cs',v=ofL cs'/\InoAt w' cs' (syncI x)) ?_).mono (fun e w' ⟨v,he,hf,cs',hv,h⟩=>⟨hf,cs',by rw [he,hv],h⟩)
 have hone:=ino_one h
 refine rec_new (fun b1 w2 f1 hb1 r1=>rec_new (fun b3 w4 f3 hb3 r3=>⟨cs,hone.1,rec_all (r1.fr f3 (fun h=>h)),?_⟩))
 have f13:=f1.trans1 f3
 have hs1:=f1.size
 have hl3:=r3.lt
 refine (now_calls' cs x w4 (h.fr0 f13) hb hp).mono ?_
 rintro e w6 ⟨f6,B,k,rfl,h6⟩
 have r3:=r3.fr f6 (fun h=>h)
 have hr3:=r3.lt
 refine ⟨_,_,_,rfl,gd_mk rfl (r3.st_mk (o:=0) (by show 0+2<=2; omega) (fun v hv=>?_) (fun r3 f7=>?_))⟩
 ·simp only [List.cons_append,List.nil_append,List.mem_cons,List.not_mem_nil,or_false] at hv
  rcases hv with rfl | rfl <;> rfl
 rw [splice_full (by rfl)] at r3
 refine ⟨[.slice B (nowI x).length k,.slice none 0 0],rfl,rec_all r3,(f13.trans1 f6).trans f7 (fun _ _ h=>h) (fun j hj h=>by have h:j=b3:=h; omega),_,rfl,?_⟩
 have hsl:=f7.row h6 (fun j hj h=>by have h:j=b3:=h; have:=(h6.blt hj).1; omega)
 exact ⟨_,_,_,_,_,_,rfl,hsl.sl,hsl.le,⟨[],Sl.nil _ _ _,rfl,Ech.nil⟩,Nat.le_refl _⟩
def zI:Ino:=⟨[],[]⟩
structure Dk where
 lb:Int
 lf:Int
 F:Fo
 f:Int->Ino
 last:Int
 down:Bool
 fu:Option Int
 calls:Int
def trim (F:Fo) (f:Int->Ino):Int->Ino:=fun id=>if id ∈ idsF F then f id else zI
def updF (f:Int->Ino) (id:Int) (x:Ino):Int->Ino:=fun k=>if k=id then x else f k
def offD (d:Dk):Bool:=d.down || (match d.fu with | some n=>decide (n<=0) | none=>false)
def powD (d:Dk) (call:Dk->Dk×Int):Dk×Int :=
 if offD d=true then ({ d with down:=true },11) else call { d with fu:=d.fu.map (· - 1),calls:=d.calls+1 }
def sdD (d:Dk):Dk×Int:=({ d with F:=⟨nowF d.F,[]⟩,f:=trim ⟨nowF d.F,[]⟩ d.f },0)
def fuseD (d:Dk) (n:Int):Dk:={ d with fu:=if n >= 0 then some n else none }
structure Cl where
 k:Int
 nm:ByteArray
 to:ByteArray
 data:Bs
 n:Int
def lookD (d:Dk) (s:ByteArray):Bs×Int :=
 if d.down=true then ([],11) else match findN s (nowF d.F) with | none=>([],6) | some id=>(nowI (d.f id),0)
def readD (d:Dk) (s:ByteArray) (off n:Int):Bs×Int :=
 if (lookD d s).2 ≠ 0 then ([],(lookD d s).2)
 else if off < 0\/n < 0\/off > ((lookD d s).1.length:Int)\/n > ((lookD d s).1.length:Int) - off then ([],20)
 else (((lookD d s).1.drop off.toNat).take n.toNat,0)
structure DkI (d:Dk):Prop where
 out:∀ id,id ∉ idsF d.F->d.f id=zI
 rng:∀ id ∈ idsF d.F,1<=id/\id<=d.last
 ino:∀ id,InoB (d.f id)
 fu:∀ n,d.fu=some n->0<=n
theorem zI_B:InoB zI:=⟨by simp [zI],fun y hy=>by cases hy⟩
theorem ans_mk {w:World} {b:Nat} {e:TypeId} {old cs:List Value} (r:RecAt w b e old) (ho:old.length=2) (hc:cs.length=2) (h1:∀ v ∈ cs,v.oneCell'=true) {K:List Value->World->Prop} (hK:∀ w',Fr (fun k=>k=b) w w'->K cs w') :
  gd (cs.length == 2) (st w b 0 cs fun w1=>ldA 2 w1 b 0 fun a=>K a w1):=by
 refine gd_mk (by rw [hc]; rfl) (r.st_mk (o:=0) (by rw [hc,ho]; omega) h1 (fun r1 f1=>?_))
 rw [splice_full (by rw [hc,ho])] at r1
 exact ⟨cs,hc,rec_all r1,hK _ f1⟩
theorem two_alien {w:World} {b:Nat} {e:TypeId} (r:RecAt w b e [Value.slice none 0 0,Value.slice none 0 0]):Alien w b:=by
 have hc3:∀ o,cellAt w b o=([Value.slice none 0 0,Value.slice none 0 0]:List Value)[o]?:=fun o=>by rw [cellAt_blk r]; simp
 refine ⟨fun o s hs=>?_,fun o u hu=>?_,fun o t z A n c ht=>?_⟩
 ·rw [hc3] at hs
  match o,hs with
  | 0,hs=>cases hs
  | 1,hs=>cases hs
  | o+2,hs=>cases hs
 ·rw [hc3] at hu
  match o,hu with
  | 0,hu=>cases hu
  | 1,hu=>cases hu
  | o+2,hu=>cases hu
 ·have ht:=ht.1
  rw [hc3] at ht
  match o,ht with
  | 0,ht=>cases ht
  | 1,ht=>cases ht
  | o+2,ht=>cases ht
theorem by_rd {w:World} {A:Option Addr} {n:Nat} {b:Bs} (h:Sl w 1 A n (bys b)) {i:Nat} {x:UInt8} (hi:b[i]?=some x) (hin:i < n) {K:Int->Prop} (hK:K (x.toNat:Int)) :
  dr A fun c o=>gd (decide (0<=(i:Int))) (gd (decide ((i:Int) < ((n:Nat):Int))) (ldI .u8 w c (o+((i:Int)).toNat * 1) K)):=by
 obtain ⟨c,o,rfl,hc⟩:=h.2 (by omega)
 refine dr_mk (gd_mk (decide_eq_true (by omega)) (gd_mk (decide_eq_true (by omega)) ⟨_,?_,hK⟩))
 rw [Int.toNat_natCast,Nat.mul_one]
 exact hc i _ (by simp [bys,hi]; rfl)
theorem by_neU {w:World} {A:Option Addr} {n:Nat} {b:Bs} (h:Sl w 1 A n (bys b)) (h0:n ≠ 0) {k:Nat} (hk:blkOf A=some k) (ha:∀ o x,cellAt w k o ≠ some (.int .u8 x)):False:=by
 have hl:=by_n h
 obtain ⟨b',o,rfl,hc⟩:=h.2 (by omega)
 injection hk with hk
 have hk:b'=k:=hk
 subst hk
 cases hb:b with
 | nil=>rw [hb] at hl; simp at hl; omega
 | cons x r=>exact ha (o+0) x.toNat (hc 0 _ (by rw [hb]; rfl))
theorem rright_calls (cs:List Value) (x:Wr) (w:World) (h:WrP w cs x) (hd:x.data.length<=1099511627776) :
  Calls Tryz.prog 154 #[ofL cs] w fun e w'=>e=.returned (.bool (rightW x))/\Fr (fun _=>False) w w':=by
 refine (F154.of cs w (Q:=fun v w'=>v=.bool (rightW x)/\Fr (fun _=>False) w w') ?_).mono (fun e w' ⟨v,he,hv,h⟩=>⟨by rw [he,hv],h⟩)
 obtain ⟨B,m,k,rfl,h1,h2⟩:=h
 have hm:=by_n h1
 refine nw_mk ?_
 have q:=RecAt.new w ([.bool x.cut,.int .i64 x.off,.slice B m k]:List Value) 188
 have f1:Fr (fun _=>False) w (w.alloc (.cells ([.bool x.cut,.int .i64 x.off,.slice B m k]:List Value).toArray 188)):=Fr.alloc _ _ _
 have ew:IntKind.wrap .i64 (1048576 - ((m:Nat):Int))=1048576 - (m:Int):=i64_id (by omega) (by omega)
 refine ⟨_,q.cell (o:=0+1) rfl,vIf_mk (fun h=>⟨_,q.cell (o:=0+1) rfl,_,_,_,q.cell (o:=0+2) rfl,?_,f1⟩) (fun h=>⟨?_,f1⟩)⟩
 ·unfold rightW
  rw [h,Bool.true_and,ew,hm]
 ·unfold rightW
  rw [h,Bool.false_and]
def ovr (b:Bs) (o:Nat) (d:Bs):Bs:=if d=[] then b else over b o d
def applyM (b:Bs) (x:Wr) (m:Nat):Bs:=if rightW x=false then b else if x.cut=true then b.take x.off.toNat else ovr b x.off.toNat (x.data.take m)
theorem applyM_all (b:Bs) (x:Wr):applyM b x x.data.length=applyW b x:=by
 unfold applyM applyW ovr
 rw [List.take_length]
 cases hr:rightW x with
 | false=>rw [if_pos rfl,if_pos (.inl rfl)]
 | true =>
  rw [if_neg (by decide)]
  cases hc:x.cut with
  | true=>rw [if_pos rfl,if_neg (fun h=>h.elim (fun h=>by cases h) (fun h=>by cases h.1)),if_pos rfl]
  | false =>
   rw [if_neg (by decide)]
   by_cases hd:x.data=[]
   ·rw [if_pos hd,if_pos (.inr ⟨rfl,hd⟩)]
   ·rw [if_neg hd,if_neg (fun h=>h.elim (fun h=>by cases h) (fun h=>hd h.2)),if_neg (by decide)]
theorem ovr_len (b:Bs) (o:Nat) (d:Bs):(ovr b o d).length=if d=[] then b.length else max b.length (o+d.length):=by
 unfold ovr
 split
 ·rfl
 ·exact over_len _ _ _
theorem ovr_step (b:Bs) (o i k:Nat) (d:Bs) (x:UInt8) (hi:d[i]?=some x) (h1:k=0\/(ovr b o (d.take i)).length+k=o+i+1) (h2:o+i < (ovr b o (d.take i)).length+k) :
  (ovr b o (d.take i) ++ List.replicate k 0).set (o+i) x=ovr b o (d.take (i+1)):=by
 have hil:=(List.getElem?_eq_some_iff.1 hi).1
 have hne:d.take (i+1) ≠ []:=fun e=>by have:=congrArg List.length e; rw [List.length_take,List.length_nil] at this; omega
 have hl1:(d.take (i+1)).length=i+1:=by rw [List.length_take]; omega
 have hli:(d.take i).length=i:=by rw [List.length_take]; omega
 have e1:ovr b o (d.take (i+1))=over b o (d.take (i+1)):=by unfold ovr; rw [if_neg hne]
 rw [e1]
 have hL:(ovr b o (d.take i)).length=if i=0 then b.length else max b.length (o+i):=by
  rw [ovr_len,hli]
  by_cases h0:i=0
  ·subst h0; simp
  ·rw [if_neg (fun e=>h0 (by have:=congrArg List.length e; rw [hli] at this; simpa using this)),if_neg h0]
 have hget:∀ j,(ovr b o (d.take i))[j]?=if i=0 then b[j]? else if j < o then (if j < b.length then b[j]? else some 0) else if j < o+i then d[j - o]? else b[j]?:=by
  intro j
  unfold ovr
  by_cases h0:i=0
  ·subst h0; simp
  ·rw [if_neg (fun e=>h0 (by have:=congrArg List.length e; rw [hli] at this; simpa using this)),if_neg h0,over_get,hli]
   by_cases hj:j < o
   ·rw [if_pos hj,if_pos hj]
   ·rw [if_neg hj,if_neg hj]
    by_cases hj2:j < o+i
    ·rw [if_pos hj2,if_pos hj2,List.getElem?_take,if_pos (by omega)]
    ·rw [if_neg hj2,if_neg hj2]
 apply List.ext_getElem?
 intro j
 rw [List.getElem?_set,over_get,hl1]
 have hlen:(ovr b o (d.take i) ++ List.replicate k 0).length=(ovr b o (d.take i)).length+k:=by simp
 by_cases hj:o+i=j
 ·subst hj
  rw [if_pos rfl,if_pos (by rw [hlen]; exact h2),if_neg (by omega),if_pos (by omega),Nat.add_sub_cancel_left,List.getElem?_take,if_pos (by omega),hi]
 ·rw [if_neg hj]
  by_cases hjl:j < (ovr b o (d.take i)).length
  ·rw [List.getElem?_append_left hjl,hget]
   by_cases h0:i=0
   ·rw [if_pos h0]
    rw [if_pos h0] at hL
    by_cases hjo:j < o
    ·rw [if_pos hjo,if_pos (by omega)]
    ·rw [if_neg hjo,if_neg (by omega)]
   ·rw [if_neg h0]
    by_cases hjo:j < o
    ·rw [if_pos hjo,if_pos hjo]
    ·rw [if_neg hjo,if_neg hjo]
     by_cases hj2:j < o+i
     ·rw [if_pos hj2,if_pos (by omega),List.getElem?_take,if_pos (by omega)]
     ·rw [if_neg hj2,if_neg (by omega)]
  ·rw [List.getElem?_append_right (by omega),List.getElem?_replicate]
   by_cases hj3:j - (ovr b o (d.take i)).length < k
   ·rw [if_pos hj3]
    have hjo:j < o:=by
     split at hL <;> omega
    have:¬ j < b.length:=by split at hL <;> omega
    rw [if_pos hjo,if_neg this]
   ·rw [if_neg hj3]
    have:b.length<=j:=by split at hL <;> omega
    have h4:¬ j < o:=by omega
    rw [if_neg h4,if_neg (by omega),List.getElem?_eq_none this]
theorem bys_app (a b:Bs):bys (a ++ b)=bys a ++ bys b:=by simp [bys]
theorem push_b {w:World} {B:Nat} {A:Option Addr} {n c:Nat} {out:Bs} {x:UInt8} {K:Option Addr->Nat->Nat->World->Prop} (hr:Row w B 5 1 A n c (bys out)) (hB:B<=w.heap.size) (hn:n<=1099511627776)
  (hK:∀ A' c' w',Row w' B 5 1 A' (n+1) c' (bys (out ++ [x]))->Fr (fun k=>blkOf A=some k) w w'->K A' (n+1) c' w'):nw w ([Value.int .u8 (x.toNat:Int)] ++ []) 5 fun b w'=>app w' 1 1 [Value.int .u8 0] 5 A n c (.slice (some ⟨b,0,none⟩) 1 1) K:=by
 refine nw_mk ?_
 rw [List.append_nil]
 have f1:Fr (fun _=>False) w (w.alloc (.cells [Value.int .u8 (x.toNat:Int)].toArray 5)):=Fr.alloc _ _ _
 have r1:Row (w.alloc (.cells [Value.int .u8 (x.toNat:Int)].toArray 5)) 0 5 1 (some ⟨w.heap.size,0,none⟩) 1 1 (bys [x]):=Row.new (Nat.zero_le _) rfl
 have hs:(w.alloc (.cells [Value.int .u8 (x.toNat:Int)].toArray 5)).heap.size=w.heap.size+1:=alloc_size _ _
 generalize w.alloc (.cells [Value.int .u8 (x.toNat:Int)].toArray 5)=w1 at f1 r1 hs ⊢
 refine app_row (f1.row hr (fun _ _ h=>h)) r1.sl.src (bvs_one [x]) rfl (by omega) (by omega) (by omega) (fun A' c' w' hr' f'=>hK A' c' w' (by rw [bys_app]; exact hr') ?_)
 exact f1.trans f' (fun _ _ h=>h.elim) (fun _ _ h=>h)
theorem copy_b {w:World} {A:Option Addr} {n c:Nat} {b:Bs} {K:Option Addr->Nat->Nat->World->Prop} (h:Sl w 1 A n (bys b)) (hn:n<=1099511627776)
  (hK:∀ A' c' w',Row w' w.heap.size 5 1 A' n c' (bys b)->Fr (fun _=>False) w w'->K A' n c' w'):app w 1 1 [Value.int .u8 0] 5 none 0 0 (.slice A n c) K:=by
 have hK2:∀ A' c' w',Row w' w.heap.size 5 1 A' (0+n) c' ([] ++ bys b)->Fr (fun k=>blkOf none=some k) w w'->K A' (0+n) c' w':=by
  intro A' c' w' hr f
  rw [Nat.zero_add] at hr ⊢
  exact hK A' c' w' hr (f.mono (fun _ _ h=>by simp [blkOf] at h))
 exact app_row (Row.nil w w.heap.size 5 1) h.src (bvs_one b) rfl (by omega) (by omega) (Nat.le_refl _) hK2
set_option maxHeartbeats 2000000 in
theorem rapply_calls (A:Option Addr) (n c:Nat) (b:Bs) (cs:List Value) (x:Wr) (most:Nat) (w:World) (h:Sl w 1 A n (bys b)) (hx:WrP w cs x) (hn:n<=1048576) (hd:x.data.length<=1048576) :
  Calls Tryz.prog 103 #[.slice A n c,ofL cs,.int .i64 (most:Int)] w fun e w'=>Fr (fun _=>False) w w'/\∃ A' c',e=.returned (.slice A' (applyM b x most).length c')/\Row w' w.heap.size 5 1 A' (applyM b x most).length c' (bys (applyM b x most)):=by
 refine (F103.of A n c cs most w (Q:=fun v w'=>Fr (fun _=>False) w w'/\∃ A' c',v=.slice A' (applyM b x most).length c'/\Row w' w.heap.size 5 1 A' (applyM b x most).length c' (bys (applyM b x most))) ?_).mono (fun e w' ⟨v,he,hf,A',c',hv,h⟩=>⟨hf,A',c',by rw [he,hv],h⟩)
 have hl:=by_n h
 have hone:=wr_one hx
 refine rec_new (fun b1 w2 f1 hb1 r1=>⟨cs,hone.1,rec_all r1,(rright_calls cs x w2 (hx.fr0 f1) (by omega)).mono ?_⟩)
 rintro e w4 ⟨rfl,f4⟩
 have r1:=r1.fr f4 (fun h=>h)
 have f:=f1.trans1 f4
 have hx4:=hx.fr0 f
 have h4:=f.sl h (fun _ _ _ h=>h)
 have hs4:=f.size
 obtain ⟨B,m,k,ecs,hB,hmk⟩:=hx4
 subst ecs
 have hm:=by_n hB
 refine ⟨_,rfl,vIf_mk (fun hr=>?_) (fun hr=>⟨_,r1.cell (o:=0) rfl,vIf_mk (fun hcut=>?_) (fun hcut=>?_)⟩)⟩
 ·have hr:rightW x=false:=by simpa using hr
  have e:applyM b x most=b:=by unfold applyM; rw [if_pos hr]
  rw [e]
  refine copy_b h4 (by omega) (fun A' c' w5 r5 f5=>⟨f.trans1 f5,A',c',by rw [hl],by rw [hl]; exact row_lowB hs4 r5⟩)
 ·have hr:rightW x=true:=by simpa using hr
  have hro:=right_iff.1 hr
  have hcut:x.cut=true:=hcut
  have e:applyM b x most=b.take x.off.toNat:=by unfold applyM; rw [if_neg (by rw [hr]; decide),if_pos hcut]
  rw [e]
  refine jnC_mk (loop_rule (fun s v=>Fr (fun _=>False) w4 v/\∃ (i:Nat) (R:Option Addr) (k':Nat),i<=n/\(i:Int)<=x.off/\s=((A,n,c),(b1,0),(R,i,k'),(i:Int),())/\Row v w4.heap.size 5 1 R i k' (bys (b.take i)))
   (fun s _=>(n - s.2.2.2.1).toNat) ?_ _ _ ⟨Fr.refl _ _,0,none,0,by omega,by omega,rfl,Row.nil _ _ _ _⟩)
  rintro s v C ⟨hf,i,R,k',hi,hio,rfl,hr'⟩ hC _
  have fin:((i:Int) < (n:Int)->¬ (i:Int) < x.off)->Fr (fun _=>False) w v/\∃ A' c',Value.slice R i k'=.slice A' (b.take x.off.toNat).length c'/\Row v w.heap.size 5 1 A' (b.take x.off.toNat).length c' (bys (b.take x.off.toNat)):=by
   intro hh
   have e2:b.take x.off.toNat=b.take i:=by
    by_cases h0:(i:Int) < (n:Int)
    ·have:=hh h0
     congr 1; omega
    ·rw [List.take_of_length_le (by omega),List.take_of_length_le (by omega)]
   have e3:(b.take i).length=i:=by rw [List.length_take]; omega
   rw [e2,e3]
   exact ⟨f.trans1 hf,R,k',rfl,row_lowB hs4 hr'⟩
  refine vIf_mk (fun hlt=>⟨_,(r1.fr hf (fun h=>h)).cell (o:=0+1) rfl,vIf_mk (fun hlo=>jnC_mk (fun _=>?_)) (fun hlo=>fin (fun _=>of_decide_eq_false hlo))⟩) (fun hlt=>fin (fun h=>absurd h (of_decide_eq_false hlt)))
  have hlt:=of_decide_eq_true hlt
  have hlo:=of_decide_eq_true hlo
  have hlt:(i:Int) < (n:Int):=hlt
  have hlo:(i:Int) < x.off:=hlo
  have gi:b[i]?=some (b[i]'(by omega)):=List.getElem?_eq_getElem (by omega)
  generalize b[i]'(by omega)=y at gi
  dsimp only
  refine by_rd (hf.sl h4 (fun _ _ _ h=>h)) gi (by omega) (push_b hr' hf.size (show i<=1099511627776 by omega) (fun R' k2 w6 r6 f6=>jnC_mk (hC _ _ ⟨fr_own hf (fun j hj=>(hr'.blt hj).1) (Nat.le_refl _) f6,i+1,R',k2,by omega,by omega,?_,?_⟩ ?_)))
  ·rw [ei i (by omega)]
  ·rw [List.take_add_one,gi]; exact r6
  ·show ((n:Int) - IntKind.wrap .i64 ((i:Int)+1)).toNat < ((n:Int) - (i:Int)).toNat
   rw [ei i (by omega)]; omega
 ·have hr:rightW x=true:=by simpa using hr
  have hro:=right_iff.1 hr
  have hcut:x.cut=false:=hcut
  have e:applyM b x most=ovr b x.off.toNat (x.data.take most):=by unfold applyM; rw [if_neg (by rw [hr]; decide),if_neg (by rw [hcut]; decide)]
  rw [e]
  obtain ⟨o,ho⟩:∃ o:Nat,x.off=(o:Int):=⟨x.off.toNat,by omega⟩
  have ho2:x.off.toNat=o:=by omega
  rw [ho2]
  refine copy_b h4 (by omega) (fun A5 c5 w5 r5 f5=>?_)
  refine jnC_mk (loop_rule (fun s v=>Fr (fun _=>False) w4 v/\∃ (i:Nat) (R:Option Addr) (N k':Nat),i<=m/\i<=most/\s=((most:Int),(b1,0),(R,N,k'),(i:Int),())/\Row v w4.heap.size 5 1 R N k' (bys (ovr b o (x.data.take i))))
   (fun s _=>(m - s.2.2.2.1).toNat) ?_ _ _ ⟨f5,0,A5,n,c5,by omega,by omega,rfl,?_⟩)
  ·rintro s v C ⟨hf,i,R,N,k',hi,him,rfl,hr'⟩ hC _
   have fin:((i:Int) < (m:Int)->¬ (i:Int) < (most:Int))->Fr (fun _=>False) w v/\∃ A' c',Value.slice R N k'=.slice A' (ovr b o (x.data.take most)).length c'/\Row v w.heap.size 5 1 A' (ovr b o (x.data.take most)).length c' (bys (ovr b o (x.data.take most))):=by
    intro hh
    have e2:x.data.take most=x.data.take i:=by
     by_cases h0:(i:Int) < (m:Int)
     ·have:=hh h0
      congr 1; omega
     ·rw [List.take_of_length_le (by omega),List.take_of_length_le (by omega)]
    have e3:=by_n hr'.sl
    rw [e2,e3]
    exact ⟨f.trans1 hf,R,k',rfl,row_lowB hs4 hr'⟩
   have r1v:=r1.fr hf (fun h=>h)
   refine ⟨_,_,_,r1v.cell (o:=0+2) rfl,vIf_mk (fun hlt=>vIf_mk (fun hlo=>jnC_mk (fun _=>?_)) (fun hlo=>fin (fun _=>of_decide_eq_false hlo))) (fun hlt=>fin (fun h=>absurd h (of_decide_eq_false hlt)))⟩
   have hlt:(i:Int) < (m:Int):=of_decide_eq_true hlt
   have hlo:(i:Int) < (most:Int):=of_decide_eq_true hlo
   have gi:x.data[i]?=some (x.data[i]'(by omega)):=List.getElem?_eq_getElem (by omega)
   generalize x.data[i]'(by omega)=y at gi
   have hN0:=by_n hr'.sl
   have hL:=ovr_len b o (x.data.take i)
   have hli:(x.data.take i).length=i:=by rw [List.length_take]; omega
   have hLN:N<=1048576:=by split at hL <;> omega
   refine jnC_mk (loop_rule (fun s u=>Fr (fun _=>False) w4 u/\∃ (j:Nat) (R:Option Addr) (k':Nat),s=((most:Int),(b1,0),(R,N+j,k'),(i:Int),())/\(j=0\/N+j<=o+i+1)/\Row u w4.heap.size 5 1 R (N+j) k' (bys (ovr b o (x.data.take i) ++ List.replicate j 0)))
    (fun s _=>(o+i+1 - s.2.2.1.2.1:Nat)) ?_ _ _ ⟨hf,0,R,k',rfl,.inl rfl,by rw [List.replicate_zero,List.append_nil]; exact hr'⟩)
   rintro s u C2 ⟨hf2,j,R2,k2,rfl,hj,hr2⟩ hC2 _
   have r1u:=r1.fr hf2 (fun h=>h)
   have ew:IntKind.wrap .i64 (x.off+(i:Int))=((o+i:Nat):Int):=by rw [i64_id (by omega) (by omega)]; omega
   refine ⟨_,r1u.cell (o:=0+1) rfl,?_⟩
   dsimp only
   rw [ew]
   refine vIf_mk (fun hle=>?_) (fun hgt=>?_)
   ·have hle:=of_decide_eq_true hle
    refine push_b (x:=0) hr2 hf2.size (show N+j<=1099511627776 by omega) (fun R' k3 w6 r6 f6=>jnC_mk (hC2 _ _ ⟨fr_own hf2 (fun j hj=>(hr2.blt hj).1) (Nat.le_refl _) f6,j+1,R',k3,rfl,.inr (by omega),?_⟩ ?_))
    ·rw [List.append_assoc,<- List.replicate_succ'] at r6
     exact r6
    ·show o+i+1 - (N+j+1) < o+i+1 - (N+j)
     omega
   ·have hgt:=of_decide_eq_false hgt
    have fdr:Fr (fun _=>False) u u.drew:=Fr.drew _ _
    have hf3:=hf2.trans1 fdr
    have r1d:=r1u.fr fdr (fun h=>h)
    have hrd:=fdr.row hr2 (fun _ _ h=>h)
    have hBd:=hf3.sl hB (fun _ _ _ h=>h)
    generalize u.drew=u2 at fdr hf3 r1d hrd hBd ⊢
    refine ⟨_,r1d.cell (o:=0+1) rfl,_,_,_,r1d.cell (o:=0+2) rfl,?_⟩
    dsimp only
    rw [ew]
    refine by_rd hBd gi (by omega) ?_
    have hput:=row_putG (o':=o+i) (us:=[bv y]) (K:=fun w'=>jnC C ((most:Int),(b1,0),(R2,N+j,k2),IntKind.wrap .i64 ((i:Int)+1),()) w') hrd (by omega) (by show o+i+1<=(N+j) * 1; omega) (fun v hv=>by simp at hv; subst hv; rfl) (fun w6 r6 f6=>jnC_mk (hC _ _ ⟨fr_own hf3 (fun j hj=>(hrd.blt hj).1) (Nat.le_refl _) f6,i+1,R2,N+j,k2,by omega,by omega,?_,?_⟩ ?_))
    ·rw [dr_iff] at hput ⊢
     obtain ⟨b',o',hA,hst⟩:=hput
     refine ⟨b',o',hA,gd_mk (decide_eq_true (by omega)) (gd_mk (decide_eq_true (by omega)) ?_)⟩
     rw [Int.toNat_natCast,Nat.mul_one]
     exact hst
    ·rw [ei i (by omega)]
    ·have es:splice (bys (ovr b o (x.data.take i) ++ List.replicate j 0)) (o+i) [bv y]=bys ((ovr b o (x.data.take i) ++ List.replicate j 0).set (o+i) y):=by
      have hfit:o+i+[bv y].length<=(bys (ovr b o (x.data.take i) ++ List.replicate j 0)).length:=by
       simp only [bys,List.length_map,List.length_append,List.length_replicate,List.length_singleton]; omega
      apply List.ext_getElem?
      intro q
      rw [splice_get hfit]
      simp only [bys,List.getElem?_map,List.getElem?_set,List.length_append,List.length_replicate,List.length_singleton]
      by_cases q1:q < o+i
      ·rw [if_pos q1,if_neg (by omega)]
      ·rw [if_neg q1]
       by_cases q2:q=o+i
       ·subst q2
        rw [if_pos (by omega),if_pos rfl,if_pos (by omega)]; simp
       ·rw [if_neg (by omega),if_neg (by omega)]
     rw [es,ovr_step b o i j x.data y gi (by omega) (by omega)] at r6
     exact r6
    ·show ((m:Int) - IntKind.wrap .i64 ((i:Int)+1)).toNat < ((m:Int) - (i:Int)).toNat
     rw [ei i (by omega)]; omega
  ·have e0:ovr b o (x.data.take 0)=b:=by unfold ovr; rw [if_pos (by simp)]
   rw [e0]; exact r5
theorem wr_rdD {w:World} {A:Option Addr} {n:Nat} {l:List Wr} (h:WSl w A n l) {i:Nat} {x:Wr} (hi:l[i]?=some x) (hin:i < n) {K:Option Addr->Nat->Nat->Prop} (hK:∀ B m c,Sl w 1 B m (bys x.data)->m<=c->K B m c) :
  dr A fun b o=>gd (decide (0<=(i:Int))) (gd (decide ((i:Int) < ((n:Nat):Int))) (ldSl w b ((o+((i:Int)).toNat * 3)+2) K)):=by
 obtain ⟨vs,hs,_,hE⟩:=h
 obtain ⟨b,o,rfl,h1,h2,B,m,k,ecs,hB,hmk⟩:=ech_rd hs hE (by omega) hi hin
 refine dr_mk (gd_mk (decide_eq_true (by omega)) (gd_mk (decide_eq_true (by omega)) ⟨B,m,k,?_,hK B m k hB hmk⟩))
 rw [Int.toNat_natCast]
 rw [ecs] at h1
 exact h1 2 _ rfl
theorem wr_rdA {w:World} {A:Option Addr} {n:Nat} {l:List Wr} (h:WSl w A n l) {i:Nat} {x:Wr} (hi:l[i]?=some x) (hin:i < n) {K:List Value->Prop} (hK:∀ cs,WrP w cs x->K cs) :
  dr A fun b o=>gd (decide (0<=(i:Int))) (gd (decide ((i:Int) < ((n:Nat):Int))) (ldA 3 w b (o+((i:Int)).toNat * 3) K)):=by
 obtain ⟨vs,hs,_,hE⟩:=h
 exact el_all hs hE (by omega) hi hin (fun cs _ hx=>hK cs hx)
set_option maxHeartbeats 1000000 in
theorem rall_calls (A:Option Addr) (n c:Nat) (b:Bs) (A':Option Addr) (n' c':Nat) (l:List Wr) (w:World) (h:Sl w 1 A n (bys b)) (hl:WSl w A' n' l) (hb:b.length<=1048576) (hn:n'<=1099511627775) (hd:∀ x ∈ l,x.data.length<=1048576) :
  Calls Tryz.prog 62 #[.slice A n c,.slice A' n' c'] w fun e w'=>Fr (fun _=>False) w w'/\∃ B k,e=.returned (.slice B (allW b l).length k)/\Row w' w.heap.size 5 1 B (allW b l).length k (bys (allW b l)):=by
 refine (F62.of A n c A' n' c' w (Q:=fun v w'=>Fr (fun _=>False) w w'/\∃ B k,v=.slice B (allW b l).length k/\Row w' w.heap.size 5 1 B (allW b l).length k (bys (allW b l))) ?_).mono (fun e w' ⟨v,he,hf,B,k,hv,h⟩=>⟨hf,B,k,by rw [he,hv],h⟩)
 have hbl:=by_n h
 have hwl:=wsl_n hl
 refine copy_b h (by omega) (fun B k w1 r1 f1=>?_)
 refine jnC_mk (loop_rule (fun s v=>Fr (fun _=>False) w v/\∃ (i:Nat) (B:Option Addr) (k:Nat),i<=n'/\s=((A',n',c'),(B,(allW b (l.take i)).length,k),(i:Int),())/\Row v w.heap.size 5 1 B (allW b (l.take i)).length k (bys (allW b (l.take i))))
   (fun s _=>(n' - s.2.2.1).toNat) ?_ _ _ ⟨f1,0,B,k,by omega,by rw [List.take_zero,<- hbl]; rfl,by rw [List.take_zero,show (allW b []).length=n from hbl]; exact r1⟩)
 rintro s v C ⟨hf,i,B,k,hi,rfl,hr⟩ hC _
 have hal:=all_le (l:=l.take i) hb
 refine vIf_mk (fun hlt=>?_) (fun hge=>?_)
 ·have hlt2:(i:Int) < (n':Int):=of_decide_eq_true hlt
  have gi:l[i]?=some (l[i]'(by omega)):=List.getElem?_eq_getElem (by omega)
  generalize l[i]'(by omega)=x at gi
  have hxd:=hd x (List.mem_of_getElem? gi)
  have fdr:Fr (fun _=>False) v v.drew:=Fr.drew _ _
  have hf1:=hf.trans1 fdr
  have hrd:=fdr.row hr (fun _ _ h=>h)
  dsimp only
  generalize v.drew=v1 at fdr hf1 hrd ⊢
  refine wr_rdA (hl.fr0 hf1) gi (by omega) (fun cs hx=>wr_rdD (hl.fr0 hf1) gi (by omega) (fun D m k' hD hm=>?_))
  have hmx:=by_n hD
  refine (rapply_calls B _ k (allW b (l.take i)) cs x m v1 hrd.sl hx (by omega) hxd).mono ?_
  rintro e w21 ⟨g4,B2,k2,rfl,h2⟩
  have hsz:=hf1.size
  have en:allW b (l.take (i+1))=applyM (allW b (l.take i)) x m:=by rw [takeW gi,allW_snoc,<- hmx,applyM_all]
  refine ⟨_,_,_,rfl,jnC_mk (hC _ _ ⟨hf1.trans1 g4,i+1,B2,k2,by omega,by rw [ei i (by omega),en],by rw [en]; exact row_lowB hsz h2⟩ ?_)⟩
  show ((n':Int) - IntKind.wrap .i64 ((i:Int)+1)).toNat < ((n':Int) - (i:Int)).toNat
  rw [ei i (by omega)]; omega
 ·have hge2:¬ (i:Int) < (n':Int):=of_decide_eq_false hge
  have e:l.take i=l:=List.take_of_length_le (by omega)
  rw [e] at hr ⊢
  exact ⟨hf,B,k,rfl,hr⟩
theorem lastN_id {l:List Nm} (h:AscN l):lastN l=l:=ascN_ext (lastN_asc l) h (fun s=>lastN_find s l)
theorem cnt_nat (i:Nat) (P:List Ch):cnt (i:Nat) P=min i P.length:=by
 unfold cnt
 rw [if_neg (by omega),Int.toNat_natCast]
theorem behF_at (F:Fo) (i:Nat) (h:i<=F.P.length):behF F (i:Nat)=behN F.L (F.P.take i):=by
 unfold behF
 rw [cnt_nat,Nat.min_eq_left h]
theorem nowF_at (F:Fo):nowF F=behN F.L F.P:=by
 unfold nowF
 rw [behF_at F _ (Nat.le_refl _),List.take_length]
theorem behF_one (L:List Nm) (n:Int):behF ⟨L,[]⟩ n=lastN L:=by
 unfold behF behN
 simp
theorem idsU_iff (F:Fo) (id:Int):∀ n,id ∈ idsU F n ↔ ∃ i,i < n/\∃ nm,(nm,id) ∈ behF F (i:Nat)
 | 0=>by simp [idsU]
 | n+1=>by
  rw [idsU,List.mem_append,idsU_iff F id n,List.mem_map]
  constructor
  ·rintro (⟨i,hi,h⟩ | ⟨⟨nm,j⟩,hx,rfl⟩)
   ·exact ⟨i,by omega,h⟩
   ·exact ⟨n,by omega,nm,hx⟩
  ·rintro ⟨i,hi,nm,h⟩
   by_cases hin:i=n
   ·subst hin
    exact .inr ⟨(nm,id),h,rfl⟩
   ·exact .inl ⟨i,by omega,nm,h⟩
theorem ids_iff {F:Fo} {id:Int}:id ∈ idsF F ↔ ∃ i:Nat,i<=F.P.length/\∃ nm,(nm,id) ∈ behF F (i:Nat):=by
 unfold idsF
 rw [norm_mem,idsU_iff]
 exact ⟨fun ⟨i,h,h'⟩=>⟨i,by omega,h'⟩,fun ⟨i,h,h'⟩=>⟨i,by omega,h'⟩⟩
theorem ids_asc (F:Fo):AscI (idsF F):=norm_asc _
theorem ids_one {L:List Nm} {id:Int}:id ∈ idsF ⟨L,[]⟩ ↔ ∃ nm,(nm,id) ∈ lastN L:=by
 rw [ids_iff]
 constructor
 ·rintro ⟨i,_,nm,h⟩
  rw [behF_one] at h
  exact ⟨nm,h⟩
 ·rintro ⟨nm,h⟩
  exact ⟨0,by simp,nm,by rw [behF_one]; exact h⟩
def newD (lb lf:Int):Dk:=⟨lb,lf,⟨[],[]⟩,fun _=>zI,0,false,none,0⟩
abbrev ZI:List Value:=[.slice none 0 0,.slice none 0 0]
theorem zI_at (w:World):InoAt w ZI zI:=⟨none,0,0,none,0,0,rfl,Sl.nil _ _ _,Nat.le_refl _,⟨[],Sl.nil _ _ _,rfl,Ech.nil⟩,Nat.le_refl _⟩
def FilesAt (w:World) (r:Nat) (f:Int->Ino):Prop:=∃ g,MapI w r g/\∀ id,∃ cs,(g id).getD (ofL ZI)=ofL cs/\InoAt w cs (f id)
theorem FilesAt.fr {S:Nat->Prop} {w w':World} {r:Nat} {f:Int->Ino} (h:FilesAt w r f) (g:Fr S w w') (hr:¬ S r) (hS:∀ k,S k->Alien w k):FilesAt w' r f:=by
 obtain ⟨m,h1,h2⟩:=h
 refine ⟨m,h1.fr g hr,fun id=>?_⟩
 obtain ⟨cs,e,hx⟩:=h2 id
 exact ⟨cs,e,hx.fr g hS⟩
theorem FilesAt.lt {w:World} {r:Nat} {f:Int->Ino} (h:FilesAt w r f):r < w.heap.size:=by
 obtain ⟨m,h1,_⟩:=h
 exact h1.lt
theorem FilesAt.alien {w:World} {r:Nat} {f:Int->Ino} (h:FilesAt w r f):Alien w r:=by
 obtain ⟨m,h1,_⟩:=h
 exact map_alien h1
theorem files_get {w:World} {r:Nat} {f:Int->Ino} (h:FilesAt w r f) {id:Int} {K:List Value->Prop} (hK:∀ cs,InoAt w cs (f id)->K cs):drM (some r) fun r=>mlk w r .i64 id fun q=>lvA ZI q K:=by
 obtain ⟨m,h1,h2⟩:=h
 obtain ⟨cs,e,hx⟩:=h2 id
 exact drM_mk (mlk_mk h1 ⟨cs,e,hK cs hx⟩)
theorem files_put {w:World} {r:Nat} {f:Int->Ino} (h:FilesAt w r f) {id:Int} {cs:List Value} {x:Ino} (hx:InoAt w cs x) {K:World->Prop} (hK:∀ w',FilesAt w' r (updF f id x)->Fr (fun k=>k=r) w w'->K w'):drM (some r) fun r=>mup w r .i64 id (ofL cs) K:=by
 have ha:=h.alien
 obtain ⟨m,h1,h2⟩:=h
 refine drM_mk (mup_mk h1 (fun w' g1 g2 _=>hK w' ⟨_,g1,fun k=>?_⟩ g2))
 unfold updI updF
 by_cases hk:k=id
 ·rw [if_pos hk,if_pos hk]
  exact ⟨cs,rfl,hx.fr g2 (fun j hj=>by have hj:j=r:=hj; rw [hj]; exact ha)⟩
 ·rw [if_neg hk,if_neg hk]
  obtain ⟨cs',e,hx'⟩:=h2 k
  exact ⟨cs',e,hx'.fr g2 (fun j hj=>by have hj:j=r:=hj; rw [hj]; exact ha)⟩
theorem files_del {w:World} {r:Nat} {f:Int->Ino} (h:FilesAt w r f) {id:Int} {K:World->Prop} (hK:∀ w',FilesAt w' r (updF f id zI)->Fr (fun k=>k=r) w w'->K w'):drM (some r) fun r=>mdl w r .i64 id K:=by
 have ha:=h.alien
 obtain ⟨m,h1,h2⟩:=h
 refine drM_mk (mdl_mk h1 (fun w' g1 g2 _=>hK w' ⟨_,g1,fun k=>?_⟩ g2))
 unfold updI updF
 by_cases hk:k=id
 ·rw [if_pos hk,if_pos hk]
  exact ⟨ZI,rfl,zI_at _⟩
 ·rw [if_neg hk,if_neg hk]
  obtain ⟨cs',e,hx'⟩:=h2 k
  exact ⟨cs',e,hx'.fr g2 (fun j hj=>by have hj:j=r:=hj; rw [hj]; exact ha)⟩
def dkC (d:Dk) (u v:Value) (r:Nat) (fz:Bool) (lv:Int):List Value:=[.int .i64 d.lb,.int .i64 d.lf,u,v,.map (some r),.int .i64 d.last,.bool d.down,.bool fz,.int .i64 lv,.int .i64 d.calls]
def fuR (o:Option Int) (fz:Bool) (lv:Int):Prop:=match o with | none=>fz=false | some n=>fz=true/\lv=n
def DkAt (w:World) (db r:Nat) (d:Dk):Prop:=∃ u v fz lv,RecAt w db 59 (dkC d u v r fz lv)/\FoAt w [u,v] d.F/\FilesAt w r d.f/\fuR d.fu fz lv
theorem dk_alien {w:World} {db:Nat} {d:Dk} {u v:Value} {r:Nat} {fz:Bool} {lv:Int} (h:RecAt w db 59 (dkC d u v r fz lv)) (hf:FoAt w [u,v] d.F):Alien w db:=by
 obtain ⟨A,n,c,A',n',c',e,_⟩:=hf
 injection e with e1 e
 injection e with e2 e
 subst e1; subst e2
 have hc:∀ o,cellAt w db o=(dkC d (.slice A n c) (.slice A' n' c') r fz lv)[o]?:=fun o=>by rw [cellAt_blk h]; simp
 refine ⟨fun o s hs=>?_,fun o x hx=>?_,fun o t z A1 n1 c1 ht=>?_⟩
 ·rw [hc] at hs
  match o,hs with
  | 0,hs=>cases hs
  | 1,hs=>cases hs
  | 2,hs=>cases hs
  | 3,hs=>cases hs
  | 4,hs=>cases hs
  | 5,hs=>cases hs
  | 6,hs=>cases hs
  | 7,hs=>cases hs
  | 8,hs=>cases hs
  | 9,hs=>cases hs
  | o+10,hs=>cases hs
 ·rw [hc] at hx
  match o,hx with
  | 0,hx=>cases hx
  | 1,hx=>cases hx
  | 2,hx=>cases hx
  | 3,hx=>cases hx
  | 4,hx=>cases hx
  | 5,hx=>cases hx
  | 6,hx=>cases hx
  | 7,hx=>cases hx
  | 8,hx=>cases hx
  | 9,hx=>cases hx
  | o+10,hx=>cases hx
 ·obtain ⟨h0,h1,h2⟩:=ht
  rw [hc] at h0 h1 h2
  match o,h0,h1,h2 with
  | 0,h0,h1,h2=>cases h0
  | 1,h0,h1,h2=>cases h0
  | 2,h0,h1,h2=>cases h0
  | 3,h0,h1,h2=>cases h0
  | 4,h0,h1,h2=>cases h0
  | 5,h0,h1,h2=>cases h0
  | 6,h0,h1,h2=>cases h1
  | 7,h0,h1,h2=>cases h2
  | 8,h0,h1,h2=>cases h0
  | 9,h0,h1,h2=>cases h0
  | o+10,h0,h1,h2=>cases h0
theorem DkAt.alien {w:World} {db r:Nat} {d:Dk} (h:DkAt w db r d):Alien w db/\Alien w r:=by
 obtain ⟨u,v,fz,lv,h1,h2,h3,_⟩:=h
 exact ⟨dk_alien h1 h2,h3.alien⟩
theorem DkAt.ne {w:World} {db r:Nat} {d:Dk} (h:DkAt w db r d):db ≠ r:=by
 obtain ⟨u,v,fz,lv,h1,h2,⟨g,⟨m,c,h3,_⟩,_⟩,_⟩:=h
 intro e
 subst e
 have h3:w.heap[db]?=some (.map (m.map (mkE .i64)).toArray c):=h3
 have h1:w.heap[db]?=some _:=h1
 rw [h1] at h3
 cases h3
theorem DkAt.lt {w:World} {db r:Nat} {d:Dk} (h:DkAt w db r d):db < w.heap.size/\r < w.heap.size:=by
 obtain ⟨u,v,fz,lv,h1,h2,h3,_⟩:=h
 exact ⟨h1.lt,h3.lt⟩
theorem DkAt.fr {S:Nat->Prop} {w w':World} {db r:Nat} {d:Dk} (h:DkAt w db r d) (f:Fr S w w') (h1:¬ S db) (h2:¬ S r) (hS:∀ k,S k->Alien w k):DkAt w' db r d:=by
 obtain ⟨u,v,fz,lv,q1,q2,q3,q4⟩:=h
 exact ⟨u,v,fz,lv,q1.fr f h1,fo_fr q2 f hS,q3.fr f h2 hS,q4⟩
theorem DkAt.fr0 {w w':World} {db r:Nat} {d:Dk} (h:DkAt w db r d) (f:Fr (fun _=>False) w w'):DkAt w' db r d:=h.fr f (fun h=>h) (fun h=>h) (fun _ h=>h.elim)
def DS (db r:Nat):Nat->Prop:=fun k=>k=db\/k=r
theorem DkAt.ds {w:World} {db r:Nat} {d:Dk} (h:DkAt w db r d):∀ k,DS db r k->Alien w k:=by
 rintro k (rfl | rfl)
 ·exact h.alien.1
 ·exact h.alien.2
theorem fr_up {S:Nat->Prop} {w w':World} (f:Fr (fun _=>False) w w'):Fr S w w':=f.mono (fun _ _ h=>h.elim)
theorem sl_map {w:World} {r:Nat} {g:Int->Option Value} (h:MapI w r g) {sz:Nat} {A:Option Addr} {n:Nat} {vs:List Value} (hs:Sl w sz A n vs) (hz:sz ≠ 0) (h0:n ≠ 0) {k:Nat} (hk:blkOf A=some k):k ≠ r:=by
 obtain ⟨m,c,h,_⟩:=h
 have h:w.heap[r]?=some (.map (m.map (mkE .i64)).toArray c):=h
 obtain ⟨b,o,rfl,hc⟩:=hs.2 h0
 injection hk with hk
 have hk:b=k:=hk
 subst hk
 intro e
 subst e
 have hl:=hs.1
 have hlp:0 < vs.length:=by rw [hl]; exact Nat.mul_pos (by omega) (by omega)
 have:=hc 0 _ (List.getElem?_eq_getElem hlp)
 unfold cellAt World.cell? at this
 simp only [h] at this
 cases this
theorem sl_fr_map {w w':World} {r:Nat} {f:Int->Ino} (h:FilesAt w r f) (g:Fr (fun k=>k=r) w w') {sz:Nat} {A:Option Addr} {n:Nat} {vs:List Value} (hs:Sl w sz A n vs) (hz:sz ≠ 0):Sl w' sz A n vs:=by
 obtain ⟨m,h1,_⟩:=h
 exact g.sl hs (fun h0 k hk e=>sl_map h1 hs hz h0 hk e)
theorem asc_get {l:List Int} (h:AscI l) {i j:Nat} {x y:Int} (hi:l[i]?=some x) (hj:l[j]?=some y) (hij:i < j):x < y:=by
 obtain ⟨h1,rfl⟩:=List.getElem?_eq_some_iff.1 hi
 obtain ⟨h2,rfl⟩:=List.getElem?_eq_some_iff.1 hj
 exact (List.pairwise_iff_getElem.1 h) i j h1 h2 hij
def forg (K W:List Int) (f:Int->Ino):Int->Ino:=fun id=>if id ∈ W/\id ∉ K then zI else f id
theorem forg_trim {F:Fo} {W:List Int} {f:Int->Ino} (h:∀ id,id ∉ W->f id=zI):forg (idsF F) W f=trim F f:=by
 funext id
 unfold forg trim
 by_cases h1:id ∈ idsF F
 ·rw [if_neg (fun h=>h.2 h1),if_pos h1]
 ·rw [if_neg h1]
  by_cases h2:id ∈ W
  ·rw [if_pos ⟨h2,h1⟩]
  ·rw [if_neg (fun h=>h2 h.1),h id h2]
set_option maxHeartbeats 2000000 in
theorem keep_calls (db r:Nat) (d:Dk) (A:Option Addr) (n c:Nat) (W:List Int) (w:World) (h:DkAt w db r d) (hb:FoB d.F) (hW:Sl w 1 A n (ivs W)) (ha:AscI W) (hn:n<=549755813888) :
  Calls Tryz.prog 25 #[.pointer (some ⟨db,0,none⟩),.slice A n c] w fun e w'=>Fr (fun k=>k=r) w w'/\e=.returned (.tuple #[])/\DkAt w' db r { d with f:=forg (idsF d.F) W d.f }:=by
 refine (F25.of (some ⟨db,0,none⟩) A n c w (Q:=fun v w'=>Fr (fun k=>k=r) w w'/\v=.tuple #[]/\DkAt w' db r { d with f:=forg (idsF d.F) W d.f }) ?_).mono (fun e w' ⟨v,he,hf,hv,h⟩=>⟨hf,by rw [he,hv],h⟩)
 have hlt:=h.lt
 have hne:=h.ne
 obtain ⟨u,v,fz,lv,h1,h2,h3,h4⟩:=h
 have hWl:=sl_n hW
 refine dr_mk ⟨[u,v],rfl,h1.cells (fun j x hj=>?_),(ids_calls [u,v] d.F w h2 hb).mono ?_⟩
 ·match j,hj with
  | 0,hj=>exact hj
  | 1,hj=>exact hj
  | j+2,hj=>cases hj
 rintro e w4 ⟨f4,A6,c8,rfl,r6⟩
 have hKa:=ids_asc d.F
 have hKl:(idsF d.F).length<=349526 * 349525:=by
  have hb':d.F.L.length+d.F.P.length<=349525:=hb
  have a1:=norm_len' (idsU d.F (d.F.P.length+1))
  have a2:=idsU_len hb (d.F.P.length+1)
  have a3:(d.F.P.length+1) * 349525<=349526 * 349525:=Nat.mul_le_mul_right _ (by omega)
  unfold idsF
  omega
 have hs6:=r6.sl
 generalize hK:idsF d.F=K at hKa hKl r6 hs6 ⊢
 have h1:=h1.fr f4 (fun h=>h)
 have h2:=h2.fr0 f4
 have h3:=h3.fr f4 (fun h=>h) (fun _ h=>h.elim)
 have hW4:=f4.sl hW (fun _ _ _ h=>h)
 have hs4:=f4.size
 refine ⟨A6,_,c8,rfl,jnC_mk (loop_rule (fun s x=>Fr (fun k=>k=r) w x/\Fr (fun k=>k=r) w4 x/\∃ (i k:Nat),i<=n/\k<=K.length/\s=(some ⟨db,0,none⟩,(A6,K.length,c8),(k:Int),(A,n,c),(n:Int),(i:Int),())/\FilesAt x r (forg K (W.take i) d.f)/\∀ a ∈ K.take k,∀ b ∈ W.drop i,a < b)
  (fun s _=>(n - s.2.2.2.2.2.1).toNat) ?_ _ _ ⟨fr_up f4,Fr.refl _ _,0,0,by omega,by omega,rfl,?_,fun a ha=>by simp at ha⟩)⟩
 ·rintro s x C ⟨hf,hf4,i,k,hi,hk,rfl,hFi,hlo⟩ hC _
  have h1x:=h1.fr hf4 (fun h=>hne h)
  have hWx:Sl x 1 A n (ivs W):=sl_fr_map h3 hf4 hW4 (by omega)
  have hKx:Sl x 1 A6 K.length (ivs K):=sl_fr_map h3 hf4 hs6 (by omega)
  refine vIf_mk (fun hlt2=>?_) (fun hge=>?_)
  ·have hlt2:(i:Int) < (n:Int):=of_decide_eq_true hlt2
   have gi:W[i]?=some (W[i]'(by omega)):=List.getElem?_eq_getElem (by omega)
   generalize W[i]'(by omega)=id at gi
   have hdi:W.drop i=id :: W.drop (i+1):=drop_at gi
   have ms:((n:Int) - IntKind.wrap .i64 ((i:Int)+1)).toNat < ((n:Int) - (i:Int)).toNat:=by rw [ei i (by omega)]; omega
   have eT:W.take (i+1)=W.take i ++ [id]:=by rw [List.take_add_one,gi]; rfl
   refine sl_rd hWx (by omega) gi (jnC_mk (loop_rule (fun s y=>y=x/\∃ (k:Nat),k<=K.length/\s=(some ⟨db,0,none⟩,(A6,K.length,c8),(k:Int),id,(A,n,c),(n:Int),(i:Int),())/\∀ a ∈ K.take k,a < id)
    (fun s _=>(K.length - s.2.2.1).toNat) ?_ _ _ ⟨rfl,k,hk,rfl,fun a ha=>hlo a ha id (by rw [hdi]; exact List.mem_cons_self ..)⟩))
   rintro s y C2 ⟨rfl,k,hk,rfl,hlo2⟩ hC2 _
   have k7:(k < K.length->∀ a,K[k]?=some a->¬ a < id)->jnC (F25.k7 (fun v w'=>Fr (fun k=>k=r) w w'/\v=.tuple #[]/\DkAt w' db r { d with f:=forg K W d.f }) C) (some ⟨db,0,none⟩,(A6,K.length,c8),(k:Int),id,(A,n,c),(n:Int),(i:Int),()) y:=by
    intro hst
    have hlo3:∀ a ∈ K.take k,∀ b ∈ W.drop (i+1),a < b:=fun a ha b hb=>by
     have h1:=hlo2 a ha
     obtain ⟨j,hj,hb⟩:=mem_drop_ge hb
     have h2:=asc_get ‹AscI W› gi hb (by omega)
     omega
    have hin:id ∈ K ↔ K[k]?=some id:=by
     constructor
     ·intro hm
      obtain ⟨j,hj⟩:=List.mem_iff_getElem?.1 hm
      have hjl:=(List.getElem?_eq_some_iff.1 hj).1
      have hjk:k<=j:=by
       by_cases hjk:j < k
       ·have:=hlo2 id (List.mem_iff_getElem?.2 ⟨j,by rw [List.getElem?_take,if_pos hjk]; exact hj⟩)
        omega
       ·omega
      by_cases hjk2:j=k
      ·rw [<- hjk2]; exact hj
      ·have gk:K[k]?=some (K[k]'(by omega)):=List.getElem?_eq_getElem (by omega)
       have h1:=hst (by omega) _ gk
       have h2:=asc_get hKa gk hj (by omega)
       omega
     ·intro h; exact List.mem_of_getElem? h
    have k8:∀ t:Bool,(t=true ↔ id ∉ K)->jnC (F25.k8 (fun v w'=>Fr (fun k=>k=r) w w'/\v=.tuple #[]/\DkAt w' db r { d with f:=forg K W d.f }) C) (some ⟨db,0,none⟩,(A6,K.length,c8),(k:Int),id,(A,n,c),(n:Int),(i:Int),t,()) y:=by
     intro t ht
     refine jnC_mk (fun _=>vIf_mk (fun htt=>?_) (fun htf=>?_))
     ·have hno:=ht.1 htt
      refine dr_mk ⟨some r,h1x.cell (o:=0+4) rfl,files_del hFi (fun w' hF' f'=>jnC_mk (hC _ _ ⟨hf.trans1 f',hf4.trans1 f',i+1,k,by omega,hk,by rw [ei i (by omega)],?_,hlo3⟩ ms))⟩
      have e2:updF (forg K (W.take i) d.f) id zI=forg K (W.take (i+1)) d.f:=by
       funext j
       unfold updF forg
       rw [eT]
       by_cases hj:j=id
       ·subst hj
        rw [if_pos rfl,if_pos ⟨by simp,hno⟩]
       ·rw [if_neg hj]
        have:(j ∈ W.take i ++ [id]/\j ∉ K) ↔ (j ∈ W.take i/\j ∉ K):=by simp [hj]
        simp only [this]
      rw [e2] at hF'
      exact hF'
     ·have hyes:id ∈ K:=by
       by_cases hm:id ∈ K
       ·exact hm
       ·have:=ht.2 hm
        have htf:t=false:=htf
        rw [htf] at this; cases this
      refine jnC_mk (hC _ _ ⟨hf,hf4,i+1,k,by omega,hk,by rw [ei i (by omega)],?_,hlo3⟩ ms)
      have e2:forg K (W.take (i+1)) d.f=forg K (W.take i) d.f:=by
       funext j
       unfold forg
       rw [eT]
       have:(j ∈ W.take i ++ [id]/\j ∉ K) ↔ (j ∈ W.take i/\j ∉ K):=by
        constructor
        ·rintro ⟨h1,h2⟩
         refine ⟨?_,h2⟩
         rcases List.mem_append.1 h1 with h1 | h1
         ·exact h1
         ·rw [List.mem_singleton.1 h1] at h2; exact absurd hyes h2
        ·rintro ⟨h1,h2⟩
         exact ⟨List.mem_append.2 (.inl h1),h2⟩
       simp only [this]
      rw [e2]; exact hFi
    refine jnC_mk (fun _=>vIf_mk (fun hkl=>k8 true ⟨fun _ hm=>?_,fun _=>rfl⟩) (fun hkl=>?_))
    ·have hkl:(k:Int)=(K.length:Int):=by simpa using hkl
     have:=hin.1 hm
     have:=(List.getElem?_eq_some_iff.1 this).1
     omega
    ·have hkl:¬ (k:Int)=(K.length:Int):=by simpa using hkl
     have gk:K[k]?=some (K[k]'(by omega)):=List.getElem?_eq_getElem (by omega)
     generalize K[k]'(by omega)=a at gk
     refine sl_rd hKx (by omega) gk (k8 _ ?_)
     rw [hin,gk]
     constructor
     ·intro ht e
      injection e with e
      subst e
      simp at ht
     ·intro hne2
      have:a ≠ id:=fun e=>hne2 (by rw [e])
      simpa using this
   refine vIf_mk (fun hkl=>?_) (fun hkl=>k7 (fun hk2=>?_))
   ·have hkl:(k:Int) < (K.length:Int):=of_decide_eq_true hkl
    have gk:K[k]?=some (K[k]'(by omega)):=List.getElem?_eq_getElem (by omega)
    generalize K[k]'(by omega)=a at gk
    refine sl_rd hKx (by omega) gk (vIf_mk (fun hal=>jnC_mk (hC2 _ _ ⟨rfl,k+1,by omega,by rw [ei k (by omega)],fun a' ha'=>?_⟩ ?_)) (fun hal=>k7 (fun _ a' ha'=>?_)))
    ·have hal:=of_decide_eq_true hal
     rw [List.take_add_one,gk] at ha'
     rcases List.mem_append.1 ha' with h | h
     ·exact hlo2 a' h
     ·have h:a'=a:=by simpa using h
      rw [h]; exact hal
    ·show ((K.length:Int) - IntKind.wrap .i64 ((k:Int)+1)).toNat < ((K.length:Int) - (k:Int)).toNat
     rw [ei k (by omega)]; omega
    ·have hal:=of_decide_eq_false hal
     rw [gk] at ha'
     injection ha' with ha'
     rw [<- ha']; exact hal
   ·have hkl:¬ (k:Int) < (K.length:Int):=of_decide_eq_false hkl
    omega
  ·have hge:¬ (i:Int) < (n:Int):=of_decide_eq_false hge
   have e:W.take i=W:=List.take_of_length_le (by omega)
   rw [e] at hFi
   have h2x:=fo_fr h2 hf4 (fun k hk=>by have hk:k=r:=hk; rw [hk]; exact h3.alien)
   exact ⟨hf,rfl,u,v,fz,lv,h1x,h2x,hFi,h4⟩
 ·have e:forg K (W.take 0) d.f=d.f:=by
   funext j
   unfold forg
   rw [if_neg (fun h=>by simp at h)]
  rw [e]; exact h3
structure DkB (d:Dk) (N:Nat):Prop where
 fo:d.F.L.length+d.F.P.length<=N
 p:∀ id,(d.f id).p.length<=N
 last:0<=d.last/\d.last<=N
 calls:0<=d.calls/\d.calls<=N
 fu:∀ n,d.fu=some n->n<=9223372036854775807
 lb:d.lb<=9223372036854775807
 lf:d.lf<=9223372036854775807
theorem ids_max {F:Fo} (hb:FoB F):(idsF F).length<=122168075150:=by
 have hb':F.L.length+F.P.length<=349525:=hb
 have a1:=norm_len' (idsU F (F.P.length+1))
 have a2:=idsU_len hb (F.P.length+1)
 have a3:(F.P.length+1) * 349525<=349526 * 349525:=Nat.mul_le_mul_right _ (by omega)
 unfold idsF
 omega
theorem fo_cells {w:World} {cs:List Value} {F:Fo} (h:FoAt w cs F):∃ u v,cs=[u,v]/\u.oneCell'=true/\v.oneCell'=true:=by
 obtain ⟨A,n,c,A',n',c',e,_⟩:=h
 exact ⟨_,_,e,rfl,rfl⟩
theorem dk_set {w:World} {db r:Nat} {d d':Dk} {u v:Value} {fz fz':Bool} {lv lv':Int} {o:Nat} {vs:List Value} {K:World->Prop} (h1:RecAt w db 59 (dkC d u v r fz lv)) (h2:FoAt w [u,v] d.F) (h3:FilesAt w r d.f)
  (e:splice (dkC d u v r fz lv) o vs=dkC d' u v r fz' lv') (hl:o+vs.length<=10) (ho:∀ v ∈ vs,v.oneCell'=true) (hF:d'.F=d.F) (hf:d'.f=d.f) (hne:db ≠ r)
  (hK:∀ w',Fr (fun k=>k=db) w w'->RecAt w' db 59 (dkC d' u v r fz' lv')->FoAt w' [u,v] d'.F->FilesAt w' r d'.f->K w'):st w db o vs K:=by
 have ha:=dk_alien h1 h2
 refine h1.st_mk hl ho (fun r2 f2=>hK _ f2 (by rw [e] at r2; exact r2) ?_ ?_)
 ·rw [hF]; exact fo_fr h2 f2 (fun k hk=>by have hk:k=db:=hk; rw [hk]; exact ha)
 ·rw [hf]; exact h3.fr f2 (fun h=>hne h.symm) (fun k hk=>by have hk:k=db:=hk; rw [hk]; exact ha)
theorem dk_setF {w:World} {db r:Nat} {d:Dk} {F':Fo} {cs:List Value} {K:World->Prop} (h:DkAt w db r d) (hF:FoAt w cs F') (hK:∀ w',Fr (fun k=>k=db) w w'->DkAt w' db r { d with F:=F' }->K w'):gd (cs.length == 2) (st w db (0+2) cs K):=by
 have hne:=h.ne
 obtain ⟨u,v,fz,lv,h1,h2,h3,h4⟩:=h
 have ha:=dk_alien h1 h2
 obtain ⟨u',v',rfl,hu,hv⟩:=fo_cells hF
 refine gd_mk rfl (h1.st_mk (by show 0+2+2<=10; omega) (fun x hx=>?_) (fun r2 f2=>hK _ f2 ⟨u',v',fz,lv,r2,?_,?_,h4⟩))
 ·simp only [List.mem_cons,List.not_mem_nil,or_false] at hx
  rcases hx with rfl | rfl
  ·exact hu
  ·exact hv
 ·exact fo_fr hF f2 (fun k hk=>by have hk:k=db:=hk; rw [hk]; exact ha)
 ·exact h3.fr f2 (fun h=>hne h.symm) (fun k hk=>by have hk:k=db:=hk; rw [hk]; exact ha)
theorem dk_getF {w:World} {db r:Nat} {d:Dk} (h:DkAt w db r d) {K:List Value->Prop} (hK:∀ cs,FoAt w cs d.F->K cs):ldA 2 w db (0+2) K:=by
 obtain ⟨u,v,fz,lv,h1,h2,h3,h4⟩:=h
 refine ⟨[u,v],rfl,h1.cells (fun j x hj=>?_),hK _ h2⟩
 match j,hj with
 | 0,hj=>exact hj
 | 1,hj=>exact hj
 | j+2,hj=>cases hj
theorem dk_getM {w:World} {db r:Nat} {d:Dk} (h:DkAt w db r d) {K:Option Nat->Prop} (hK:K (some r)):ldM w db (0+4) K:=by
 obtain ⟨u,v,fz,lv,h1,h2,h3,h4⟩:=h
 exact ⟨some r,h1.cell rfl,hK⟩
set_option maxHeartbeats 1000000 in
theorem power_callsg (db r:Nat) (d:Dk) (p0:Nat) (w:World) (N:Nat) (call:Dk->Dk×Int) (h:DkAt w db r d) (hB:DkB d N) (hN:N<=349525)
  (hcall:∀ w2:World,Fr (fun k=>k=db) w w2->offD d=false->DkAt w2 db r { d with fu:=d.fu.map (· - 1),calls:=d.calls+1 }->Calls Tryz.prog 23 #[.pointer (some ⟨p0,0,none⟩)] w2 fun e w'=>Fr (DS db r) w2 w'/\e=.returned (.int .i64 (call { d with fu:=d.fu.map (· - 1),calls:=d.calls+1 }).2)/\DkAt w' db r (call { d with fu:=d.fu.map (· - 1),calls:=d.calls+1 }).1) :
  Calls Tryz.prog 22 #[.pointer (some ⟨db,0,none⟩),.func (.func 23) #[] #[.pointer (some ⟨p0,0,none⟩)]] w fun e w'=>Fr (DS db r) w w'/\e=.returned (.int .i64 (powD d call).2)/\DkAt w' db r (powD d call).1:=by
 refine (F22g.of (some ⟨db,0,none⟩) (p0,0) w (Q:=fun v w'=>Fr (DS db r) w w'/\v=.int .i64 (powD d call).2/\DkAt w' db r (powD d call).1) ?_).mono (fun e w' ⟨v,he,hf,hv,h⟩=>⟨hf,by rw [he,hv],h⟩)
 have hne:=h.ne
 obtain ⟨u,v,fz,lv,h1,h2,h3,h4⟩:=h
 have hc1:=hB.calls
 have k4:∀ t:Bool,t=offD d->jnC (F22g.k4 (fun v w'=>Fr (DS db r) w w'/\v=.int .i64 (powD d call).2/\DkAt w' db r (powD d call).1)) (some ⟨db,0,none⟩,(p0,0),t,()) w:=by
  intro t ht
  refine jnC_mk (fun _=>vIf_mk (fun htt=>dr_mk (dk_set (d':={ d with down:=true }) (fz':=fz) (lv':=lv) h1 h2 h3 rfl (by show 0+6+1<=10; omega) (fun x hx=>by simp at hx; subst hx; rfl) rfl rfl hne (fun w6 f6 g1 g2 g3=>?_))) (fun htf=>jnC_mk (fun _=>?_)))
  ·have ho:offD d=true:=by rw [<- ht]; exact htt
   have eP:powD d call=({ d with down:=true },11):=by unfold powD; rw [if_pos ho]
   rw [eP]
   exact ⟨f6.mono (fun _ _ h=>.inl h),rfl,u,v,fz,lv,g1,g2,g3,h4⟩
  ·have ho:offD d=false:=by rw [<- ht]; exact htf
   have eP:powD d call=call { d with fu:=d.fu.map (· - 1),calls:=d.calls+1 }:=by unfold powD; rw [if_neg (by rw [ho]; simp)]
   refine dr_mk ⟨lv,h1.cell (o:=0+8) rfl,dr_mk (dk_set (d':=d) (fz':=fz) (lv':=IntKind.wrap .i64 (lv - 1)) h1 h2 h3 rfl (by show 0+8+1<=10; omega) (fun x hx=>by simp at hx; subst hx; rfl) rfl rfl hne (fun w12 f12 g1 g2 g3=>?_))⟩
   have ec:IntKind.wrap .i64 (d.calls+1)=d.calls+1:=i64_id (by omega) (by omega)
   refine dr_mk ⟨d.calls,g1.cell (o:=0+9) rfl,dr_mk (dk_set (d':={ d with fu:=d.fu.map (· - 1),calls:=d.calls+1 }) (fz':=fz) (lv':=IntKind.wrap .i64 (lv - 1)) g1 g2 g3 (by rw [ec]; rfl) (by show 0+9+1<=10; omega) (fun x hx=>by simp at hx; subst hx; rfl) rfl rfl hne (fun w18 f18 m1 m2 m3=>?_))⟩
   have hfu:fuR (d.fu.map (· - 1)) fz (IntKind.wrap .i64 (lv - 1)):=by
    unfold fuR at h4 ⊢
    cases hd:d.fu with
    | none=>rw [hd] at h4; exact h4
    | some n =>
     rw [hd] at h4
     have hh:=hB.fu n hd
     have hn1:¬ n<=0:=fun hle=>by
      unfold offD at ho
      rw [hd] at ho
      simp at ho
      omega
     have h4:fz=true/\lv=n:=h4
     refine ⟨h4.1,?_⟩
     rw [h4.2]
     exact i64_id (by omega) (by omega)
   have f018:Fr (fun k=>k=db) w w18:=f12.trans1 f18
   refine (hcall w18 f018 ho ⟨u,v,fz,_,m1,m2,m3,hfu⟩).mono ?_
   rintro e w19 ⟨f19,rfl,h19⟩
   refine ⟨_,rfl,?_⟩
   rw [eP]
   exact ⟨f018.trans f19 (fun k _ h=>.inl h) (fun _ _ h=>h),rfl,h19⟩
 refine vIf_f rfl (dr_mk ⟨d.down,h1.cell (o:=0+6) rfl,vIf_mk (fun hd=>k4 true ?_) (fun hd=>dr_mk ⟨fz,h1.cell (o:=0+7) rfl,vIf_mk (fun hz=>dr_mk ⟨lv,h1.cell (o:=0+8) rfl,k4 _ ?_⟩) (fun hz=>k4 false ?_)⟩)⟩)
 ·have hd:d.down=true:=hd
  unfold offD
  rw [hd]; rfl
 ·have hd:d.down=false:=hd
  have hz:fz=true:=hz
  unfold offD
  rw [hd,Bool.false_or]
  unfold fuR at h4
  cases hf:d.fu with
  | none=>rw [hf] at h4; rw [hz] at h4; cases h4
  | some n =>
   rw [hf] at h4
   have h4:fz=true/\lv=n:=h4
   rw [h4.2]
 ·have hd:d.down=false:=hd
  have hz:fz=false:=hz
  unfold offD
  rw [hd,Bool.false_or]
  unfold fuR at h4
  cases hf:d.fu with
  | none=>rfl
  | some n =>
   rw [hf] at h4
   have h4:fz=true/\lv=n:=h4
   rw [hz] at h4; cases h4.1
set_option maxHeartbeats 1000000 in
theorem SyncDir_calls (db r:Nat) (d:Dk) (w:World) (N:Nat) (h:DkAt w db r d) (hI:DkI d) (hB:DkB d N) (hN:N<=349524) :
  Calls Tryz.prog 8 #[.pointer (some ⟨db,0,none⟩)] w fun e w'=>Fr (DS db r) w w'/\e=.returned (.int .i64 (powD d sdD).2)/\DkAt w' db r (powD d sdD).1:=by
 refine (F8.of (some ⟨db,0,none⟩) w (Q:=fun v w'=>Fr (DS db r) w w'/\v=.int .i64 (powD d sdD).2/\DkAt w' db r (powD d sdD).1) ?_).mono (fun e w' ⟨v,he,hf,hv,h⟩=>⟨hf,by rw [he,hv],h⟩)
 have hlt:=h.lt
 have hfo:=hB.fo
 have hbF:FoB d.F:=by unfold FoB; omega
 have hbF':FoB ⟨nowF d.F,[]⟩:=by
  have:=nowF_len d.F
  unfold FoB
  show (nowF d.F).length+0<=349525
  omega
 have hm:=ids_max hbF
 refine rec_new (fun b1 w2 f1 hb1 r1=>⟨_,r1.cell (o:=0) rfl,?_⟩)
 have h2:=h.fr0 f1
 refine (power_callsg db r d b1 w2 N sdD h2 hB (by omega) (fun w8 f8 ho h8=>?_)).mono ?_
 ·have r1:=r1.fr f8 (fun h=>by have h:b1=db:=h; omega)
  refine (F23.of (b1,0) w8 (Q:=fun v w'=>Fr (DS db r) w8 w'/\v=.int .i64 0/\DkAt w' db r (sdD { d with fu:=d.fu.map (· - 1),calls:=d.calls+1 }).1) ?_).mono (fun e w' ⟨v,he,hf,hv,h⟩=>⟨hf,by rw [he,hv]; rfl,h⟩)
  refine ⟨_,r1.cell (o:=0) rfl,dr_mk (dk_getF h8 (fun cs hF=>(ids_calls cs d.F w8 hF hbF).mono ?_))⟩
  rintro e w5 ⟨f5,A7,c9,rfl,r7⟩
  have fd:Fr (fun _=>False) w5 w5.drew:=Fr.drew _ _
  have f5d:=f5.trans1 fd
  have h5:=h8.fr0 f5d
  have r1:=r1.fr f5d (fun h=>h)
  have r7:=fd.row r7 (fun _ _ h=>h)
  have e0:w5.drew.heap.size=w5.heap.size:=rfl
  have hs5:=f5d.size
  generalize w5.drew=w6 at fd f5d h5 r1 r7 e0 hs5 ⊢
  refine ⟨A7,_,c9,rfl,_,r1.cell (o:=0) rfl,_,r1.cell (o:=0) rfl,dr_mk (dk_getF h5 (fun cs hF=>(sync_calls cs d.F w6 hF hbF).mono ?_))⟩
  rintro e w15 ⟨f15,cs',rfl,hF'⟩
  have hl1:=r1.lt
  have r1:=r1.fr f15 (fun h=>h)
  have hl8:=h8.lt
  refine ⟨cs',rfl,kp_mk f15 hl1 (fun h=>h) (dr_mk (dk_setF (h5.fr0 f15) hF' (fun w20 f20 h20=>?_)))⟩
  have r1':=r1.fr f20 (fun h=>by have h:b1=db:=h; omega)
  have hrow:Sl w20 1 A7 (idsF d.F).length (ivs (idsF d.F)):=by
   refine f20.sl (f15.sl r7.sl (fun _ _ _ h=>h)) (fun h0 k hk h=>?_)
   have h:k=db:=h
   have:=(r7.blt hk).1; omega
  refine ⟨_,r1'.cell (o:=0) rfl,(keep_calls db r _ A7 _ c9 (idsF d.F) w20 h20 hbF' hrow (ids_asc _) (by omega)).mono ?_⟩
  rintro e w22 ⟨f22,rfl,h22⟩
  have e2:forg (idsF ⟨nowF d.F,[]⟩) (idsF d.F) d.f=trim ⟨nowF d.F,[]⟩ d.f:=forg_trim hI.out
  have h22:DkAt w22 db r { d with F:=⟨nowF d.F,[]⟩,f:=forg (idsF ⟨nowF d.F,[]⟩) (idsF d.F) d.f,fu:=d.fu.map (· - 1),calls:=d.calls+1 }:=h22
  rw [e2] at h22
  refine ⟨rfl,?_,rfl,h22⟩
  exact ((f5d.trans1 f15).trans f20 (U:=DS db r) (fun _ _ h=>h.elim) (fun k hk h=>.inl h)).trans f22 (fun _ _ h=>h) (fun k hk h=>.inr h)
 ·rintro e w9 ⟨f9,rfl,h9⟩
  exact ⟨_,rfl,f1.trans f9 (fun _ _ h=>h.elim) (fun _ _ h=>h),rfl,h9⟩
theorem Fuse_calls (db r:Nat) (d:Dk) (n:Int) (w:World) (h:DkAt w db r d) :
  Calls Tryz.prog 7 #[.pointer (some ⟨db,0,none⟩),.int .i64 n] w fun e w'=>Fr (DS db r) w w'/\e=.returned (.tuple #[])/\DkAt w' db r (fuseD d n):=by
 refine (F7.of (some ⟨db,0,none⟩) n w (Q:=fun v w'=>Fr (DS db r) w w'/\v=.tuple #[]/\DkAt w' db r (fuseD d n)) ?_).mono (fun e w' ⟨v,he,hf,hv,h⟩=>⟨hf,by rw [he,hv],h⟩)
 have hne:=h.ne
 obtain ⟨u,v,fz,lv,h1,h2,h3,h4⟩:=h
 refine vIf_t rfl (dr_mk (dk_set (d':=d) (fz':=decide (n >= 0)) (lv':=lv) h1 h2 h3 rfl (by show 0+7+1<=10; omega) (fun x hx=>by simp at hx; subst hx; rfl) rfl rfl hne (fun w45 f45 g1 g2 g3=>dr_mk (dk_set (d':=fuseD d n) (fz':=decide (n >= 0)) (lv':=n) g1 g2 g3 rfl (by show 0+8+1<=10; omega) (fun x hx=>by simp at hx; subst hx; rfl) rfl rfl hne (fun w48 f48 k1 k2 k3=>⟨?_,rfl,u,v,_,_,k1,k2,k3,?_⟩)))))
 ·exact (f45.trans1 f48).mono (fun _ _ h=>.inl h)
 ·show fuR (if n >= 0 then some n else none) _ _
  by_cases h0:n >= 0
  ·rw [if_pos h0]
   exact ⟨decide_eq_true h0,rfl⟩
  ·rw [if_neg h0]
   exact decide_eq_false h0
theorem look_calls (db r:Nat) (d:Dk) (s:ByteArray) (w:World) (h:DkAt w db r d) (hb:FoB d.F) (hi:∀ id,InoB (d.f id)) (hp:∀ id,(d.f id).p.length<=1099511627775) :
  Calls Tryz.prog 81 #[.pointer (some ⟨db,0,none⟩),.string s] w fun e w'=>Fr (fun _=>False) w w'/\∃ B k,e=.returned (.tuple #[.slice B (lookD d s).1.length k,.int .i64 (lookD d s).2])/\Sl w' 1 B (lookD d s).1.length (bys (lookD d s).1)/\(lookD d s).1.length<=k:=by
 refine (F81.of (some ⟨db,0,none⟩) s w (Q:=fun v w'=>Fr (fun _=>False) w w'/\∃ B k,v=.tuple #[.slice B (lookD d s).1.length k,.int .i64 (lookD d s).2]/\Sl w' 1 B (lookD d s).1.length (bys (lookD d s).1)/\(lookD d s).1.length<=k) ?_).mono (fun e w' ⟨v,he,hf,B,k,hv,h⟩=>⟨hf,B,k,by rw [he,hv],h⟩)
 have h0:=h
 obtain ⟨u,v,fz,lv,h1,h2,h3,h4⟩:=h0
 refine vIf_f rfl (dr_mk ⟨d.down,h1.cell (o:=0+6) rfl,vIf_mk (fun hd=>?_) (fun hd=>dr_mk (dk_getF h (fun cs hF=>(find_calls cs d.F s w hF hb).mono ?_)))⟩)
 ·have e:lookD d s=([],11):=by unfold lookD; rw [if_pos hd]
  rw [e]
  exact ⟨Fr.refl _ _,none,0,rfl,Sl.nil _ _ _,Nat.le_refl _⟩
 ·have hd:d.down=false:=hd
  rintro e w7 ⟨rfl,f7⟩
  refine ⟨_,_,rfl,?_⟩
  cases hfn:findN s (nowF d.F) with
  | none =>
   have eL:lookD d s=([],6):=by unfold lookD; rw [if_neg (by rw [hd]; simp),hfn]
   rw [eL]
   exact vIf_t rfl ⟨f7,none,0,rfl,Sl.nil _ _ _,Nat.le_refl _⟩
  | some id =>
   have eL:lookD d s=(nowI (d.f id),0):=by unfold lookD; rw [if_neg (by rw [hd]; simp),hfn]
   rw [eL]
   refine vIf_f rfl (dr_mk (dk_getM (h.fr0 f7) (files_get (h3.fr f7 (fun h=>h) (fun _ h=>h.elim)) (fun cs hX=>(now_calls' cs _ w7 hX (hi id) (hp id)).mono ?_))))
   rintro e w17 ⟨f17,B,k,rfl,hr⟩
   exact ⟨B,_,k,rfl,f7.trans1 f17,B,k,rfl,hr.sl,hr.le⟩
theorem Size_calls (db r:Nat) (d:Dk) (s:ByteArray) (w:World) (h:DkAt w db r d) (hb:FoB d.F) (hi:∀ id,InoB (d.f id)) (hp:∀ id,(d.f id).p.length<=1099511627775) :
  Calls Tryz.prog 46 #[.pointer (some ⟨db,0,none⟩),.string s] w fun e w'=>e=.returned (.tuple #[.int .i64 ((lookD d s).1.length:Int),.int .i64 (lookD d s).2])/\Fr (fun _=>False) w w':=by
 refine (F46.of (some ⟨db,0,none⟩) s w (Q:=fun v w'=>v=.tuple #[.int .i64 ((lookD d s).1.length:Int),.int .i64 (lookD d s).2]/\Fr (fun _=>False) w w') ?_).mono (fun e w' ⟨v,he,hv,h⟩=>⟨by rw [he,hv],h⟩)
 refine (look_calls db r d s w h hb hi hp).mono ?_
 rintro e w1 ⟨f1,B,k,rfl,_,_⟩
 exact ⟨B,_,k,_,rfl,rfl,f1⟩
theorem look_len {d:Dk} (hi:∀ id,InoB (d.f id)) (s:ByteArray):(lookD d s).1.length<=1048576:=by
 unfold lookD
 split
 ·show 0<=_; omega
 ·split
  ·show 0<=_; omega
  ·exact now_le (hi _)
end Go.Proofs.YthcdionpeoobbaaGreatDoor
namespace Go.GV
open Go Go.RowKit
structure RowW (w:World) (B:Nat) (e:TypeId) (sz:Nat) (z:List Value) (A:Option Addr) (n c:Nat) (vs:List Value):Prop where
 len:vs.length=n * sz
 le:n<=c
 at_:(A=none/\n=0/\c=0)\/∃ b,A=some ⟨b,0,none⟩/\B<=b/\w.heap[b]?=some (.cells (vs ++ zeros (c - n) z).toArray e (0,0))
theorem RowW.nil (w:World) (B:Nat) (e:TypeId) (sz:Nat) (z:List Value):RowW w B e sz z none 0 0 []:=⟨by simp,Nat.le_refl _,.inl ⟨rfl,rfl,rfl⟩⟩
theorem RowW.sl {w:World} {B:Nat} {e:TypeId} {sz:Nat} {z:List Value} {A:Option Addr} {n c:Nat} {vs:List Value} (h:RowW w B e sz z A n c vs):Sl w sz A n vs:=by
 refine ⟨h.len,fun h0=>?_⟩
 rcases h.at_ with ⟨_,h1,_⟩ | ⟨b,rfl,_,hb⟩
 ·exact absurd h1 h0
 ·refine ⟨b,0,rfl,fun j v hj=>?_⟩
  rw [cellAt_blk hb,Nat.zero_add,List.getElem?_toArray,List.getElem?_append_left (List.getElem?_eq_some_iff.1 hj).1]
  exact hj
theorem RowW.blt {w:World} {B:Nat} {e:TypeId} {sz:Nat} {z:List Value} {A:Option Addr} {n c:Nat} {vs:List Value} (h:RowW w B e sz z A n c vs) {b:Nat} (hb:blkOf A=some b):B<=b/\b < w.heap.size:=by
 rcases h.at_ with ⟨rfl,_,_⟩ | ⟨b',rfl,hB,hh⟩
 ·simp [blkOf] at hb
 ·simp only [blkOf,Option.some.injEq] at hb; subst hb; exact ⟨hB,heap_lt hh⟩
theorem Fr.rowW {S:Nat->Prop} {w w':World} (h:Fr S w w') {B:Nat} {e:TypeId} {sz:Nat} {z:List Value} {A:Option Addr} {n c:Nat} {vs:List Value} (hr:RowW w B e sz z A n c vs) (hn:∀ b,blkOf A=some b->¬ S b):RowW w' B e sz z A n c vs:=by
 refine ⟨hr.len,hr.le,?_⟩
 rcases hr.at_ with h1 | ⟨b,rfl,hB,hb⟩
 ·exact .inl h1
 ·exact .inr ⟨b,rfl,hB,h.at hb (hn b rfl)⟩
theorem RowW.ne_type {w:World} {B:Nat} {e e':TypeId} {sz:Nat} {z:List Value} {A:Option Addr} {n c:Nat} {vs cs:List Value} (h:RowW w B e sz z A n c vs) {b:Nat} (hr:RecAt w b e' cs) (he:e ≠ e'):∀ k,blkOf A=some k->k ≠ b:=by
 intro k hk hkb
 subst hkb
 rcases h.at_ with ⟨rfl,_,_⟩ | ⟨b',rfl,hB,hh⟩
 ·simp [blkOf] at hk
 ·simp only [blkOf,Option.some.injEq] at hk
  subst hk
  have hr:w.heap[b']?=some (.cells cs.toArray e' (0,0)):=hr
  rw [hh] at hr
  injection hr with hr
  injection hr with _ h2 _
  exact he h2
theorem RowW.ne_row {w:World} {B B':Nat} {e e':TypeId} {sz sz':Nat} {z z':List Value} {A A':Option Addr} {n c n' c':Nat} {vs vs':List Value} (h:RowW w B e sz z A n c vs) (h':RowW w B' e' sz' z' A' n' c' vs') (he:e ≠ e'):∀ k,blkOf A=some k->blkOf A'=some k->False:=by
 intro k hk hk'
 rcases h'.at_ with ⟨rfl,_,_⟩ | ⟨b',rfl,hB,hh⟩
 ·simp [blkOf] at hk'
 ·simp only [blkOf,Option.some.injEq] at hk'
  exact h.ne_type (b:=b') hh he k hk hk'.symm
theorem RowW.ne_obj {w:World} {B:Nat} {e:TypeId} {sz:Nat} {z:List Value} {A:Option Addr} {n c:Nat} {vs:List Value} (h:RowW w B e sz z A n c vs) {b:Nat} {m:Array MapEntry} {q:Nat} (hr:w.heap[b]?=some (.map m q)):∀ k,blkOf A=some k->k ≠ b:=by
 intro k hk hkb
 subst hkb
 rcases h.at_ with ⟨rfl,_,_⟩ | ⟨b',rfl,hB,hh⟩
 ·simp [blkOf] at hk
 ·simp only [blkOf,Option.some.injEq] at hk
  subst hk
  rw [hh] at hr
  cases hr
theorem zeros_drop (c m sz:Nat) (z:List Value) (hz:z.length=sz) (h:m<=c):(zeros c z).drop (m * sz)=zeros (c - m) z:=by
 have e1:zeros c z=zeros m z ++ zeros (c - m) z:=by
  unfold zeros
  rw [<- List.flatten_append,List.replicate_append_replicate]
  congr 2; omega
 rw [e1,List.drop_append_of_le_length (by rw [zeros_length,hz]; exact Nat.le_refl _),List.drop_of_length_le (by rw [zeros_length,hz]; exact Nat.le_refl _),List.nil_append]
theorem app_rowW {w:World} {B:Nat} {e:TypeId} {sz bytes:Nat} {z:List Value} {A:Option Addr} {n c:Nat} {x:Value} {old us:List Value} {m:Nat} {K:Option Addr->Nat->Nat->World->Prop}
  (hr:RowW w B e sz z A n c old) (hx:srcOf w sz x m us) (h1:∀ v ∈ us,v.oneCell'=true) (hz:z.length=sz) (hb:(n+m) * bytes<=140737488355328) (hm:n+m<=9223372036854775807) (hB:B<=w.heap.size)
  (hK:∀ A' c' w',RowW w' B e sz z A' (n+m) c' (old ++ us)->Fr (fun k=>blkOf A=some k) w w'->(∀ k,blkOf A'=some k->blkOf A=some k\/w.heap.size<=k)->K A' (n+m) c' w'):app w sz bytes z e A n c x K:=by
 have hul:us.length=m * sz:=by
  unfold srcOf at hx
  split at hx
  ·obtain ⟨rfl,h,_⟩:=hx; exact h
  ·obtain ⟨rfl,rfl,rfl⟩:=hx; simp
  ·exact hx.elim
 have hol:=hr.len
 refine ⟨m,us,hx,h1,hb,hm,fun hle=>⟨fun h0=>?_,fun h0=>?_⟩,fun hlt=>⟨old,hr.sl.src,fun cap hc1 hc2=>?_⟩⟩
 ·subst h0
  have:us=[]:=List.length_eq_zero_iff.1 (by simpa using hul)
  subst this
  exact hK A c w (by rw [List.append_nil]; exact hr) (Fr.refl _ _) (fun _ h=>.inl h)
 ·rcases hr.at_ with ⟨rfl,rfl,rfl⟩ | ⟨b,rfl,hBb,hh⟩
  ·omega
  ·have hm2:m * sz<=(c - n) * sz:=Nat.mul_le_mul_right _ (by omega)
   show st w b (0+n * sz) us _
   rw [Nat.zero_add]
   refine ⟨⟨_,e,0,0,hh,by simp only [List.size_toArray,List.length_append,zeros_length,hz]; omega,.inl (Nat.zero_le _)⟩,h1,?_⟩
   refine hK _ _ _ ⟨by rw [List.length_append,hol,hul,Nat.add_mul],hle,.inr ⟨b,rfl,hBb,?_⟩⟩ (Fr.st (fun _=>rfl)) (fun _ h=>.inl h)
   have h2:=stB_heap (o:=n * sz) (vs:=us) hh
   rw [h2]
   simp only
   rw [splice_at hol,hul,zeros_drop _ _ _ _ hz (by omega),show c - n - m=c - (n+m) by omega]
 ·refine hK _ _ _ ⟨by rw [List.length_append,hol,hul,Nat.add_mul],hc1,.inr ⟨_,rfl,hB,heap_alloc_at _ _⟩⟩ ?_ (fun k hk=>.inr (by simp only [blkOf,Option.some.injEq] at hk; subst hk; exact Nat.le_refl _))
  exact (Fr.drew _ w).trans1 (Fr.alloc _ _ _)
end Go.GV
namespace Go.Proofs.YthcdionpeoobbaaGreatDoor
open Go.GV Go.RowKit Go.Lib
structure AlienI (w:World) (b:Nat):Prop where
 u:∀ o x,cellAt w b o ≠ some (.int .u8 x)
 t:∀ o t,cellAt w b o ≠ some (.bool t)
theorem by_frI {S:Nat->Prop} {w w':World} {A:Option Addr} {n:Nat} {b:Bs} (h:Sl w 1 A n (bys b)) (f:Fr S w w') (hS:∀ k,S k->AlienI w k):Sl w' 1 A n (bys b) :=
 f.sl h (fun h0 k hk hs=>by_neU h h0 hk (hS k hs).u)
theorem WrP.frI {S:Nat->Prop} {w w':World} {cs:List Value} {x:Wr} (h:WrP w cs x) (f:Fr S w w') (hS:∀ k,S k->AlienI w k):WrP w' cs x:=by
 obtain ⟨B,m,k,e,h1,h2⟩:=h
 exact ⟨B,m,k,e,by_frI h1 f hS,h2⟩
theorem WSl.frI {S:Nat->Prop} {w w':World} {A:Option Addr} {n:Nat} {l:List Wr} (h:WSl w A n l) (f:Fr S w w') (hS:∀ k,S k->AlienI w k):WSl w' A n l:=by
 obtain ⟨vs,h1,h2,h3⟩:=h
 refine ⟨vs,f.sl h1 (fun h0 k hk hs=>?_),h2,h3.mono (fun cs x hx=>hx.frI f hS)⟩
 have ha:=hS k hs
 have gx:l[0]?=some (l[0]'(by omega)):=List.getElem?_eq_getElem (by omega)
 obtain ⟨b,o,rfl,hc,hl,B,m,k',e,_⟩:=ech_rd h1 h3 (by omega) gx (by omega)
 injection hk with hk
 have hk:b=k:=hk
 subst hk
 rw [e] at hc
 exact ha.t _ _ (hc 0 _ rfl)
theorem InoAt.frI {S:Nat->Prop} {w w':World} {cs:List Value} {x:Ino} (h:InoAt w cs x) (f:Fr S w w') (hS:∀ k,S k->AlienI w k):InoAt w' cs x:=by
 obtain ⟨A,n,c,A',n',c',e,h1,h2,h3,h4⟩:=h
 exact ⟨A,n,c,A',n',c',e,by_frI h1 f hS,h2,h3.frI f hS,h4⟩
theorem FilesAt.frI {S:Nat->Prop} {w w':World} {r:Nat} {f:Int->Ino} (h:FilesAt w r f) (g:Fr S w w') (hr:¬ S r) (hS:∀ k,S k->AlienI w k):FilesAt w' r f:=by
 obtain ⟨m,h1,h2⟩:=h
 refine ⟨m,h1.fr g hr,fun id=>?_⟩
 obtain ⟨cs,e,hx⟩:=h2 id
 exact ⟨cs,e,hx.frI g hS⟩
theorem rowW_alien {w:World} {B:Nat} {e:TypeId} {sz:Nat} {z:List Value} {A:Option Addr} {n c:Nat} {vs:List Value} (h:RowW w B e sz z A n c vs) (hv:∀ v ∈ vs,(∀ x,v ≠ .int .u8 x)/\∀ t,v ≠ .bool t) (hz:∀ v ∈ z,(∀ x,v ≠ .int .u8 x)/\∀ t,v ≠ .bool t):∀ k,blkOf A=some k->AlienI w k:=by
 intro k hk
 rcases h.at_ with ⟨rfl,_,_⟩ | ⟨b,rfl,hB,hh⟩
 ·simp [blkOf] at hk
 ·simp only [blkOf,Option.some.injEq] at hk
  subst hk
  have hall:∀ v ∈ vs ++ zeros (c - n) z,(∀ x,v ≠ .int .u8 x)/\∀ t,v ≠ .bool t:=by
   intro v hm
   rcases List.mem_append.1 hm with hm | hm
   ·exact hv v hm
   ·simp only [zeros,List.mem_flatten,List.mem_replicate] at hm
    obtain ⟨l,⟨_,hl⟩,hm⟩:=hm
    rw [hl] at hm
    exact hz v hm
  have hc:∀ o v,cellAt w b o=some v->v ∈ vs ++ zeros (c - n) z:=fun o v ho=>by
   rw [cellAt_blk hh,List.getElem?_toArray] at ho
   exact List.mem_of_getElem? ho
  exact ⟨fun o x ho=>(hall _ (hc o _ ho)).1 x rfl,fun o t ho=>(hall _ (hc o _ ho)).2 t rfl⟩
abbrev Fl:=ByteArray×Bs
def FlP (w:World) (cs:List Value) (x:Fl):Prop:=∃ (B:Option Addr) (m k:Nat),cs=[.string x.1,.slice B m k]/\Sl w 1 B m (bys x.2)/\m<=k
def ISl (w:World) (A:Option Addr) (n:Nat) (l:List Fl):Prop:=∃ vs,Sl w 2 A n vs/\l.length=n/\Ech 2 (FlP w) vs l
theorem FlP.fr0 {w w':World} {cs:List Value} {x:Fl} (h:FlP w cs x) (f:Fr (fun _=>False) w w'):FlP w' cs x:=by
 obtain ⟨B,m,k,e,h1,h2⟩:=h
 exact ⟨B,m,k,e,f.sl h1 (fun _ _ _ h=>h),h2⟩
theorem ISl.fr0 {w w':World} {A:Option Addr} {n:Nat} {l:List Fl} (h:ISl w A n l) (f:Fr (fun _=>False) w w'):ISl w' A n l:=by
 obtain ⟨vs,h1,h2,h3⟩:=h
 exact ⟨vs,f.sl h1 (fun _ _ _ h=>h),h2,h3.mono (fun cs x hx=>hx.fr0 f)⟩
theorem FlP.one {w:World} {cs:List Value} {x:Fl} (h:FlP w cs x):cs.length=2/\(∀ v ∈ cs,v.oneCell'=true)/\∀ v ∈ cs,(∀ x,v ≠ .int .u8 x)/\∀ t,v ≠ .bool t:=by
 obtain ⟨B,m,k,rfl,_⟩:=h
 refine ⟨rfl,fun v hv=>?_,fun v hv=>?_⟩
 ·simp only [List.mem_cons,List.not_mem_nil,or_false] at hv
  rcases hv with rfl | rfl <;> rfl
 ·simp only [List.mem_cons,List.not_mem_nil,or_false] at hv
  rcases hv with rfl | rfl <;> exact ⟨fun x=>Value.noConfusion,fun t=>Value.noConfusion⟩
theorem fl_rdS {w:World} {A:Option Addr} {n:Nat} {l:List Fl} (h:ISl w A n l) {i:Nat} {x:Fl} (hi:l[i]?=some x) (hin:i < n) {K:ByteArray->Prop} (hK:K x.1) :
  dr A fun b o=>gd (decide (0<=(i:Int))) (gd (decide ((i:Int) < ((n:Nat):Int))) (ldS w b (o+((i:Int)).toNat * 2) K)):=by
 obtain ⟨vs,hs,_,hE⟩:=h
 obtain ⟨b,o,rfl,h1,h2,B,m,k,ecs,hB,hmk⟩:=ech_rd hs hE (by omega) hi hin
 refine dr_mk (gd_mk (decide_eq_true (by omega)) (gd_mk (decide_eq_true (by omega)) ⟨x.1,?_,hK⟩))
 rw [Int.toNat_natCast]
 rw [ecs] at h1
 exact h1 0 _ rfl
theorem fl_rdD {w:World} {A:Option Addr} {n:Nat} {l:List Fl} (h:ISl w A n l) {i:Nat} {x:Fl} (hi:l[i]?=some x) (hin:i < n) {K:Nat->Nat->Option Addr->Nat->Nat->Prop} (hK:∀ b o B m k,Sl w 1 B m (bys x.2)->b < w.heap.size->K b o B m k) :
  dr A fun b o=>gd (decide (0<=(i:Int))) (gd (decide ((i:Int) < ((n:Nat):Int))) (ldSl w b ((o+((i:Int)).toNat * 2)+1) (K b o))):=by
 obtain ⟨vs,hs,_,hE⟩:=h
 obtain ⟨b,o,rfl,h1,h2,B,m,k,ecs,hB,hmk⟩:=ech_rd hs hE (by omega) hi hin
 rw [ecs] at h1
 refine dr_mk (gd_mk (decide_eq_true (by omega)) (gd_mk (decide_eq_true (by omega)) ⟨B,m,k,?_,hK b o B m k hB (cellAt_lt (h1 0 _ rfl))⟩))
 rw [Int.toNat_natCast]
 exact h1 1 _ rfl
def KL (it:ByteArray) (id:Int) (l:List Nm):Prop:=findN it l=some id/\∀ x ∈ l,x.2=id->x.1=it
structure Kp (d:Dk) (it:ByteArray) (id:Int) (b:Bs):Prop where
 all:∀ i:Nat,i<=d.F.P.length->KL it id (behF d.F (i:Nat))
 file:d.f id=⟨b,[]⟩
 old:id<=d.last
structure UpB (d d':Dk):Prop where
 fo:d'.F.L.length+d'.F.P.length<=d.F.L.length+d.F.P.length+1
 p:∀ N,(∀ id,(d.f id).p.length<=N)->∀ id,(d'.f id).p.length<=N+1
 last:d.last<=d'.last/\d'.last<=d.last+1
 calls:d.calls<=d'.calls/\d'.calls<=d.calls+1
 lb:d'.lb=d.lb
 lf:d'.lf=d.lf
def sA:ByteArray:=⟨#[97]⟩
def cA:Ch:=⟨1,sA,⟨#[]⟩,1⟩
def FA:Fo:=⟨[],[cA]⟩
def XA:Ino:=⟨[],[⟨false,0,[120,121]⟩]⟩
noncomputable def D1:Dk:={ newD 100 4 with F:=FA,f:=trim FA (newD 100 4).f,last:=1,calls:=1 }
noncomputable def D2:Dk:={ D1 with f:=updF D1.f 1 XA,calls:=2 }
theorem fA:findN sA (nowF FA)=some 1:=by decide
structure ClB (c:Cl):Prop where
 nm:c.nm.size<=1099511627775
 to:c.to.size<=1099511627775
 data:c.data.length<=1099511627775
 n : -9223372036854775808<=c.n/\c.n<=9223372036854775807
structure DkG (d:Dk) (N:Nat):Prop where
 i:DkI d
 b:DkB d N
theorem look_nil (s:ByteArray) (w:World):Calls Tryz.prog 81 #[.pointer none,.string s] w fun e w'=>e=.returned (.tuple #[.slice none 0 0,.int .i64 1])/\w'=w :=
 (F81.of none s w (Q:=fun v w'=>v=.tuple #[.slice none 0 0,.int .i64 1]/\w'=w) (vIf_t rfl ⟨rfl,rfl⟩)).mono (fun e w' ⟨v,he,hv,h⟩=>⟨by rw [he,hv],h⟩)
theorem Size_nil (s:ByteArray) (w:World):Calls Tryz.prog 46 #[.pointer none,.string s] w fun e w'=>e=.returned (.tuple #[.int .i64 0,.int .i64 1])/\w'=w :=
 (F46.of none s w (Q:=fun v w'=>v=.tuple #[.int .i64 0,.int .i64 1]/\w'=w) ((look_nil s w).mono (fun e w' ⟨he,h⟩=>⟨none,0,0,1,he,rfl,h⟩))).mono (fun e w' ⟨v,he,hv,h⟩=>⟨by rw [he,hv],h⟩)
abbrev Kpt:=Int×Ino
def KpP (w:World) (cs:List Value) (x:Kpt):Prop:=∃ u v,cs=[.int .i64 x.1,u,v]/\InoAt w [u,v] x.2
def KtSl (w:World) (A:Option Addr) (n:Nat) (l:List Kpt):Prop:=∃ vs,Sl w 3 A n vs/\l.length=n/\Ech 3 (KpP w) vs l
theorem KpP.fr {S:Nat->Prop} {w w':World} {cs:List Value} {x:Kpt} (h:KpP w cs x) (f:Fr S w w') (hS:∀ k,S k->Alien w k):KpP w' cs x:=by
 obtain ⟨u,v,e,h1⟩:=h
 exact ⟨u,v,e,h1.fr f hS⟩
theorem KpP.frI {S:Nat->Prop} {w w':World} {cs:List Value} {x:Kpt} (h:KpP w cs x) (f:Fr S w w') (hS:∀ k,S k->AlienI w k):KpP w' cs x:=by
 obtain ⟨u,v,e,h1⟩:=h
 exact ⟨u,v,e,h1.frI f hS⟩
theorem KtSl.fr {S:Nat->Prop} {w w':World} {A:Option Addr} {n:Nat} {l:List Kpt} (h:KtSl w A n l) (f:Fr S w w') (hS:∀ k,S k->Alien w k) (hA:∀ k,blkOf A=some k->¬ S k):KtSl w' A n l:=by
 obtain ⟨vs,h1,h2,h3⟩:=h
 exact ⟨vs,f.sl h1 (fun _ k hk=>hA k hk),h2,h3.mono (fun cs x hx=>hx.fr f hS)⟩
theorem KtSl.len {w:World} {A:Option Addr} {n:Nat} {l:List Kpt} (h:KtSl w A n l):l.length=n:=by
 obtain ⟨_,_,h2,_⟩:=h; exact h2
theorem KpP.one {w:World} {cs:List Value} {x:Kpt} (h:KpP w cs x):cs.length=3/\(∀ v ∈ cs,v.oneCell'=true)/\∀ v ∈ cs,(∀ x,v ≠ .int .u8 x)/\∀ t,v ≠ .bool t:=by
 obtain ⟨u,v,rfl,A,n,c,A',n',c',e,_⟩:=h
 injection e with e1 e
 injection e with e2 e
 subst e1; subst e2
 refine ⟨rfl,fun v hv=>?_,fun v hv=>?_⟩
 ·simp only [List.mem_cons,List.not_mem_nil,or_false] at hv
  rcases hv with rfl | rfl | rfl <;> rfl
 ·simp only [List.mem_cons,List.not_mem_nil,or_false] at hv
  rcases hv with rfl | rfl | rfl
  ·exact ⟨(fun x h=>by injection h with h; cases h),fun t=>Value.noConfusion⟩
  ·exact ⟨fun x=>Value.noConfusion,fun t=>Value.noConfusion⟩
  ·exact ⟨fun x=>Value.noConfusion,fun t=>Value.noConfusion⟩
theorem kt_at {w:World} {A:Option Addr} {n:Nat} {l:List Kpt} (h:KtSl w A n l) {i:Nat} {x:Kpt} (hi:l[i]?=some x) (hin:i < n) :
  ∃ b o A1 n1 c1 A2 n2 c2,A=some ⟨b,o,none⟩/\cellsAt w b (o+i * 3) [.int .i64 x.1,.slice A1 n1 c1,.slice A2 n2 c2]/\InoAt w [.slice A1 n1 c1,.slice A2 n2 c2] x.2:=by
 obtain ⟨vs,hs,_,hE⟩:=h
 obtain ⟨b,o,e,h1,h2,u,v,ecs,hX⟩:=ech_rd hs hE (by omega) hi hin
 have hX0:=hX
 obtain ⟨A1,n1,c1,A2,n2,c2,e2,_⟩:=hX0
 injection e2 with e3 e2
 injection e2 with e4 e2
 subst e3; subst e4
 rw [ecs] at h1
 exact ⟨b,o,A1,n1,c1,A2,n2,c2,e,h1,hX⟩
theorem kt_rdI {w:World} {A:Option Addr} {n:Nat} {l:List Kpt} (h:KtSl w A n l) {i:Nat} {x:Kpt} (hi:l[i]?=some x) (hin:i < n) {K:Int->Prop} (hK:K x.1) :
  dr A fun b o=>gd (decide (0<=(i:Int))) (gd (decide ((i:Int) < ((n:Nat):Int))) (ldI .i64 w b (o+((i:Int)).toNat * 3) K)):=by
 obtain ⟨b,o,A1,n1,c1,A2,n2,c2,rfl,hc,hX⟩:=kt_at h hi hin
 refine dr_mk (gd_mk (decide_eq_true (by omega)) (gd_mk (decide_eq_true (by omega)) ⟨x.1,?_,hK⟩))
 rw [Int.toNat_natCast]
 exact hc 0 _ rfl
theorem kt_rdX {w:World} {A:Option Addr} {n:Nat} {l:List Kpt} (h:KtSl w A n l) {i:Nat} {x:Kpt} (hi:l[i]?=some x) (hin:i < n) {K:List Value->Prop} (hK:∀ cs,InoAt w cs x.2->K cs) :
  dr A fun b o=>gd (decide (0<=(i:Int))) (gd (decide ((i:Int) < ((n:Nat):Int))) (ldA 2 w b ((o+((i:Int)).toNat * 3)+1) K)):=by
 obtain ⟨b,o,A1,n1,c1,A2,n2,c2,rfl,hc,hX⟩:=kt_at h hi hin
 refine dr_mk (gd_mk (decide_eq_true (by omega)) (gd_mk (decide_eq_true (by omega)) ⟨[.slice A1 n1 c1,.slice A2 n2 c2],rfl,fun j v hj=>?_,hK _ hX⟩))
 rw [Int.toNat_natCast]
 have:=hc (1+j) v (by rw [Nat.add_comm,List.getElem?_cons_succ]; exact hj)
 rw [<- Nat.add_assoc] at this
 exact this
def rkC (d:Dk) (u v:Value) (A:Option Addr) (n c:Nat) (lv:Int):List Value:=[.int .i64 d.lb,.int .i64 d.lf,u,v,.slice A n c,.int .i64 d.last,.bool d.down,.int .i64 lv,.int .i64 d.calls]
def lvR (o:Option Int) (lv:Int):Prop:=match o with | none=>lv = -1 | some n=>lv=n
structure RkP (w:World) (lo rb:Nat) (d:Dk) (K:List Kpt) (u v:Value) (A:Option Addr) (n c:Nat) (lv:Int):Prop where
 r:RecAt w rb 39 (rkC d u v A n c lv)
 F:FoAt w [u,v] d.F
 K:KtSl w A n K
 far:∀ k,blkOf A=some k->lo<=k
 lv:lvR d.fu lv
 lo:rb < lo
def RkAt (w:World) (lo rb:Nat) (d:Dk) (K:List Kpt):Prop:=∃ u v A n c lv,RkP w lo rb d K u v A n c lv
theorem RkP.alien {w:World} {lo rb:Nat} {d:Dk} {K:List Kpt} {u v:Value} {A:Option Addr} {n c:Nat} {lv:Int} (h:RkP w lo rb d K u v A n c lv):Alien w rb:=by
 obtain ⟨A1,n1,c1,A2,n2,c2,e,_⟩:=h.F
 injection e with e1 e
 injection e with e2 e
 subst e1; subst e2
 have hc:∀ o,cellAt w rb o=(rkC d (.slice A1 n1 c1) (.slice A2 n2 c2) A n c lv)[o]?:=fun o=>by rw [cellAt_blk h.r]; simp
 refine ⟨fun o s hs=>?_,fun o x hx=>?_,fun o t z A1 n1 c1 ht=>?_⟩
 ·rw [hc] at hs
  match o,hs with
  | 0,hs=>cases hs
  | 1,hs=>cases hs
  | 2,hs=>cases hs
  | 3,hs=>cases hs
  | 4,hs=>cases hs
  | 5,hs=>cases hs
  | 6,hs=>cases hs
  | 7,hs=>cases hs
  | 8,hs=>cases hs
  | o+9,hs=>cases hs
 ·rw [hc] at hx
  match o,hx with
  | 0,hx=>cases hx
  | 1,hx=>cases hx
  | 2,hx=>cases hx
  | 3,hx=>cases hx
  | 4,hx=>cases hx
  | 5,hx=>cases hx
  | 6,hx=>cases hx
  | 7,hx=>cases hx
  | 8,hx=>cases hx
  | o+9,hx=>cases hx
 ·obtain ⟨h0,h1,h2⟩:=ht
  rw [hc] at h0 h1 h2
  match o,h0,h1,h2 with
  | 0,h0,h1,h2=>cases h0
  | 1,h0,h1,h2=>cases h0
  | 2,h0,h1,h2=>cases h0
  | 3,h0,h1,h2=>cases h0
  | 4,h0,h1,h2=>cases h0
  | 5,h0,h1,h2=>cases h0
  | 6,h0,h1,h2=>cases h2
  | 7,h0,h1,h2=>cases h0
  | 8,h0,h1,h2=>cases h0
  | o+9,h0,h1,h2=>cases h0
theorem RkP.fr {S:Nat->Prop} {w w':World} {lo rb:Nat} {d:Dk} {K:List Kpt} {u v:Value} {A:Option Addr} {n c:Nat} {lv:Int} (h:RkP w lo rb d K u v A n c lv) (f:Fr S w w') (h1:¬ S rb) (hS:∀ k,S k->Alien w k) (hlo:∀ k,S k->k < lo):RkP w' lo rb d K u v A n c lv :=
 ⟨h.r.fr f h1,fo_fr h.F f hS,h.K.fr f hS (fun k hk hs=>by have:=h.far k hk; have:=hlo k hs; omega),h.far,h.lv,h.lo⟩
theorem RkAt.fr {S:Nat->Prop} {w w':World} {lo rb:Nat} {d:Dk} {K:List Kpt} (h:RkAt w lo rb d K) (f:Fr S w w') (h1:¬ S rb) (hS:∀ k,S k->Alien w k) (hlo:∀ k,S k->k < lo):RkAt w' lo rb d K:=by
 obtain ⟨u,v,A,n,c,lv,h⟩:=h
 exact ⟨u,v,A,n,c,lv,h.fr f h1 hS hlo⟩
theorem RkAt.fr0 {w w':World} {lo rb:Nat} {d:Dk} {K:List Kpt} (h:RkAt w lo rb d K) (f:Fr (fun _=>False) w w'):RkAt w' lo rb d K:=h.fr f (fun h=>h) (fun _ h=>h.elim) (fun _ h=>h.elim)
theorem RkAt.alien {w:World} {lo rb:Nat} {d:Dk} {K:List Kpt} (h:RkAt w lo rb d K):Alien w rb:=by
 obtain ⟨u,v,A,n,c,lv,h⟩:=h
 exact h.alien
theorem RkAt.lt {w:World} {lo rb:Nat} {d:Dk} {K:List Kpt} (h:RkAt w lo rb d K):rb < w.heap.size/\rb < lo:=by
 obtain ⟨u,v,A,n,c,lv,h⟩:=h
 exact ⟨h.r.lt,h.lo⟩
theorem rk_getF {w:World} {lo rb:Nat} {d:Dk} {K:List Kpt} (h:RkAt w lo rb d K) {Q:List Value->Prop} (hQ:∀ cs,FoAt w cs d.F->Q cs):ldA 2 w rb (0+2) Q:=by
 obtain ⟨u,v,A,n,c,lv,h⟩:=h
 refine ⟨[u,v],rfl,h.r.cells (fun j x hj=>?_),hQ _ h.F⟩
 match j,hj with
 | 0,hj=>exact hj
 | 1,hj=>exact hj
 | j+2,hj=>cases hj
theorem rk_getK {w:World} {lo rb:Nat} {d:Dk} {K:List Kpt} (h:RkAt w lo rb d K) {Q:Option Addr->Nat->Nat->Prop} (hQ:∀ A c,KtSl w A K.length K->(∀ k,blkOf A=some k->lo<=k)->Q A K.length c):ldSl w rb (0+4) Q:=by
 obtain ⟨u,v,A,n,c,lv,h⟩:=h
 have hl:=h.K.len
 have hk:=h.K
 subst hl
 exact ⟨A,_,c,h.r.cell (o:=0+4) rfl,hQ A c hk h.far⟩
theorem rk_set {w:World} {lo rb:Nat} {d d':Dk} {K K':List Kpt} {u v u' v':Value} {A A':Option Addr} {n c n' c':Nat} {lv lv':Int} {o:Nat} {vs:List Value} {Q:World->Prop} (h:RkP w lo rb d K u v A n c lv)
  (e:splice (rkC d u v A n c lv) o vs=rkC d' u' v' A' n' c' lv') (hl:o+vs.length<=9) (ho:∀ v ∈ vs,v.oneCell'=true) (hF:FoAt w [u',v'] d'.F) (hK:KtSl w A' n' K') (hfar:∀ k,blkOf A'=some k->lo<=k) (hlv:lvR d'.fu lv')
  (hQ:∀ w',Fr (fun k=>k=rb) w w'->RkP w' lo rb d' K' u' v' A' n' c' lv'->Q w'):st w rb o vs Q:=by
 have ha:=h.alien
 have hlo:=h.lo
 refine h.r.st_mk hl ho (fun r2 f2=>hQ _ f2 ⟨by rw [e] at r2; exact r2,?_,?_,hfar,hlv,hlo⟩)
 ·exact fo_fr hF f2 (fun k hk=>by have hk:k=rb:=hk; rw [hk]; exact ha)
 ·exact hK.fr f2 (fun k hk=>by have hk:k=rb:=hk; rw [hk]; exact ha) (fun k hk h=>by have:=hfar k hk; have h:k=rb:=h; omega)
theorem rk_setF {w:World} {lo rb:Nat} {d:Dk} {K:List Kpt} {F':Fo} {cs:List Value} {Q:World->Prop} (h:RkAt w lo rb d K) (hF:FoAt w cs F') (hQ:∀ w',Fr (fun k=>k=rb) w w'->RkAt w' lo rb { d with F:=F' } K->Q w'):gd (cs.length == 2) (st w rb (0+2) cs Q):=by
 obtain ⟨u,v,A,n,c,lv,h⟩:=h
 obtain ⟨u',v',rfl,hu,hv⟩:=fo_cells hF
 refine gd_mk rfl (rk_set (d':={ d with F:=F' }) (K':=K) (u':=u') (v':=v') (A':=A) (n':=n) (c':=c) (lv':=lv) h rfl (by show 0+2+2<=9; omega) (fun x hx=>?_) hF h.K h.far h.lv (fun w' f' h'=>hQ w' f' ⟨_,_,_,_,_,_,h'⟩))
 simp only [List.mem_cons,List.not_mem_nil,or_false] at hx
 rcases hx with rfl | rfl
 ·exact hu
 ·exact hv
def getK (K:List Kpt) (id:Int):Ino:=match K.find? (fun x=>decide (x.1=id)) with | some x=>x.2 | none=>zI
theorem getK_map {l:List Int} {f:Int->Ino} (h:∀ id,id ∉ l->f id=zI) (id:Int):getK (l.map fun k=>(k,f k)) id=f id:=by
 unfold getK
 have key:∀ l:List Int,(l.map fun k=>(k,f k)).find? (fun x=>decide (x.1=id))=if id ∈ l then some (id,f id) else none:=by
  intro l
  induction l with
  | nil=>rfl
  | cons k r ih =>
   rw [List.map_cons,List.find?_cons]
   by_cases hk:k=id
   ·subst hk; simp
   ·have:decide (k=id)=false:=decide_eq_false hk
    simp only [this,ih,List.mem_cons,show ¬ id=k from fun e=>hk e.symm,false_or]
 rw [key]
 by_cases hm:id ∈ l
 ·rw [if_pos hm]
 ·rw [if_neg hm]; exact (h id hm).symm
theorem getK_at {K:List Kpt} {id:Int} {i:Nat} {x:Kpt} (hi:K[i]?=some x) (hx:x.1=id) (hlo:∀ y ∈ K.take i,y.1 ≠ id):getK K id=x.2:=by
 unfold getK
 have e:K.find? (fun x=>decide (x.1=id))=some x:=by
  have h1:K=K.take i ++ x :: K.drop (i+1):=by rw [<- drop_at hi,List.take_append_drop]
  rw [h1,List.find?_append,List.find?_eq_none.2 (fun y hy=>by simpa using hlo y hy),List.find?_cons,decide_eq_true hx]; rfl
 rw [e]
theorem getK_none {K:List Kpt} {id:Int} (h:∀ y ∈ K,y.1 ≠ id):getK K id=zI:=by
 unfold getK
 rw [List.find?_eq_none.2 (fun y hy=>by simpa using h y hy)]
set_option maxHeartbeats 1000000 in
theorem get_calls (lo rb:Nat) (d:Dk) (K:List Kpt) (id:Int) (w:World) (h:RkAt w lo rb d K) (hK:K.length<=549755813888) :
  Calls Tryz.prog 61 #[.pointer (some ⟨rb,0,none⟩),.int .i64 id] w fun e w'=>Fr (fun _=>False) w w'/\∃ cs,e=.returned (ofL cs)/\InoAt w' cs (getK K id):=by
 refine (F61.of (some ⟨rb,0,none⟩) id w (Q:=fun v w'=>Fr (fun _=>False) w w'/\∃ cs,v=ofL cs/\InoAt w' cs (getK K id)) ?_).mono (fun e w' ⟨v,he,hf,cs,hv,h⟩=>⟨hf,cs,by rw [he,hv],h⟩)
 refine rec_new (fun b1 w2 f1 hb1 r1=>?_)
 have h2:=h.fr0 f1
 have hs1:=f1.size
 refine jnC_mk (loop_rule (fun s x=>x=w2/\∃ i:Nat,i<=K.length/\s=(some ⟨rb,0,none⟩,id,(b1,0),(i:Int),())/\∀ y ∈ K.take i,y.1 ≠ id) (fun s _=>(K.length - s.2.2.2.1).toNat) ?_ _ _ ⟨rfl,0,by omega,rfl,fun y hy=>by simp at hy⟩)
 rintro s x C ⟨rfl,i,hi,rfl,hlo⟩ hC _
 have fin:∀ {u v:Value} {y:Ino},InoAt x [u,v] y->([u,v]:List Value).length=2->(∀ z ∈ ([u,v]:List Value),z.oneCell'=true)->y=getK K id->gd (([u,v]:List Value).length == 2) (st x b1 0 [u,v] fun w24=>ldA 2 w24 b1 0 fun a25=>Fr (fun _=>False) w w24/\∃ cs,ofL a25=ofL cs/\InoAt w24 cs (getK K id)):=by
  intro u v y hy h2l h1l e
  refine ans_mk r1 rfl h2l h1l (fun w' f'=>⟨f1.trans f' (fun _ _ h=>h) (fun k hk h=>by have h:k=b1:=h; omega),[u,v],rfl,?_⟩)
  rw [<- e]
  exact hy.fr f' (fun k hk=>by have hk:k=b1:=hk; rw [hk]; exact two_alien r1)
 refine dr_mk (rk_getK h2 (fun A c hA hfar=>vIf_mk (fun hlt=>?_) (fun hge=>?_)))
 ·have hlt:(i:Int) < (K.length:Int):=of_decide_eq_true hlt
  have gi:K[i]?=some (K[i]'(by omega)):=List.getElem?_eq_getElem (by omega)
  generalize K[i]'(by omega)=y at gi
  refine dr_mk (rk_getK h2 (fun A2 c2 hA2 _=>kt_rdI hA2 gi (by omega) (vIf_mk (fun he=>?_) (fun he=>?_))))
  ·have he:y.1=id:=by simpa using he
   refine dr_mk (rk_getK h2 (fun A3 c3 hA3 _=>kt_rdX hA3 gi (by omega) (fun cs hX=>?_)))
   have hone:=ino_one hX
   have hX0:=hX
   obtain ⟨A1,n1,c1,A2,n2,c2,rfl,_⟩:=hX0
   exact fin hX rfl hone.2 (getK_at gi he hlo).symm
  ·have he:¬ y.1=id:=by simpa using he
   refine jnC_mk (hC _ _ ⟨rfl,i+1,by omega,by rw [ei i (by omega)],fun z hz=>?_⟩ ?_)
   ·rw [List.take_add_one,gi] at hz
    rcases List.mem_append.1 hz with hz | hz
    ·exact hlo z hz
    ·have hz:z=y:=by simpa using hz
     rw [hz]; exact he
   ·show ((K.length:Int) - IntKind.wrap .i64 ((i:Int)+1)).toNat < ((K.length:Int) - (i:Int)).toNat
    rw [ei i (by omega)]; omega
 ·have hge:¬ (i:Int) < (K.length:Int):=of_decide_eq_false hge
  have eT:K.take i=K:=List.take_of_length_le (by omega)
  rw [eT] at hlo
  exact fin (zI_at x) rfl (fun z hz=>by simp at hz; rcases hz with rfl | rfl <;> rfl) (getK_none hlo).symm
abbrev ZK:List Value:=[Value.int .i64 0,Value.slice none 0 0,Value.slice none 0 0]
theorem zk_no:∀ v ∈ ZK,(∀ x,v ≠ .int .u8 x)/\∀ t,v ≠ .bool t:=by
 intro v hv
 simp only [List.mem_cons,List.not_mem_nil,or_false] at hv
 rcases hv with rfl | rfl | rfl
 ·exact ⟨(fun x h=>by injection h with h; cases h),fun t=>Value.noConfusion⟩
 ·exact ⟨fun x=>Value.noConfusion,fun t=>Value.noConfusion⟩
 ·exact ⟨fun x=>Value.noConfusion,fun t=>Value.noConfusion⟩
def KD (d:Dk):List Kpt:=(idsF d.F).map fun id=>(id,d.f id)
theorem KD_len {d:Dk} (hb:FoB d.F):(KD d).length<=549755813888:=by
 have:=ids_max hb
 unfold KD
 rw [List.length_map]; omega
def RkD (w:World) (lo rb:Nat) (d:Dk):Prop:=RkAt w lo rb d (KD d)
theorem rk_setN {w:World} {lo rb:Nat} {d d':Dk} {K:List Kpt} {u v:Value} {A:Option Addr} {n c:Nat} {lv lv':Int} {o:Nat} {x:Value} {Q:World->Prop} (h:RkP w lo rb d K u v A n c lv)
  (e:splice (rkC d u v A n c lv) o [x]=rkC d' u v A n c lv') (hl:o+1<=9) (h1:x.oneCell'=true) (hF:d'.F=d.F) (hlv:lvR d'.fu lv')
  (hQ:∀ w',Fr (fun k=>k=rb) w w'->RkP w' lo rb d' K u v A n c lv'->Q w'):st w rb o [x] Q :=
 rk_set (d':=d') (K':=K) (u':=u) (v':=v) (A':=A) (n':=n) (c':=c) (lv':=lv') h e hl (fun z hz=>by simp at hz; rw [hz]; exact h1) (by rw [hF]; exact h.F) h.K h.far hlv hQ
theorem rBytes_calls (lo rb:Nat) (d:Dk) (s:ByteArray) (w:World) (h:RkD w lo rb d) (hb:FoB d.F) (hI:DkI d) (hp:∀ id,(d.f id).p.length<=349525) :
  Calls Tryz.prog 31 #[.pointer (some ⟨rb,0,none⟩),.string s] w fun e w'=>Fr (fun _=>False) w w'/\∃ B k,e=.returned (.tuple #[.slice B (lookD d s).1.length k,.int .i64 (lookD d s).2])/\Sl w' 1 B (lookD d s).1.length (bys (lookD d s).1)/\(lookD d s).1.length<=k:=by
 refine (F31.of (some ⟨rb,0,none⟩) s w (Q:=fun v w'=>Fr (fun _=>False) w w'/\∃ B k,v=.tuple #[.slice B (lookD d s).1.length k,.int .i64 (lookD d s).2]/\Sl w' 1 B (lookD d s).1.length (bys (lookD d s).1)/\(lookD d s).1.length<=k) ?_).mono (fun e w' ⟨v,he,hf,B,k,hv,h⟩=>⟨hf,B,k,by rw [he,hv],h⟩)
 have h0:=h
 obtain ⟨u,v,A,n,c,lv,hq⟩:=h0
 have hKl:=KD_len hb
 refine dr_mk ⟨d.down,hq.r.cell (o:=0+6) rfl,vIf_mk (fun hd=>?_) (fun hd=>dr_mk (rk_getF h (fun cs hF=>(rfindF_calls cs d.F s w hF hb).mono ?_)))⟩
 ·have e:lookD d s=([],11):=by unfold lookD; rw [if_pos hd]
  rw [e]
  exact ⟨Fr.refl _ _,none,0,rfl,Sl.nil _ _ _,Nat.le_refl _⟩
 ·have hd:d.down=false:=hd
  rintro e w7 ⟨rfl,f7⟩
  refine ⟨_,_,rfl,?_⟩
  cases hfn:findN s (nowF d.F) with
  | none =>
   have eL:lookD d s=([],6):=by unfold lookD; rw [if_neg (by rw [hd]; simp),hfn]
   rw [eL]
   exact vIf_t rfl ⟨f7,none,0,rfl,Sl.nil _ _ _,Nat.le_refl _⟩
  | some id =>
   have eL:lookD d s=(nowI (d.f id),0):=by unfold lookD; rw [if_neg (by rw [hd]; simp),hfn]
   rw [eL]
   refine vIf_f rfl ((get_calls lo rb d (KD d) id w7 (RkAt.fr0 h f7) hKl).mono ?_)
   have egk:getK (KD d) id=d.f id:=getK_map hI.out id
   rw [egk]
   rintro e w11 ⟨f11,a13,rfl,hX⟩
   have ho:=ino_one hX
   refine ⟨a13,rfl,var_new rfl ho.1 ho.2 (fun b14 w16 f16 hb14 r14=>?_)⟩
   have hX16:=hX.fr0 f16
   obtain ⟨X1,m1,k1,X2,m2,k2,rfl,x1,x2,x3,x4⟩:=hX16
   have hp2:=wsl_n x3
   have hpi:=hp id
   refine ⟨_,_,_,r14.cell (o:=0) rfl,_,_,_,r14.cell (o:=0+1) rfl,(rall_calls X1 m1 k1 (d.f id).b X2 m2 k2 (d.f id).p w16 x1 x3 (hI.ino id).b (by omega) (hI.ino id).d).mono ?_⟩
   rintro e w23 ⟨f23,B,k,rfl,hr⟩
   exact ⟨B,_,k,rfl,((f7.trans1 f11).trans1 f16).trans1 f23,B,k,rfl,hr.sl,hr.le⟩
open Classical in
noncomputable def lodS (d:Dk) (x:Fl):Dk:=if (findN x.1 (nowF d.F)).isSome=true\/¬ DiskP x.1\/x.2.length > 1048576 then d else { d with last:=d.last+1,F:=⟨d.F.L ++ [(x.1,d.last+1)],[]⟩,f:=updF d.f (d.last+1) ⟨x.2,[]⟩ }
noncomputable def lodF (lb lf:Int) (l:List Fl):Dk:=l.foldl lodS (newD lb lf)
noncomputable def loadD (lb lf:Int) (l:List Fl):Dk:={ lodF lb lf l with F:=⟨nowF (lodF lb lf l).F,[]⟩ }
structure LdI (d:Dk) (lb lf:Int) (N:Nat):Prop where
 P:d.F.P=[]
 st:d.down=false/\d.fu=none/\d.calls=0/\d.lb=lb/\d.lf=lf
 len:d.last=d.F.L.length/\d.F.L.length<=N
 ids:∀ id,(∃ nm,(nm,id) ∈ d.F.L) ↔ 1<=id/\id<=d.last
 dis:∀ x ∈ d.F.L,findN x.1 d.F.L=some x.2
 out:∀ id,¬ (1<=id/\id<=d.last)->d.f id=zI
 ino:∀ id,InoB (d.f id)/\(d.f id).p=[]
theorem nowF_nil {F:Fo} (h:F.P=[]):nowF F=lastN F.L:=by
 rw [nowF_at,h]; rfl
theorem new_L (lb lf:Int):LdI (newD lb lf) lb lf 0:=by
 refine ⟨rfl,⟨rfl,rfl,rfl,rfl,rfl⟩,⟨rfl,Nat.le_refl _⟩,fun id=>⟨(fun ⟨_,h⟩=>by cases h),fun h=>?_⟩,fun x hx=>(by cases hx),fun id _=>rfl,fun id=>⟨zI_B,rfl⟩⟩
 have h:1<=id/\id<=0:=h
 omega
theorem LdI.step {d:Dk} {lb lf:Int} {N:Nat} (h:LdI d lb lf N) (x:Fl):LdI (lodS d x) lb lf (N+1):=by
 unfold lodS
 split
 ·exact ⟨h.P,h.st,⟨h.len.1,by have:=h.len.2; omega⟩,h.ids,h.dis,h.out,h.ino⟩
 ·rename_i hc
  have hf:findN x.1 d.F.L=none:=by
   rw [nowF_nil h.P,lastN_find] at hc
   cases hq:findN x.1 d.F.L with
   | none=>rfl
   | some v=>exact absurd (.inl (by rw [hq]; rfl)) hc
  have hx:x.2.length<=1048576:=by
   by_cases hx:x.2.length<=1048576
   ·exact hx
   ·exact absurd (.inr (.inr (by omega))) hc
  have hl:=h.len
  refine ⟨rfl,h.st,⟨?_,?_⟩,fun id=>?_,fun y hy=>?_,fun id hid=>?_,fun id=>?_⟩
  ·show d.last+1=(((d.F.L ++ [(x.1,d.last+1)]).length:Nat):Int)
   rw [List.length_append,List.length_singleton]; omega
  ·show (d.F.L ++ [(x.1,d.last+1)]).length<=_
   rw [List.length_append,List.length_singleton]; omega
  ·show (∃ nm,(nm,id) ∈ d.F.L ++ [(x.1,d.last+1)]) ↔ 1<=id/\id<=d.last+1
   have hi:=h.ids id
   constructor
   ·rintro ⟨nm,hm⟩
    rcases List.mem_append.1 hm with hm | hm
    ·have:=hi.1 ⟨nm,hm⟩; omega
    ·have:=congrArg Prod.snd (List.mem_singleton.1 hm)
     have this:id=d.last+1:=this
     omega
   ·intro hr
    by_cases he:id=d.last+1
    ·exact ⟨x.1,by rw [he]; simp⟩
    ·obtain ⟨nm,hm⟩:=hi.2 (by omega)
     exact ⟨nm,List.mem_append.2 (.inl hm)⟩
  ·have hy:y ∈ d.F.L ++ [(x.1,d.last+1)]:=hy
   show findN y.1 (d.F.L ++ [(x.1,d.last+1)])=some y.2
   rw [findN_app]
   rcases List.mem_append.1 hy with hm | hm
   ·rw [h.dis y hm]; rfl
   ·rw [List.mem_singleton.1 hm]
    show (findN x.1 d.F.L).or _=_
    rw [hf]
    show findN x.1 [(x.1,d.last+1)]=some (d.last+1)
    simp [findN]
  ·have hid:¬ (1<=id/\id<=d.last+1):=hid
   show updF d.f (d.last+1) ⟨x.2,[]⟩ id=zI
   unfold updF
   rw [if_neg (by omega)]
   exact h.out id (by omega)
  ·show InoB (updF d.f (d.last+1) ⟨x.2,[]⟩ id)/\(updF d.f (d.last+1) ⟨x.2,[]⟩ id).p=[]
   unfold updF
   split
   ·exact ⟨⟨hx,fun y hy=>by cases hy⟩,rfl⟩
   ·exact h.ino id
theorem lod_L (lb lf:Int) (l:List Fl):LdI (lodF lb lf l) lb lf l.length:=by
 have key:∀ (l:List Fl) (d:Dk) (N:Nat),LdI d lb lf N->LdI (l.foldl lodS d) lb lf (N+l.length):=by
  intro l
  induction l with
  | nil=>intro d N h; exact h
  | cons x r ih =>
   intro d N h
   have:=ih (lodS d x) (N+1) (h.step x)
   rw [List.foldl_cons,List.length_cons,show N+(r.length+1)=N+1+r.length by omega]
   exact this
 have:=key l (newD lb lf) 0 (new_L lb lf)
 rw [Nat.zero_add] at this
 exact this
theorem lod_step {l:List Fl} {i:Nat} {x:Fl} (h:l[i]?=some x) (lb lf:Int):lodF lb lf (l.take (i+1))=lodS (lodF lb lf (l.take i)) x:=by
 unfold lodF
 rw [List.take_add_one,h,List.foldl_append]; rfl
def upto (n:Nat):List Int:=(List.range n).map fun (k:Nat)=>((k:Int)+1)
theorem upto_mem {n:Nat} {id:Int}:id ∈ upto n ↔ 1<=id/\id<=n:=by
 unfold upto
 rw [List.mem_map]
 constructor
 ·rintro ⟨k,hk,rfl⟩
  have:=List.mem_range.1 hk
  omega
 ·intro h
  exact ⟨(id - 1).toNat,List.mem_range.2 (by omega),by show (((id - 1).toNat:Nat):Int)+1=id; omega⟩
theorem upto_asc (n:Nat):AscI (upto n):=by
 unfold upto
 refine List.Pairwise.map _ (fun a b (h:a < b)=>by omega) List.pairwise_lt_range
theorem upto_succ (n:Nat):upto (n+1)=upto n ++ [((n:Int)+1)]:=by unfold upto; rw [List.range_succ,List.map_append]; rfl
theorem asc_find:∀ {l:List Nm} {nm:ByteArray} {id:Int},AscN l->(nm,id) ∈ l->findN nm l=some id
 | [],nm,id,_,h=>by cases h
 | x :: l,nm,id,ha,h=>by
  have ha':=List.pairwise_cons.1 ha
  unfold findN
  rcases List.mem_cons.1 h with e | h
  ·rw [<- e,if_pos rfl]
  ·have hlt:=ha'.1 _ h
   rw [if_neg (fun e=>by rw [e,cmpN_self] at hlt; omega)]
   exact asc_find ha'.2 h
theorem lod_ids {d:Dk} {lb lf:Int} {N:Nat} (h:LdI d lb lf N):idsF ⟨nowF d.F,[]⟩=upto d.F.L.length:=by
 refine AscI.unique (ids_asc _) (upto_asc _) (fun id=>?_)
 rw [upto_mem,ids_one,lastN_id (nowF_asc _),nowF_nil h.P]
 have hl:=h.len.1
 constructor
 ·rintro ⟨nm,hm⟩
  have h1:findN nm d.F.L=some id:=by rw [<- lastN_find]; exact asc_find (lastN_asc _) hm
  have:=(h.ids id).1 ⟨nm,findN_mem h1⟩
  omega
 ·intro hr
  obtain ⟨nm,hm⟩:=(h.ids id).2 (by omega)
  have h1:=h.dis _ hm
  rw [<- lastN_find] at h1
  exact ⟨nm,findN_mem h1⟩
theorem load_I {lb lf:Int} {l:List Fl}:DkI (loadD lb lf l):=by
 have h:=lod_L lb lf l
 have hi:=lod_ids h
 refine ⟨fun id hid=>?_,fun id hid=>?_,fun id=>(h.ino id).1,fun n hn=>?_⟩
 ·have hid:id ∉ idsF ⟨nowF (lodF lb lf l).F,[]⟩:=hid
  rw [hi,upto_mem] at hid
  have:=h.len.1
  exact h.out id (by omega)
 ·have hid:id ∈ idsF ⟨nowF (lodF lb lf l).F,[]⟩:=hid
  rw [hi,upto_mem] at hid
  have:=h.len.1
  show 1<=id/\id<=(lodF lb lf l).last
  omega
 ·have hn:(lodF lb lf l).fu=some n:=hn
  rw [h.st.2.1] at hn; cases hn
theorem load_B {lb lf:Int} {l:List Fl} (h1:lb<=9223372036854775807) (h2:lf<=9223372036854775807):DkB (loadD lb lf l) l.length:=by
 have h:=lod_L lb lf l
 obtain ⟨q1,q2,q3,q4,q5⟩:=h.st
 have hl:=h.len
 have hn:(nowF (lodF lb lf l).F).length<=(lodF lb lf l).F.L.length:=by rw [nowF_nil h.P]; exact lastN_len _
 refine ⟨by show (nowF (lodF lb lf l).F).length+0<=_; omega,fun id=>by show ((lodF lb lf l).f id).p.length<=_; rw [(h.ino id).2]; exact Nat.zero_le _,by show 0<=(lodF lb lf l).last/\(lodF lb lf l).last<=_; omega,by show 0<=(lodF lb lf l).calls/\(lodF lb lf l).calls<=_; omega,fun n hn=>?_,by show (lodF lb lf l).lb<=_; omega,by show (lodF lb lf l).lf<=_; omega⟩
 have hn:(lodF lb lf l).fu=some n:=hn
 rw [q2] at hn; cases hn
theorem fls_no (l:List Nm):∀ v ∈ flt encN l,(∀ x,v ≠ .int .u8 x)/\∀ t,v ≠ .bool t:=by
 intro v hv
 simp only [flt,List.mem_flatten,List.mem_map] at hv
 obtain ⟨_,⟨x,_,rfl⟩,hv⟩:=hv
 simp only [encN,List.mem_cons,List.not_mem_nil,or_false] at hv
 rcases hv with rfl | rfl
 ·exact ⟨fun x=>Value.noConfusion,fun t=>Value.noConfusion⟩
 ·exact ⟨(fun x h=>by injection h with h; cases h),fun t=>Value.noConfusion⟩
abbrev ZN:List Value:=[Value.string (⟨#[]⟩:ByteArray),Value.int .i64 0]
theorem zn_no:∀ v ∈ ZN,(∀ x,v ≠ .int .u8 x)/\∀ t,v ≠ .bool t:=by
 intro v hv
 simp only [List.mem_cons,List.not_mem_nil,or_false] at hv
 rcases hv with rfl | rfl
 ·exact ⟨fun x=>Value.noConfusion,fun t=>Value.noConfusion⟩
 ·exact ⟨(fun x h=>by injection h with h; cases h),fun t=>Value.noConfusion⟩
theorem fl_rdA {w:World} {A:Option Addr} {n:Nat} {l:List Fl} (h:ISl w A n l) {i:Nat} {x:Fl} (hi:l[i]?=some x) (hin:i < n) {K:List Value->Prop} (hK:∀ cs,FlP w cs x->K cs) :
  dr A fun b o=>gd (decide (0<=(i:Int))) (gd (decide ((i:Int) < ((n:Nat):Int))) (ldA 2 w b (o+((i:Int)).toNat * 2) K)):=by
 obtain ⟨vs,hs,_,hE⟩:=h
 exact el_all hs hE (by omega) hi hin (fun cs _ hx=>hK cs hx)
theorem New_raw (lb lf:Int) (w:World) :
  Calls Tryz.prog 13 #[ofL [.int .i64 lb,.int .i64 lf]] w fun e w'=>Fr (fun _=>False) w w'/\∃ db r,e=.returned (.pointer (some ⟨db,0,none⟩))/\RecAt w' db 59 (dkC (newD lb lf) (.slice none 0 0) (.slice none 0 0) r false 0)/\FilesAt w' r (newD lb lf).f/\w.heap.size<=db/\w.heap.size<=r/\db ≠ r:=by
 refine (F13.of _ w (Q:=fun v w'=>Fr (fun _=>False) w w'/\∃ db r,v=.pointer (some ⟨db,0,none⟩)/\RecAt w' db 59 (dkC (newD lb lf) (.slice none 0 0) (.slice none 0 0) r false 0)/\FilesAt w' r (newD lb lf).f/\w.heap.size<=db/\w.heap.size<=r/\db ≠ r) ?_).mono (fun e w' ⟨v,he,hf,db,r,hv,h⟩=>⟨hf,db,r,by rw [he,hv],h⟩)
 refine rec_new (fun b1 w2 f1 hb1 r1=>⟨_,rfl,rec_all r1,mmk_mk (fun w5 hM f5 hs5=>gd_mk rfl (rec_new (fun b6 w7 f7 hb6 r6=>⟨(f1.trans1 f5).trans1 f7,b6,w2.heap.size,rfl,r6,⟨_,hM.fr f7 (fun h=>h),fun id=>⟨ZI,rfl,zI_at _⟩⟩,?_,f1.size,by omega⟩)))⟩)
 have:=f1.size
 omega
theorem dk_alien' {w:World} {db:Nat} {d:Dk} {A1 A2:Option Addr} {n1 c1 n2 c2:Nat} {r:Nat} {fz:Bool} {lv:Int} (h:RecAt w db 59 (dkC d (.slice A1 n1 c1) (.slice A2 n2 c2) r fz lv)):Alien w db:=by
 have hc:∀ o,cellAt w db o=(dkC d (.slice A1 n1 c1) (.slice A2 n2 c2) r fz lv)[o]?:=fun o=>by rw [cellAt_blk h]; simp
 refine ⟨fun o s hs=>?_,fun o x hx=>?_,fun o t z A1 n1 c1 ht=>?_⟩
 ·rw [hc] at hs
  match o,hs with
  | 0,hs=>cases hs
  | 1,hs=>cases hs
  | 2,hs=>cases hs
  | 3,hs=>cases hs
  | 4,hs=>cases hs
  | 5,hs=>cases hs
  | 6,hs=>cases hs
  | 7,hs=>cases hs
  | 8,hs=>cases hs
  | 9,hs=>cases hs
  | o+10,hs=>cases hs
 ·rw [hc] at hx
  match o,hx with
  | 0,hx=>cases hx
  | 1,hx=>cases hx
  | 2,hx=>cases hx
  | 3,hx=>cases hx
  | 4,hx=>cases hx
  | 5,hx=>cases hx
  | 6,hx=>cases hx
  | 7,hx=>cases hx
  | 8,hx=>cases hx
  | 9,hx=>cases hx
  | o+10,hx=>cases hx
 ·obtain ⟨h0,h1,h2⟩:=ht
  rw [hc] at h0 h1 h2
  match o,h0,h1,h2 with
  | 0,h0,h1,h2=>cases h0
  | 1,h0,h1,h2=>cases h0
  | 2,h0,h1,h2=>cases h0
  | 3,h0,h1,h2=>cases h0
  | 4,h0,h1,h2=>cases h0
  | 5,h0,h1,h2=>cases h0
  | 6,h0,h1,h2=>cases h1
  | 7,h0,h1,h2=>cases h2
  | 8,h0,h1,h2=>cases h0
  | 9,h0,h1,h2=>cases h0
  | o+10,h0,h1,h2=>cases h0
structure LdP (w:World) (B db r:Nat) (d:Dk) (A:Option Addr) (c:Nat):Prop where
 re:RecAt w db 59 (dkC d (.slice A d.F.L.length c) (.slice none 0 0) r false 0)
 L:RowW w B 62 2 ZN A d.F.L.length c (flt encN d.F.L)
 fi:FilesAt w r d.f
theorem LdP.fo {w:World} {B db r:Nat} {d:Dk} {A:Option Addr} {c:Nat} (h:LdP w B db r d A c) (hP:d.F.P=[]):FoAt w [.slice A d.F.L.length c,.slice none 0 0] d.F :=
 ⟨_,_,_,_,_,_,rfl,⟨h.L.sl,rfl⟩,⟨by rw [hP]; exact Sl.nil _ _ _,by rw [hP]; rfl⟩,Nat.le_refl _⟩
theorem LdP.fr0 {w w':World} {B db r:Nat} {d:Dk} {A:Option Addr} {c:Nat} (h:LdP w B db r d A c) (f:Fr (fun _=>False) w w'):LdP w' B db r d A c :=
 ⟨h.re.fr f (fun h=>h),f.rowW h.L (fun _ _ h=>h),h.fi.fr f (fun h=>h) (fun _ h=>h.elim)⟩
set_option maxHeartbeats 8000000 in
theorem Load_calls (lb lf:Int) (A:Option Addr) (n c:Nat) (l:List Fl) (w:World) (hl:ISl w A n l) (hn:n<=349525) (hs:∀ x ∈ l,x.1.size<=1099511627775) (hd:∀ x ∈ l,x.2.length<=1099511627775) :
  Calls Tryz.prog 4 #[ofL [.int .i64 lb,.int .i64 lf],.slice A n c] w fun e w'=>Fr (fun _=>False) w w'/\∃ db r,e=.returned (.pointer (some ⟨db,0,none⟩))/\DkAt w' db r (loadD lb lf l)/\w.heap.size<=db/\w.heap.size<=r:=by
 refine (F4.of _ A n c w (Q:=fun v w'=>Fr (fun _=>False) w w'/\∃ db r,v=.pointer (some ⟨db,0,none⟩)/\DkAt w' db r (loadD lb lf l)/\w.heap.size<=db/\w.heap.size<=r) ?_).mono (fun e w' ⟨v,he,hf,db,r,hv,h⟩=>⟨hf,db,r,by rw [he,hv],h⟩)
 have hln:l.length=n:=by obtain ⟨_,_,h2,_⟩:=hl; exact h2
 refine rec_new (fun b1 w2 f1 hb1 r1=>⟨_,rfl,rec_all r1,(New_raw lb lf w2).mono ?_⟩)
 rintro e w4 ⟨f4,db,r,rfl,q1,q3,hdb,hr,hne⟩
 have hs1:=f1.size
 have f04:=f1.trans1 f4
 have hs4:=f04.size
 have hfar:∀ k,k < w.heap.size->¬ DS db r k:=by rintro k hk (rfl | rfl) <;> omega
 have up:∀ {u v:World},Fr (fun _=>False) w u->Fr (DS db r) u v->Fr (fun _=>False) w v:=fun fu fv=>fu.trans fv (fun _ _ h=>h) (fun k hk h=>hfar k hk h)
 have P0:LdP w4 w.heap.size db r (newD lb lf) none 0:=⟨q1,RowW.nil _ _ _ _ _,q3⟩
 refine ⟨_,rfl,jnC_mk (loop_rule (fun s x=>Fr (fun _=>False) w x/\∃ (i:Nat) (B:Option Addr) (k:Nat),i<=n/\s=(some ⟨db,0,none⟩,(A,n,c),(n:Int),(i:Int),())/\LdP x w.heap.size db r (lodF lb lf (l.take i)) B k)
  (fun s _=>(n - s.2.2.2.1).toNat) ?_ _ _ ⟨f04,0,none,0,by omega,rfl,P0⟩)⟩
 rintro s x C ⟨hf,i,B,k,hi,rfl,hP⟩ hC _
 have hI:=lod_L lb lf (l.take i)
 have hti:(l.take i).length=i:=by rw [List.length_take]; omega
 rw [hti] at hI
 have hbF:FoB (lodF lb lf (l.take i)).F:=by
  have:=hI.len
  unfold FoB
  rw [hI.P]
  show (lodF lb lf (l.take i)).F.L.length+0<=349525
  omega
 have ms:((n:Int) - IntKind.wrap .i64 ((i:Int)+1)).toNat < ((n:Int) - (i:Int)).toNat\/¬ i < n:=by
  by_cases h:i < n
  ·left; rw [ei i (by omega)]; omega
  ·exact .inr h
 refine vIf_mk (fun hlt=>?_) (fun hge=>?_)
 ·have hlt:(i:Int) < (n:Int):=of_decide_eq_true hlt
  have gi:l[i]?=some (l[i]'(by omega)):=List.getElem?_eq_getElem (by omega)
  generalize l[i]'(by omega)=y at gi
  have hym:=List.mem_of_getElem? gi
  have hys:=hs y hym
  have hyd:=hd y hym
  have hst:=lod_step gi lb lf
  generalize lodF lb lf (l.take i)=d at hP hI hbF hst
  refine fl_rdA (hl.fr0 hf) gi (by omega) (fun cs hy=>?_)
  have hy1:=hy.one
  refine var_new rfl hy1.1 hy1.2.1 (fun b10 w12 f12 hb10 r10=>dr_mk ?_)
  have fd:Fr (fun _=>False) w12 w12.drew:=Fr.drew _ _
  have f1d:=f12.trans1 fd
  have hfz:=hf.trans1 f1d
  have r10:=r10.fr fd (fun h=>h)
  have hPz:=hP.fr0 f1d
  have hyz:=hy.fr0 f1d
  generalize w12.drew=z at fd f1d hfz r10 hPz hyz ⊢
  have hPr:=hPz.re
  obtain ⟨D,m,k',ecs,hD,hmk⟩:=hyz
  subst ecs
  have hbl:=by_n hD
  have hFz:=hPz.fo hI.P
  have skip:∀ u:World,Fr (fun _=>False) z u->lodS d y=d->jnC C (some ⟨db,0,none⟩,(A,n,c),(n:Int),IntKind.wrap .i64 ((i:Int)+1),()) u:=by
   intro u fu e
   refine jnC_mk (hC _ _ ⟨hfz.trans1 fu,i+1,B,k,by omega,by rw [ei i (by omega)],?_⟩ (ms.resolve_right (by omega)))
   rw [hst,e]
   exact hPz.fr0 fu
  refine ⟨[.slice B d.F.L.length k,.slice none 0 0],rfl,hPr.cells (fun j x hj=>?_),y.1,r10.cell rfl,(find_calls _ d.F y.1 z hFz hbF).mono ?_⟩
  ·match j,hj with
   | 0,hj=>exact hj
   | 1,hj=>exact hj
   | j+2,hj=>cases hj
  rintro e w17 ⟨rfl,f17⟩
  refine ⟨_,_,rfl,vIf_mk (fun hin=>skip w17 f17 ?_) (fun hin=>⟨y.1,(r10.fr f17 (fun h=>h)).cell rfl,(disk_calls y.1 w17 hys).mono ?_⟩)⟩
  ·unfold lodS
   rw [if_pos (.inl hin)]
  have hin:(findN y.1 (nowF d.F)).isSome=false:=hin
  rintro e v ⟨⟨t,rfl,ht⟩,hv17⟩
  have f17:Fr (fun _=>False) z v:=by rw [hv17]; exact f17
  clear hv17
  refine ⟨t,rfl,vIf_mk (fun hno=>skip _ f17 ?_) (fun hok=>⟨D,m,k',(r10.fr f17 (fun h=>h)).cell (o:=0+1) rfl,vIf_mk (fun hbig=>skip _ f17 ?_) (fun hbig=>jnC_mk (fun _=>?_))⟩)⟩
  ·have hno:t=false:=by simpa using hno
   unfold lodS
   rw [if_pos (.inr (.inl (fun h=>by have:=ht.2 h; rw [hno] at this; cases this)))]
  ·have hbig:=of_decide_eq_true hbig
   unfold lodS
   rw [if_pos (.inr (.inr (by omega)))]
  have hok:t=true:=by simpa using hok
  have hbig:=of_decide_eq_false hbig
  have eS:lodS d y={ d with last:=d.last+1,F:=⟨d.F.L ++ [(y.1,d.last+1)],[]⟩,f:=updF d.f (d.last+1) ⟨y.2,[]⟩ }:=by
   unfold lodS
   rw [if_neg (fun h=>h.elim (fun h=>by rw [hin] at h; cases h) (fun h=>h.elim (fun h=>h (ht.1 hok)) (fun h=>by omega)))]
  have hPv:=hPz.fr0 f17
  have hDv:=f17.sl hD (fun _ _ _ h=>h)
  have r10:=r10.fr f17 (fun h=>h)
  have hfv:=hfz.trans1 f17
  have hlen:=hI.len
  have hdbx:=hP.re.lt
  have hs12:=f12.size
  have hb10:b10 ≠ db:=by omega
  have ew:IntKind.wrap .i64 (d.last+1)=d.last+1:=i64_id (by omega) (by omega)
  have hFv:=hPv.fo hI.P
  have hav:=dk_alien hPv.re hFv
  have hSv:∀ q,q=db->Alien v q:=fun q hq=>by rw [hq]; exact hav
  have hlt10:=r10.lt
  refine dr_mk ⟨d.last,hPv.re.cell (o:=0+5) rfl,dr_mk (hPv.re.st_mk (by show 0+5+1<=10; omega) (fun x hx=>by simp at hx; subst hx; rfl) (fun re2 f2=>?_))⟩
  rw [ew] at re2 f2 ⊢
  generalize stB v db (0+5) [Value.int .i64 (d.last+1)]=w33 at re2 f2 ⊢
  have re2:RecAt w33 db 59 (dkC { d with last:=d.last+1 } (.slice B d.F.L.length k) (.slice none 0 0) r false 0):=re2
  have hL2:=f2.rowW hPv.L (fun q hq h=>hPv.L.ne_type hPv.re (by decide) q hq h)
  have hf2:=hPv.fi.fr f2 (fun h=>hne h.symm) hSv
  have hD2:=by_fr hDv f2 hSv
  have r102:=r10.fr f2 (fun h=>hb10 h)
  refine dr_mk ?_
  have fd2:Fr (fun _=>False) w33 w33.drew:=Fr.drew _ _
  have re2:=re2.fr fd2 (fun h=>h)
  have hL2:=fd2.rowW hL2 (fun _ _ h=>h)
  have hf2:=hf2.fr fd2 (fun h=>h) (fun _ h=>h.elim)
  have hD2:=fd2.sl hD2 (fun _ _ _ h=>h)
  have r102:=r102.fr fd2 (fun h=>h)
  have g2:Fr (DS db r) v w33.drew:=(f2.mono (fun _ _ h=>.inl h)).trans fd2 (fun _ _ h=>h) (fun _ _ h=>h.elim)
  generalize w33.drew=w34 at fd2 re2 hL2 hf2 hD2 r102 g2 ⊢
  refine ⟨B,_,k,re2.cell (o:=0+2) rfl,y.1,r102.cell rfl,dr_mk ⟨d.last+1,re2.cell (o:=0+5) rfl,gd_mk rfl ?_⟩⟩
  refine rec_new (fun b43 w44 f44 hb43 r43=>kp_mk f44 re2.lt (fun h=>h) ?_)
  have re3:=re2.fr f44 (fun h=>h)
  have hL3:=f44.rowW hL2 (fun _ _ h=>h)
  have hf3:=hf2.fr f44 (fun h=>h) (fun _ h=>h.elim)
  have hD3:=f44.sl hD2 (fun _ _ _ h=>h)
  have r103:=r102.fr f44 (fun h=>h)
  have hsl43:Sl w44 2 (some ⟨b43,0,none⟩) 1 (encN (y.1,d.last+1)):=⟨rfl,fun _=>⟨b43,0,rfl,rec_all r43⟩⟩
  have hsz44:w.heap.size<=w44.heap.size:=by
   have a1:=hfv.size
   have a2:=g2.size
   have a3:=f44.size
   omega
  refine app_rowW hL3 hsl43.src (encN_o.one _) rfl (by omega) (by omega) hsz44 (fun A45 c47 w48 hL4 f48 hA45=>?_)
  have haL:=rowW_alien hL3 (fls_no _) zn_no
  have re4:=re3.fr f48 (fun h=>hL3.ne_type re3 (by decide) db h rfl)
  have hf4:=hf3.frI f48 (fun h=>by
   have hmm:=hf3
   obtain ⟨g,⟨mm,cc,hmp,_⟩,_⟩:=hmm
   exact hL3.ne_obj hmp r h rfl) haL
  have hD4:=by_frI hD3 f48 haL
  have r104:=r103.fr f48 (fun h=>hL3.ne_type r103 (by decide) b10 h rfl)
  refine dr_mk (re4.st_mk (by show 0+2+1<=10; omega) (fun x hx=>by simp at hx; subst hx; rfl) (fun re5 f5=>?_))
  have al5:Alien w48 db:=by
   exact dk_alien' re4
  have hS5:∀ q,q=db->Alien w48 q:=fun q hq=>by rw [hq]; exact al5
  generalize stB w48 db (0+2) [Value.slice A45 (d.F.L.length+1) c47]=w51 at re5 f5 ⊢
  have re5:RecAt w51 db 59 (dkC { d with last:=d.last+1 } (.slice A45 (d.F.L.length+1) c47) (.slice none 0 0) r false 0):=re5
  have hL5:=f5.rowW hL4 (fun q hq h=>hL4.ne_type re4 (by decide) q hq h)
  have hf5:=hf4.fr f5 (fun h=>hne h.symm) hS5
  have hD5:=by_fr hD4 f5 hS5
  have r105:=r104.fr f5 (fun h=>hb10 h)
  refine dr_mk ?_
  have fd6:Fr (fun _=>False) w51 w51.drew:=Fr.drew _ _
  have re5:=re5.fr fd6 (fun h=>h)
  have hL5:=fd6.rowW hL5 (fun _ _ h=>h)
  have hf5:=hf5.fr fd6 (fun h=>h) (fun _ h=>h.elim)
  have hD5:=fd6.sl hD5 (fun _ _ _ h=>h)
  have r105:=r105.fr fd6 (fun h=>h)
  have g48:Fr (fun _=>False) w w48:=fr_own ((up hfv g2).trans1 f44) (fun q hq=>(hL3.blt hq).1) (Nat.le_refl _) f48
  have g51:Fr (fun _=>False) w w51.drew:=(up g48 (f5.mono (fun _ _ h=>.inl h))).trans1 fd6
  generalize w51.drew=w52 at fd6 re5 hL5 hf5 hD5 r105 g51 ⊢
  have hX:InoAt w52 [.slice D m k',.slice none 0 0] ⟨y.2,[]⟩:=⟨_,_,_,_,_,_,rfl,hD5,hmk,⟨[],Sl.nil _ _ _,rfl,Ech.nil⟩,Nat.le_refl _⟩
  have hXB:InoB ⟨y.2,[]⟩:=⟨by show y.2.length<=_; omega,fun q hq=>by cases hq⟩
  refine ⟨some r,re5.cell (o:=0+4) rfl,dr_mk ⟨d.last+1,re5.cell (o:=0+5) rfl,D,m,k',r105.cell (o:=0+1) rfl,(sync_calls' _ _ w52 hX hXB (by show 0<=_; omega)).mono ?_⟩⟩
  rintro e w61 ⟨f61,cs',rfl,hX'⟩
  refine ⟨cs',rfl,kp_mk f61 re5.lt (fun h=>h) (kp_mk f61 re5.lt (fun h=>h) (files_put (hf5.fr f61 (fun h=>h) (fun _ h=>h.elim)) hX' (fun w64 hF64 f64=>?_)))⟩
  have hFi61:=hf5.fr f61 (fun h=>h) (fun _ h=>h.elim)
  refine jnC_mk (hC _ _ ⟨up (g51.trans1 f61) (f64.mono (fun _ _ h=>.inr h)),i+1,A45,c47,by omega,by rw [ei i (by omega)],?_⟩ (ms.resolve_right (by omega)))
  rw [hst,eS]
  have hll:(d.F.L ++ [(y.1,d.last+1)]).length=d.F.L.length+1:=by rw [List.length_append]; rfl
  have hL6:=f61.rowW hL5 (fun _ _ h=>h)
  have hL7:=f64.rowW hL6 (fun q hq h=>by
   have hmm:=hFi61
   obtain ⟨g,⟨mm,cc,hmp,_⟩,_⟩:=hmm
   exact hL6.ne_obj hmp q hq h)
  refine ⟨?_,?_,?_⟩
  ·show RecAt w64 db 59 (dkC { d with last:=d.last+1 } (.slice A45 (d.F.L ++ [(y.1,d.last+1)]).length c47) (.slice none 0 0) r false 0)
   rw [hll]
   exact (re5.fr f61 (fun h=>h)).fr f64 (fun h=>hne h)
  ·show RowW w64 _ _ 2 ZN A45 (d.F.L ++ [(y.1,d.last+1)]).length c47 (flt encN (d.F.L ++ [(y.1,d.last+1)]))
   rw [hll,flt_app,flt_one]
   exact hL7
  ·exact hF64
 ·have hge:¬ (i:Int) < (n:Int):=of_decide_eq_false hge
  have eT:l.take i=l:=List.take_of_length_le (by omega)
  rw [eT] at hP hI hbF
  have hFx:=hP.fo hI.P
  have hDk:DkAt x db r (lodF lb lf l):=⟨_,_,_,_,hP.re,hFx,hP.fi,by rw [hI.st.2.1]; rfl⟩
  refine dr_mk (dk_getF hDk (fun cs hF=>(sync_calls cs _ x hF hbF).mono ?_))
  rintro e w69 ⟨f69,cs',rfl,hF'⟩
  refine ⟨cs',rfl,dr_mk (dk_setF (hDk.fr0 f69) hF' (fun w74 f74 h74=>⟨up (hf.trans1 f69) (f74.mono (fun _ _ h=>.inl h)),db,r,rfl,h74,by omega,by omega⟩))⟩
theorem rNew_calls (lb lf:Int) (w:World) :
  Calls Tryz.prog 18 #[ofL [.int .i64 lb,.int .i64 lf]] w fun e w'=>Fr (fun _=>False) w w'/\∃ rb,e=.returned (.pointer (some ⟨rb,0,none⟩))/\RecAt w' rb 39 (rkC (newD lb lf) (.slice none 0 0) (.slice none 0 0) none 0 0 (-1))/\w.heap.size<=rb:=by
 refine (F18.of _ w (Q:=fun v w'=>Fr (fun _=>False) w w'/\∃ rb,v=.pointer (some ⟨rb,0,none⟩)/\RecAt w' rb 39 (rkC (newD lb lf) (.slice none 0 0) (.slice none 0 0) none 0 0 (-1))/\w.heap.size<=rb) ?_).mono (fun e w' ⟨v,he,hf,rb,hv,h⟩=>⟨hf,rb,by rw [he,hv],h⟩)
 refine rec_new (fun b1 w2 f1 hb1 r1=>⟨_,rfl,rec_all r1,gd_mk rfl (rec_new (fun b4 w5 f5 hb4 r4=>⟨f1.trans1 f5,b4,rfl,r4,?_⟩))⟩)
 have:=f1.size
 omega
theorem kp_no {w:World} {vs:List Value} {l:List Kpt} (h:vs.length=l.length * 3) (hE:Ech 3 (KpP w) vs l):∀ v ∈ vs,(∀ x,v ≠ .int .u8 x)/\∀ t,v ≠ .bool t:=by
 intro v hv
 obtain ⟨j,hj⟩:=List.mem_iff_getElem?.1 hv
 have hjl:=(List.getElem?_eq_some_iff.1 hj).1
 have gx:l[j / 3]?=some (l[j / 3]'(by omega)):=List.getElem?_eq_getElem (by omega)
 have hw:=hE (j / 3) _ gx
 refine hw.one.2.2 v (List.mem_iff_getElem?.2 ⟨j % 3,?_⟩)
 rw [chk_get (by omega),show j / 3 * 3+j % 3=j by omega]
 exact hj
def KU (d:Dk):List Kpt:=(upto d.F.L.length).map fun id=>(id,d.f id)
structure RlP (w:World) (lo rb:Nat) (d:Dk) (A:Option Addr) (c:Nat) (A':Option Addr) (c':Nat) (vs:List Value):Prop where
 re:RecAt w rb 39 (rkC d (.slice none 0 0) (.slice none 0 0) A' d.F.L.length c' (-1))
 L:RowW w lo 62 2 ZN A d.F.L.length c (flt encN d.F.L)
 K:RowW w lo 70 3 ZK A' d.F.L.length c' vs
 E:Ech 3 (KpP w) vs (KU d)
theorem RlP.fr0 {w w':World} {lo rb:Nat} {d:Dk} {A:Option Addr} {c:Nat} {A':Option Addr} {c':Nat} {vs:List Value} (h:RlP w lo rb d A c A' c' vs) (f:Fr (fun _=>False) w w'):RlP w' lo rb d A c A' c' vs :=
 ⟨h.re.fr f (fun h=>h),f.rowW h.L (fun _ _ h=>h),f.rowW h.K (fun _ _ h=>h),h.E.mono (fun cs z hz=>hz.fr f (fun _ h=>h.elim))⟩
theorem KU_len (d:Dk):(KU d).length=d.F.L.length:=by simp [KU,upto]
theorem rk_alien' {w:World} {rb:Nat} {d:Dk} {A1 A2:Option Addr} {n1 c1 n2 c2:Nat} {A:Option Addr} {n c:Nat} {lv:Int} (h:RecAt w rb 39 (rkC d (.slice A1 n1 c1) (.slice A2 n2 c2) A n c lv)):Alien w rb:=by
 have hc:∀ o,cellAt w rb o=(rkC d (.slice A1 n1 c1) (.slice A2 n2 c2) A n c lv)[o]?:=fun o=>by rw [cellAt_blk h]; simp
 refine ⟨fun o s hs=>?_,fun o x hx=>?_,fun o t z A1 n1 c1 ht=>?_⟩
 ·rw [hc] at hs
  match o,hs with
  | 0,hs=>cases hs
  | 1,hs=>cases hs
  | 2,hs=>cases hs
  | 3,hs=>cases hs
  | 4,hs=>cases hs
  | 5,hs=>cases hs
  | 6,hs=>cases hs
  | 7,hs=>cases hs
  | 8,hs=>cases hs
  | o+9,hs=>cases hs
 ·rw [hc] at hx
  match o,hx with
  | 0,hx=>cases hx
  | 1,hx=>cases hx
  | 2,hx=>cases hx
  | 3,hx=>cases hx
  | 4,hx=>cases hx
  | 5,hx=>cases hx
  | 6,hx=>cases hx
  | 7,hx=>cases hx
  | 8,hx=>cases hx
  | o+9,hx=>cases hx
 ·obtain ⟨h0,h1,h2⟩:=ht
  rw [hc] at h0 h1 h2
  match o,h0,h1,h2 with
  | 0,h0,h1,h2=>cases h0
  | 1,h0,h1,h2=>cases h0
  | 2,h0,h1,h2=>cases h0
  | 3,h0,h1,h2=>cases h0
  | 4,h0,h1,h2=>cases h0
  | 5,h0,h1,h2=>cases h0
  | 6,h0,h1,h2=>cases h2
  | 7,h0,h1,h2=>cases h0
  | 8,h0,h1,h2=>cases h0
  | o+9,h0,h1,h2=>cases h0
set_option maxHeartbeats 8000000 in
theorem rLoad_calls (lb lf:Int) (A:Option Addr) (n c:Nat) (l:List Fl) (w:World) (hl:ISl w A n l) (hn:n<=349525) (hs:∀ x ∈ l,x.1.size<=1099511627775) (hd:∀ x ∈ l,x.2.length<=1099511627775) :
  Calls Tryz.prog 6 #[ofL [.int .i64 lb,.int .i64 lf],.slice A n c] w fun e w'=>Fr (fun _=>False) w w'/\∃ lo rb,e=.returned (.pointer (some ⟨rb,0,none⟩))/\RkD w' lo rb (loadD lb lf l)/\w.heap.size<=rb/\lo<=w'.heap.size:=by
 refine (F6.of _ A n c w (Q:=fun v w'=>Fr (fun _=>False) w w'/\∃ lo rb,v=.pointer (some ⟨rb,0,none⟩)/\RkD w' lo rb (loadD lb lf l)/\w.heap.size<=rb/\lo<=w'.heap.size) ?_).mono (fun e w' ⟨v,he,hf,lo,rb,hv,h⟩=>⟨hf,lo,rb,by rw [he,hv],h⟩)
 have hln:l.length=n:=by obtain ⟨_,_,h2,_⟩:=hl; exact h2
 refine rec_new (fun b1 w2 f1 hb1 r1=>⟨_,rfl,rec_all r1,(rNew_calls lb lf w2).mono ?_⟩)
 rintro e w4 ⟨f4,rb,rfl,q1,hrb⟩
 have hs1:=f1.size
 have f04:=f1.trans1 f4
 have hs4:=f04.size
 have hlt4:=q1.lt
 have up:∀ {u v:World},Fr (fun _=>False) w u->Fr (fun k=>k=rb) u v->Fr (fun _=>False) w v:=fun fu fv=>fu.trans fv (fun _ _ h=>h) (fun k hk h=>by omega)
 have P0:RlP w4 w4.heap.size rb (newD lb lf) none 0 none 0 []:=⟨q1,RowW.nil _ _ _ _ _,RowW.nil _ _ _ _ _,Ech.nil⟩
 generalize hlo:w4.heap.size=lo at P0 hlt4
 refine ⟨_,rfl,jnC_mk (loop_rule (fun s x=>Fr (fun _=>False) w x/\lo<=x.heap.size/\∃ (i:Nat) (B:Option Addr) (k:Nat) (B':Option Addr) (k':Nat) (vs:List Value),i<=n/\s=((A,n,c),some ⟨rb,0,none⟩,(B,(lodF lb lf (l.take i)).F.L.length,k),(i:Int),())/\RlP x lo rb (lodF lb lf (l.take i)) B k B' k' vs)
  (fun s _=>(n - s.2.2.2.1).toNat) ?_ _ _ ⟨f04,by omega,0,none,0,none,0,[],by omega,rfl,P0⟩)⟩
 rintro s x C ⟨hf,hlox,i,B,k,B',k',vs,hi,rfl,hP⟩ hC _
 have hI:=lod_L lb lf (l.take i)
 have hti:(l.take i).length=i:=by rw [List.length_take]; omega
 rw [hti] at hI
 have hlen:=hI.len
 have hbF:FoB (lodF lb lf (l.take i)).F:=by
  unfold FoB
  rw [hI.P]
  show (lodF lb lf (l.take i)).F.L.length+0<=349525
  omega
 have hFx:FoAt x ([Value.slice B (lodF lb lf (l.take i)).F.L.length k] ++ ([Value.slice none 0 0] ++ [])) (lodF lb lf (l.take i)).F:=⟨_,_,_,_,_,_,rfl,⟨hP.L.sl,rfl⟩,⟨by rw [hI.P]; exact Sl.nil _ _ _,by rw [hI.P]; rfl⟩,Nat.le_refl _⟩
 refine vIf_mk (fun hlt=>?_) (fun hge=>?_)
 ·have hlt:(i:Int) < (n:Int):=of_decide_eq_true hlt
  have gi:l[i]?=some (l[i]'(by omega)):=List.getElem?_eq_getElem (by omega)
  generalize l[i]'(by omega)=y at gi
  have hym:=List.mem_of_getElem? gi
  have hys:=hs y hym
  have hyd:=hd y hym
  have hst:=lod_step gi lb lf
  have ms:((n:Int) - IntKind.wrap .i64 ((i:Int)+1)).toNat < ((n:Int) - (i:Int)).toNat:=by rw [ei i (by omega)]; omega
  generalize lodF lb lf (l.take i)=d at hP hI hbF hst hlen hFx ⊢
  have k8f:∀ u:World,Fr (fun _=>False) x u->lodS d y=d->jnC (F6.k8 (fun v w'=>Fr (fun _=>False) w w'/\∃ lo rb,v=.pointer (some ⟨rb,0,none⟩)/\RkD w' lo rb (loadD lb lf l)/\w.heap.size<=rb/\lo<=w'.heap.size) C) ((A,n,c),some ⟨rb,0,none⟩,(B,d.F.L.length,k),(i:Int),false,()) u:=by
   intro u fu e
   have:=fu.size
   refine jnC_mk (fun _=>vIf_f rfl (jnC_mk (hC _ _ ⟨hf.trans1 fu,by omega,i+1,B,k,B',k',vs,by omega,?_,?_⟩ ms)))
   ·rw [ei i (by omega),hst,e]
   ·rw [hst,e]
    exact hP.fr0 fu
  refine fl_rdS (hl.fr0 hf) gi (by omega) ((rfindF_calls _ d.F y.1 x hFx hbF).mono ?_)
  rintro e w10 ⟨rfl,f10⟩
  refine ⟨_,_,rfl,vIf_mk (fun hin=>?_) (fun hin=>k8f w10 f10 ?_)⟩
  ·have hin:(findN y.1 (nowF d.F)).isSome=false:=by simpa using hin
   refine fl_rdS (hl.fr0 (hf.trans1 f10)) gi (by omega) ((rdisk_calls y.1 w10 hys).mono ?_)
   rintro e v ⟨⟨t,rfl,ht⟩,hv10⟩
   have f10:Fr (fun _=>False) x v:=by rw [hv10]; exact f10
   clear hv10
   refine ⟨t,rfl,vIf_mk (fun hok=>fl_rdD (hl.fr0 (hf.trans1 f10)) gi (by omega) (fun _ _ D m kd hD _=>?_)) (fun hno=>k8f v f10 ?_)⟩
   ·have hok:t=true:=hok
    have hbl:=by_n hD
    cases hbig:decide (((m:Nat):Int)<=1048576) with
    | false =>
     have hbig:=of_decide_eq_false hbig
     refine k8f v f10 ?_
     unfold lodS
     rw [if_pos (.inr (.inr (by omega)))]
    | true =>
     have hbig:=of_decide_eq_true hbig
     have eS:lodS d y={ d with last:=d.last+1,F:=⟨d.F.L ++ [(y.1,d.last+1)],[]⟩,f:=updF d.f (d.last+1) ⟨y.2,[]⟩ }:=by
      unfold lodS
      rw [if_neg (fun h=>h.elim (fun h=>by rw [hin] at h; cases h) (fun h=>h.elim (fun h=>h (ht.1 hok)) (fun h=>by omega)))]
     have hPv:=hP.fr0 f10
     have hfv:=hf.trans1 f10
     have hsv:=f10.size
     have ew:IntKind.wrap .i64 (d.last+1)=d.last+1:=i64_id (by omega) (by omega)
     have hav:=rk_alien' hPv.re
     have hSv:∀ q,q=rb->Alien v q:=fun q hq=>by rw [hq]; exact hav
     refine jnC_mk (fun _=>vIf_t rfl (dr_mk ⟨d.last,hPv.re.cell (o:=0+5) rfl,dr_mk (hPv.re.st_mk (by show 0+5+1<=9; omega) (fun x hx=>by simp at hx; subst hx; rfl) (fun re2 f2=>?_))⟩))
     rw [ew] at re2 f2 ⊢
     generalize stB v rb (0+5) [Value.int .i64 (d.last+1)]=w30 at re2 f2 ⊢
     have re2:RecAt w30 rb 39 (rkC { d with last:=d.last+1 } (.slice none 0 0) (.slice none 0 0) B' d.F.L.length k' (-1)):=re2
     have hL2:=f2.rowW hPv.L (fun q hq h=>hPv.L.ne_type hPv.re (by decide) q hq h)
     have hK2:=f2.rowW hPv.K (fun q hq h=>hPv.K.ne_type hPv.re (by decide) q hq h)
     have hE2:Ech 3 (KpP w30) vs (KU d):=hPv.E.mono (fun cs z hz=>hz.fr f2 hSv)
     dsimp only
     have fd2:Fr (fun _=>False) w30 w30.drew:=Fr.drew _ _
     have re2:=re2.fr fd2 (fun h=>h)
     have hL2:=fd2.rowW hL2 (fun _ _ h=>h)
     have hK2:=fd2.rowW hK2 (fun _ _ h=>h)
     have hE2:Ech 3 (KpP w30.drew) vs (KU d):=hE2.mono (fun cs z hz=>hz.fr fd2 (fun _ h=>h.elim))
     have g2:Fr (fun _=>False) w w30.drew:=(up hfv f2).trans1 fd2
     have hlo2:lo<=w30.drew.heap.size:=by have:=f2.size; have:=fd2.size; omega
     generalize w30.drew=w31 at fd2 re2 hL2 hK2 hE2 g2 hlo2 ⊢
     refine fl_rdS (hl.fr0 g2) gi (by omega) (dr_mk ⟨d.last+1,re2.cell (o:=0+5) rfl,gd_mk rfl (rec_new (fun b37 w38 f38 hb37 r37=>?_))⟩)
     have re3:=re2.fr f38 (fun h=>h)
     have hL3:=f38.rowW hL2 (fun _ _ h=>h)
     have hK3:=f38.rowW hK2 (fun _ _ h=>h)
     have hE3:Ech 3 (KpP w38) vs (KU d):=hE2.mono (fun cs z hz=>hz.fr f38 (fun _ h=>h.elim))
     have g3:=g2.trans1 f38
     have hlo3:lo<=w38.heap.size:=by have:=f38.size; omega
     have hsl37:Sl w38 2 (some ⟨b37,0,none⟩) 1 (encN (y.1,d.last+1)):=⟨rfl,fun _=>⟨b37,0,rfl,rec_all r37⟩⟩
     refine app_rowW hL3 hsl37.src (encN_o.one _) rfl (by omega) (by omega) hlo3 (fun A39 c41 w42 hL4 f42 _=>?_)
     have haL:=rowW_alien hL3 (fls_no _) zn_no
     have re4:=re3.fr f42 (fun h=>hL3.ne_type re3 (by decide) rb h rfl)
     have hK4:=f42.rowW hK3 (fun q hq h=>hL3.ne_row hK3 (by decide) q h hq)
     have hE4:Ech 3 (KpP w42) vs (KU d):=hE3.mono (fun cs z hz=>hz.frI f42 haL)
     have g4:Fr (fun _=>False) w w42:=fr_own g3 (fun q hq=>(hL3.blt hq).1) (by omega) f42
     have hlo4:lo<=w42.heap.size:=by have:=f42.size; omega
     refine dr_mk ?_
     have fd5:Fr (fun _=>False) w42 w42.drew:=Fr.drew _ _
     have re5:=re4.fr fd5 (fun h=>h)
     have hL5:=fd5.rowW hL4 (fun _ _ h=>h)
     have hK5:=fd5.rowW hK4 (fun _ _ h=>h)
     have hE5:Ech 3 (KpP w42.drew) vs (KU d):=hE4.mono (fun cs z hz=>hz.fr fd5 (fun _ h=>h.elim))
     have g5:=g4.trans1 fd5
     have hlo5:lo<=w42.drew.heap.size:=by have:=fd5.size; omega
     generalize w42.drew=w43 at fd5 re5 hL5 hK5 hE5 g5 hlo5 ⊢
     refine ⟨B',_,k',re5.cell (o:=0+4) rfl,dr_mk ⟨d.last+1,re5.cell (o:=0+5) rfl,fl_rdD (hl.fr0 g5) gi (by omega) (fun _ _ D2 m2 kd2 hD2 _=>?_)⟩⟩
     have hbl2:=by_n hD2
     refine copy_b hD2 (by omega) (fun A56 c58 w59 r59 f59=>?_)
     have re6:=re5.fr f59 (fun h=>h)
     refine kp_mk f59 re5.lt (fun h=>h) (kp_mk f59 re5.lt (fun h=>h) (gd_mk rfl (gd_mk rfl (rec_new (fun b60 w61 f61 hb60 r60=>kp_mk (f59.trans1 f61) re5.lt (fun h=>h) ?_)))))
     have f5961:=f59.trans1 f61
     have re7:=re5.fr f5961 (fun h=>h)
     have hL7:=f5961.rowW hL5 (fun _ _ h=>h)
     have hK7:=f5961.rowW hK5 (fun _ _ h=>h)
     have hE7:Ech 3 (KpP w61) vs (KU d):=hE5.mono (fun cs z hz=>hz.fr f5961 (fun _ h=>h.elim))
     have g7:=g5.trans1 f5961
     have hlo7:lo<=w61.heap.size:=by have:=f5961.size; omega
     have r61:=f61.row r59 (fun _ _ h=>h)
     have hkp:KpP w61 [.int .i64 (d.last+1),.slice A56 m2 c58,.slice none 0 0] (d.last+1,⟨y.2,[]⟩):=⟨_,_,rfl,_,_,_,_,_,_,rfl,r61.sl,r61.le,⟨[],Sl.nil _ _ _,rfl,Ech.nil⟩,Nat.le_refl _⟩
     have hsl60:Sl w61 3 (some ⟨b60,0,none⟩) 1 [.int .i64 (d.last+1),.slice A56 m2 c58,.slice none 0 0]:=⟨rfl,fun _=>⟨b60,0,rfl,rec_all r60⟩⟩
     have hno:=kp_no (by rw [KU_len]; exact hK7.len) hE7
     refine app_rowW hK7 hsl60.src hkp.one.2.1 rfl (by omega) (by omega) hlo7 (fun A62 c64 w65 hK8 f65 _=>?_)
     have haK:=rowW_alien hK7 hno zk_no
     have re8:=re7.fr f65 (fun h=>hK7.ne_type re7 (by decide) rb h rfl)
     have hL8:=f65.rowW hL7 (fun q hq h=>hK7.ne_row hL7 (by decide) q h hq)
     have hE8:Ech 3 (KpP w65) vs (KU d):=hE7.mono (fun cs z hz=>hz.frI f65 haK)
     have hkp8:=hkp.frI f65 haK
     have g8:Fr (fun _=>False) w w65:=fr_own g7 (fun q hq=>(hK7.blt hq).1) (by omega) f65
     have hav8:=rk_alien' re8
     have hS8:∀ q,q=rb->Alien w65 q:=fun q hq=>by rw [hq]; exact hav8
     refine dr_mk (re8.st_mk (by show 0+4+1<=9; omega) (fun x hx=>by simp at hx; subst hx; rfl) (fun re9 f9=>?_))
     have hll:(d.F.L ++ [(y.1,d.last+1)]).length=d.F.L.length+1:=by rw [List.length_append]; rfl
     have hlo9:lo<=(stB w65 rb (0+4) [Value.slice A62 (d.F.L.length+1) c64]).heap.size:=by have:=f65.size; have:=f9.size; omega
     refine jnC_mk (hC _ _ ⟨up g8 f9,hlo9,i+1,A39,c41,A62,c64,vs ++ [.int .i64 (d.last+1),.slice A56 m2 c58,.slice none 0 0],by omega,?_,?_⟩ ms)
     ·rw [ei i (by omega),hst,eS]
      show _=(_,_,(A39,(d.F.L ++ [(y.1,d.last+1)]).length,c41),_,())
      rw [hll]
     ·rw [hst,eS]
      have hL9:=f9.rowW hL8 (fun q hq h=>hL8.ne_type re8 (by decide) q hq h)
      have hK9:=f9.rowW hK8 (fun q hq h=>hK8.ne_type re8 (by decide) q hq h)
      refine ⟨?_,?_,?_,?_⟩
      ·show RecAt _ rb 39 (rkC { d with last:=d.last+1 } (.slice none 0 0) (.slice none 0 0) A62 (d.F.L ++ [(y.1,d.last+1)]).length c64 (-1))
       rw [hll]
       exact re9
      ·show RowW _ _ _ 2 ZN A39 (d.F.L ++ [(y.1,d.last+1)]).length c41 (flt encN (d.F.L ++ [(y.1,d.last+1)]))
       rw [hll,flt_app,flt_one]
       exact hL9
      ·show RowW _ _ _ 3 ZK A62 (d.F.L ++ [(y.1,d.last+1)]).length c64 _
       rw [hll]
       exact hK9
      ·have eK:KU { d with last:=d.last+1,F:=⟨d.F.L ++ [(y.1,d.last+1)],[]⟩,f:=updF d.f (d.last+1) ⟨y.2,[]⟩ }=KU d ++ [(d.last+1,⟨y.2,[]⟩)]:=by
        unfold KU
        show (upto (d.F.L ++ [(y.1,d.last+1)]).length).map (fun id=>(id,updF d.f (d.last+1) ⟨y.2,[]⟩ id))=_
        rw [hll,upto_succ,List.map_append]
        congr 1
        ·refine List.map_congr_left (fun id hid=>?_)
         have:=upto_mem.1 hid
         unfold updF
         rw [if_neg (by omega)]
        ·have e1:((d.F.L.length:Nat):Int)+1=d.last+1:=by omega
         rw [e1]
         show [(d.last+1,updF d.f (d.last+1) ⟨y.2,[]⟩ (d.last+1))]=_
         unfold updF
         rw [if_pos rfl]
       rw [eK]
       have hE9:Ech 3 (KpP (stB w65 rb (0+4) [Value.slice A62 (d.F.L.length+1) c64])) vs (KU d):=hE8.mono (fun cs z hz=>hz.fr f9 hS8)
       exact hE9.snoc hK7.len (KU_len d) rfl (hkp8.fr f9 hS8)
   ·have hno:t=false:=hno
    unfold lodS
    rw [if_pos (.inr (.inl (fun h=>by have:=ht.2 h; rw [hno] at this; cases this)))]
  ·have hin:(findN y.1 (nowF d.F)).isSome=true:=by simpa using hin
   unfold lodS
   rw [if_pos (.inl hin)]
 ·have hge:¬ (i:Int) < (n:Int):=of_decide_eq_false hge
  have eT:l.take i=l:=List.take_of_length_le (by omega)
  rw [eT] at hP hI hbF hFx hlen ⊢
  refine (rnow_calls _ _ x hFx hbF).mono ?_
  rintro e w69 ⟨f69,A71,c73,rfl,h71⟩
  have hFn:FoAt w69 ([Value.slice A71 (nowF (lodF lb lf l).F).length c73] ++ ([Value.slice none 0 0] ++ [])) ⟨nowF (lodF lb lf l).F,[]⟩:=fo_of h71
  have hP9:=hP.fr0 f69
  have hRk:RkAt w69 lo rb { lodF lb lf l with F:=⟨[],[]⟩ } (KU (lodF lb lf l)):=by
   refine ⟨_,_,_,_,_,_,hP9.re,⟨_,_,_,_,_,_,rfl,⟨Sl.nil _ _ _,rfl⟩,⟨Sl.nil _ _ _,rfl⟩,Nat.le_refl _⟩,⟨vs,hP9.K.sl,KU_len _,hP9.E⟩,fun q hq=>(hP9.K.blt hq).1,?_,by omega⟩
   show lvR (lodF lb lf l).fu (-1)
   rw [hI.st.2.1]; rfl
  refine ⟨_,_,_,rfl,dr_mk (rk_setF hRk hFn (fun w76 f76 h76=>⟨up (hf.trans1 f69) f76,lo,rb,rfl,?_,by omega,by have:=f69.size; have:=f76.size; omega⟩))⟩
  have eK:KD (loadD lb lf l)=KU (lodF lb lf l):=by
   unfold KD KU
   show (idsF ⟨nowF (lodF lb lf l).F,[]⟩).map _=_
   rw [lod_ids hI]; rfl
  unfold RkD
  rw [eK]
  exact h76
end Go.Proofs.YthcdionpeoobbaaGreatDoor
namespace Go.Proofs.YthcdionpeoobbaaGreatDoor
open Go.GV
def leB (n:Nat):Nat->List UInt8
 | 0=>[]
 | k+1=>UInt8.ofNat (n % 256) :: leB (n / 256) k
def leT:List UInt8->Nat
 | []=>0
 | c :: r=>c.toNat+256 * leT r
theorem leB_len:∀ (k n:Nat),(leB n k).length=k
 | 0,n=>rfl
 | k+1,n=>by rw [leB,List.length_cons,leB_len k]
theorem u8n (n:Nat):(UInt8.ofNat (n % 256)).toNat=n % 256:=by simp
theorem u8n' {n:Nat} (h:n < 256):(UInt8.ofNat n).toNat=n:=by simp; omega
theorem leT_lt:∀ b:List UInt8,leT b < 256 ^ b.length
 | []=>by simp [leT]
 | c :: r=>by
  have h:=leT_lt r
  have hc:c.toNat < 256:=c.toNat_lt
  rw [leT,List.length_cons,Nat.pow_succ]
  omega
theorem leT_leB:∀ (k n:Nat),leT (leB n k)=n % 256 ^ k
 | 0,n=>by simp [leB,leT,Nat.mod_one]
 | k+1,n=>by
  rw [leB,leT,leT_leB k,u8n,Nat.pow_succ,Nat.mul_comm (256 ^ k) 256,Nat.mod_mul]
theorem leB_leT:∀ b:List UInt8,leB (leT b) b.length=b
 | []=>rfl
 | c :: r=>by
  have hc:c.toNat < 256:=c.toNat_lt
  rw [List.length_cons,leB,leT]
  have h1:(c.toNat+256 * leT r) % 256=c.toNat:=by omega
  have h2:(c.toNat+256 * leT r) / 256=leT r:=by omega
  rw [h1,h2,leB_leT r]
  congr 1
  exact UInt8.toNat_inj.1 (u8n' hc)
theorem leB_snoc:∀ (k n:Nat),leB n (k+1)=leB n k ++ [UInt8.ofNat (n / 256 ^ k % 256)]
 | 0,n=>by simp [leB]
 | k+1,n=>by
  rw [leB,leB_snoc k,leB]
  rw [List.cons_append,Nat.div_div_eq_div_mul,Nat.pow_succ,Nat.mul_comm (256 ^ k)]
theorem leT_app:∀ a b:List UInt8,leT (a ++ b)=leT a+256 ^ a.length * leT b
 | [],b=>by simp [leT]
 | c :: a,b=>by
  rw [List.cons_append,leT,leT,leT_app a b,List.length_cons,Nat.pow_succ]
  rw [Nat.mul_add,<- Nat.mul_assoc,Nat.mul_comm 256 (256 ^ a.length)]; omega
def vaGo:Nat->List UInt8->Nat×Nat×Int
 | _,[]=>(0,0,4)
 | i,c :: r =>
  if i=9/\c.toNat > 1 then (0,0,20)
  else if c.toNat >= 128 then (if (vaGo (i+1) r).2.2=0 then (c.toNat % 128+128 * (vaGo (i+1) r).1,(vaGo (i+1) r).2.1+1,0) else (0,0,(vaGo (i+1) r).2.2))
  else if c.toNat=0/\i > 0 then (0,0,3)
  else (c.toNat,1,0)
def vaT (b:List UInt8) (at_:Int):Nat×Int×Int :=
 if at_ < 0\/at_ > (b.length:Int) then (0,0,2)
 else if (vaGo 0 (b.drop at_.toNat)).2.2=0 then ((vaGo 0 (b.drop at_.toNat)).1,at_+((vaGo 0 (b.drop at_.toNat)).2.1:Int),0) else (0,0,(vaGo 0 (b.drop at_.toNat)).2.2)
theorem vaGo_len:∀ (b:List UInt8) (i:Nat),(vaGo i b).2.1<=b.length/\((vaGo i b).2.2=0->1<=(vaGo i b).2.1)
 | [],i=>⟨Nat.le_refl _,fun h=>by simp [vaGo] at h⟩
 | c :: r,i=>by
  have ih:=vaGo_len r (i+1)
  unfold vaGo
  split
  ·exact ⟨Nat.zero_le _,fun h=>by simp at h⟩
  ·split
   ·split
    ·simp only [List.length_cons]; exact ⟨by omega,fun _=>by omega⟩
    ·rename_i h; exact ⟨Nat.zero_le _,fun h'=>absurd h' h⟩
   ·split
    ·exact ⟨Nat.zero_le _,fun h=>by simp at h⟩
    ·simp only [List.length_cons]; exact ⟨by omega,fun _=>by omega⟩
theorem vaGo_err (b:List UInt8) (i:Nat) (h:(vaGo i b).2.2 ≠ 0):vaGo i b=(0,0,(vaGo i b).2.2):=by
 cases b with
 | nil=>rfl
 | cons c r =>
  unfold vaGo at h ⊢
  split
  ·rfl
  ·split
   ·split
    ·rename_i h1 h2 h3
     rw [if_neg h1,if_pos h2,if_pos h3] at h
     exact absurd rfl h
    ·rfl
   ·split
    ·rfl
    ·rename_i h1 h2 h3
     rw [if_neg h1,if_neg h2,if_neg h3] at h
     exact absurd rfl h
def crP:BitVec 32:=0x82f63b78#32
theorem bxc (a b c d:BitVec 32):(a ^^^ b) ^^^ (c ^^^ d)=(a ^^^ c) ^^^ (b ^^^ d):=by
 apply BitVec.eq_of_getLsbD_eq
 intro i _
 simp only [BitVec.getLsbD_xor]
 cases a.getLsbD i <;> cases b.getLsbD i <;> cases c.getLsbD i <;> cases d.getLsbD i <;> rfl
def crF (x:BitVec 32):BitVec 32:=(x >>> 1) ^^^ (if x.getLsbD 0 then crP else 0#32)
theorem crF_xor (a b:BitVec 32):crF (a ^^^ b)=crF a ^^^ crF b:=by
 unfold crF
 rw [BitVec.ushiftRight_xor_distrib,BitVec.getLsbD_xor,bxc]
 congr 1
 cases a.getLsbD 0 <;> cases b.getLsbD 0 <;> rfl
theorem crF_even {x:BitVec 32} (h:x.getLsbD 0=false):crF x=x >>> 1:=by
 unfold crF
 rw [h]
 show x >>> 1 ^^^ 0#32=x >>> 1
 rw [BitVec.xor_zero]
def crF4 (x:BitVec 32):BitVec 32:=crF (crF (crF (crF x)))
theorem crF4_xor (a b:BitVec 32):crF4 (a ^^^ b)=crF4 a ^^^ crF4 b:=by
 unfold crF4
 rw [crF_xor,crF_xor,crF_xor,crF_xor]
theorem crF4_hi {x:BitVec 32} (h:∀ k,k < 4->x.getLsbD k=false):crF4 x=x >>> 4:=by
 have g:∀ k,k < 4->(x >>> k).getLsbD 0=false:=fun k hk=>by rw [BitVec.getLsbD_ushiftRight,Nat.add_zero]; exact h k hk
 unfold crF4
 have h0:=crF_even (g 0 (by omega))
 have h1:=crF_even (g 1 (by omega))
 have h2:=crF_even (g 2 (by omega))
 have h3:=crF_even (g 3 (by omega))
 rw [<- BitVec.shiftRight_add] at h0 h1 h2 h3
 rw [BitVec.ushiftRight_zero] at h0
 rw [h0,h1,h2,h3]
theorem crF4_tab (y:BitVec 32):crF4 y=(y >>> 4) ^^^ crF4 (y &&& 15#32):=by
 have e:y=(y ^^^ (y &&& 15#32)) ^^^ (y &&& 15#32):=by rw [BitVec.xor_assoc,BitVec.xor_self,BitVec.xor_zero]
 have hm:∀ k,(15#32).getLsbD k=decide (k < 4):=by
  intro k
  by_cases hk:k < 32
  ·have:∀ j:Fin 32,(15#32).getLsbD j.val=decide (j.val < 4):=by decide
   exact this ⟨k,hk⟩
  ·rw [BitVec.getLsbD_of_ge _ _ (by omega),decide_eq_false (by omega)]
 have hlo:∀ k,k < 4->(y ^^^ (y &&& 15#32)).getLsbD k=false:=fun k hk=>by
  rw [BitVec.getLsbD_xor,BitVec.getLsbD_and,hm,decide_eq_true hk]; simp
 have hsh:(y ^^^ (y &&& 15#32)) >>> 4=y >>> 4:=by
  apply BitVec.eq_of_getLsbD_eq
  intro i _
  rw [BitVec.getLsbD_ushiftRight,BitVec.getLsbD_ushiftRight,BitVec.getLsbD_xor,BitVec.getLsbD_and,hm,decide_eq_false (by omega)]; simp
 have h1:crF4 y=crF4 (y ^^^ (y &&& 15#32)) ^^^ crF4 (y &&& 15#32):=by rw [<- crF4_xor,<- e]
 rw [h1,crF4_hi hlo,hsh]
def bitB (b:Bool):BitVec 32:=if b then 1#32 else 0#32
def crBits (c:BitVec 32) (l:List Bool):BitVec 32:=l.foldl (fun c b=>crF (c ^^^ bitB b)) c
theorem bitB_get (b:Bool) (i:Nat):(bitB b).getLsbD i=(b && decide (i=0)):=by
 unfold bitB
 cases b
 ·simp
 ·by_cases hi:i < 32
  ·have:∀ j:Fin 32,(1#32).getLsbD j.val=decide (j.val=0):=by decide
   exact this ⟨i,hi⟩
  ·rw [BitVec.getLsbD_of_ge _ _ (by omega),decide_eq_false (by omega)]; rfl
theorem crF_bit (b:Bool) (k:Nat) (hk:k+1 < 32):crF (bitB b <<< (k+1))=bitB b <<< k:=by
 have h:(bitB b <<< (k+1)).getLsbD 0=false:=by rw [BitVec.getLsbD_shiftLeft]; simp
 rw [crF_even h]
 apply BitVec.eq_of_getLsbD_eq
 intro i hi
 simp only [BitVec.getLsbD_ushiftRight,BitVec.getLsbD_shiftLeft,bitB_get]
 by_cases h1:i < k
 ·have h2:1+i < k+1:=by omega
  simp [h1,h2]
 ·have h2:¬ 1+i < k+1:=by omega
  have e:1+i - (k+1)=i - k:=by omega
  rw [e]
  by_cases h3:i - k=0
  ·have h4:1+i < 32:=by omega
   simp [h1,h2,h3,h4,hi]
  ·simp [h3]
def nib (b0 b1 b2 b3:Bool):BitVec 32:=bitB b0 ^^^ ((bitB b1 <<< 1) ^^^ ((bitB b2 <<< 2) ^^^ (bitB b3 <<< 3)))
theorem crBits4 (c:BitVec 32) (b0 b1 b2 b3:Bool):crBits c [b0,b1,b2,b3]=crF4 (c ^^^ nib b0 b1 b2 b3):=by
 have s1:∀ b,crF (bitB b <<< 1)=bitB b:=fun b=>by have:=crF_bit b 0 (by omega); rw [BitVec.shiftLeft_zero] at this; exact this
 have s2:∀ b,crF (bitB b <<< 2)=bitB b <<< 1:=fun b=>crF_bit b 1 (by omega)
 have s3:∀ b,crF (bitB b <<< 3)=bitB b <<< 2:=fun b=>crF_bit b 2 (by omega)
 show crF (crF (crF (crF (c ^^^ bitB b0) ^^^ bitB b1) ^^^ bitB b2) ^^^ bitB b3)=crF (crF (crF (crF (c ^^^ nib b0 b1 b2 b3))))
 unfold nib
 have e1:crF (c ^^^ (bitB b0 ^^^ ((bitB b1 <<< 1) ^^^ ((bitB b2 <<< 2) ^^^ (bitB b3 <<< 3)))))=crF (c ^^^ bitB b0) ^^^ (bitB b1 ^^^ ((bitB b2 <<< 1) ^^^ (bitB b3 <<< 2))):=by
  rw [<- BitVec.xor_assoc,crF_xor,crF_xor (bitB b1 <<< 1),crF_xor (bitB b2 <<< 2),s1,s2,s3]
 rw [e1]
 have e2:crF (crF (c ^^^ bitB b0) ^^^ (bitB b1 ^^^ ((bitB b2 <<< 1) ^^^ (bitB b3 <<< 2))))=crF (crF (c ^^^ bitB b0) ^^^ bitB b1) ^^^ (bitB b2 ^^^ (bitB b3 <<< 1)):=by
  rw [<- BitVec.xor_assoc,crF_xor,crF_xor (bitB b2 <<< 1),s1,s2]
 rw [e2]
 have e3:crF (crF (crF (c ^^^ bitB b0) ^^^ bitB b1) ^^^ (bitB b2 ^^^ (bitB b3 <<< 1)))=crF (crF (crF (c ^^^ bitB b0) ^^^ bitB b1) ^^^ bitB b2) ^^^ bitB b3:=by
  rw [<- BitVec.xor_assoc,crF_xor,s1]
 rw [e3]
def nibS (x n:BitVec 32):BitVec 32:=((x >>> 4) ^^^ crF4 ((x ^^^ n) &&& 15#32))
def byteS (x:BitVec 32) (c:UInt8):BitVec 32:=nibS (nibS x (BitVec.ofNat 32 (c.toNat % 16))) (BitVec.ofNat 32 (c.toNat / 16))
def crcS (b:List UInt8):BitVec 32 := ~~~ (b.foldl byteS (~~~ 0#32))
def bits8 (c:UInt8):List Bool:=(List.range 8).map fun k=>c.toNat.testBit k
def bitsL (b:List UInt8):List Bool:=(b.map bits8).flatten
theorem nib_small (x n:BitVec 32) (h:n >>> 4=0#32):nibS x n=crF4 (x ^^^ n):=by
 rw [crF4_tab,BitVec.ushiftRight_xor_distrib,h,BitVec.xor_zero]; rfl
theorem nib8:∀ c:Fin 256,(BitVec.ofNat 32 (c.val % 16)=nib (c.val.testBit 0) (c.val.testBit 1) (c.val.testBit 2) (c.val.testBit 3)/\BitVec.ofNat 32 (c.val / 16)=nib (c.val.testBit 4) (c.val.testBit 5) (c.val.testBit 6) (c.val.testBit 7))/\BitVec.ofNat 32 (c.val % 16) >>> 4=0#32/\BitVec.ofNat 32 (c.val / 16) >>> 4=0#32:=by decide +kernel
theorem byteS_bits (x:BitVec 32) (c:UInt8):byteS x c=crBits x (bits8 c):=by
 have hc:c.toNat < 256:=c.toNat_lt
 obtain ⟨⟨h1,h2⟩,h3,h4⟩:=nib8 ⟨c.toNat,hc⟩
 unfold byteS
 rw [nib_small _ _ h3,nib_small _ _ h4]
 simp only at h1 h2
 rw [h1,h2,<- crBits4,<- crBits4]
 rfl
theorem crc_bits (b:List UInt8):crcS b = ~~~ (crBits (~~~ 0#32) (bitsL b)):=by
 unfold crcS
 congr 1
 generalize ~~~ 0#32=x
 induction b generalizing x with
 | nil=>rfl
 | cons c r ih =>
  have e:bitsL (c :: r)=bits8 c ++ bitsL r:=by simp [bitsL]
  rw [List.foldl_cons,ih,e,byteS_bits]
  unfold crBits
  rw [List.foldl_append]
def gR (x:BitVec 32) (b:Bool):BitVec 32:=((x >>> 1) ||| (bitB b <<< 31)) ^^^ (if x.getLsbD 0 then crP else 0#32)
def win (l:List Bool):BitVec 32:=(List.range 32).foldl (fun x k=>x ^^^ (bitB (l.getD k false) <<< k)) 0#32
theorem win_get (l:List Bool) (i:Nat) (hi:i < 32):(win l).getLsbD i=l.getD i false:=by
 have key:∀ n,n<=32->((List.range n).foldl (fun x k=>x ^^^ (bitB (l.getD k false) <<< k)) 0#32).getLsbD i=(decide (i < n) && l.getD i false):=by
  intro n
  induction n with
  | zero=>intro _; simp
  | succ n ih =>
   intro hn
   rw [List.range_succ,List.foldl_append,List.foldl_cons,List.foldl_nil,BitVec.getLsbD_xor,ih (by omega),BitVec.getLsbD_shiftLeft,bitB_get]
   by_cases h1:i < n
   ·have:¬ i - n ≠ 0:=by omega
    simp [h1,show i < n+1 by omega]
   ·by_cases h2:i=n
    ·subst h2; simp [hi]
    ·have h3:¬ i - n=0:=by omega
     simp [h1,h3,show ¬ i < n+1 by omega]
 have:=key 32 (Nat.le_refl _)
 unfold win
 rw [this,decide_eq_true hi,Bool.true_and]
theorem win_step (b:Bool) (l:List Bool):((win (b :: l)) >>> 1) ||| (bitB (l.getD 31 false) <<< 31)=win l:=by
 apply BitVec.eq_of_getLsbD_eq
 intro i hi
 rw [BitVec.getLsbD_or,BitVec.getLsbD_ushiftRight,BitVec.getLsbD_shiftLeft,bitB_get,win_get _ _ hi]
 by_cases h:i=31
 ·subst h
  rw [BitVec.getLsbD_of_ge _ _ (by omega)]; simp
 ·rw [win_get _ _ (by omega),show 1+i=i+1 by omega,List.getD_cons_succ]
  have:i < 31:=by omega
  simp [this]
theorem rest_step (c:BitVec 32) (b:Bool) (l:List Bool):gR (c ^^^ win (b :: l)) (l.getD 31 false)=crF (c ^^^ bitB b) ^^^ win l:=by
 have hw:(win (b :: l)).getLsbD 0=b:=by rw [win_get _ _ (by omega)]; rfl
 have h1:(c ^^^ win (b :: l)).getLsbD 0=(c ^^^ bitB b).getLsbD 0:=by rw [BitVec.getLsbD_xor,BitVec.getLsbD_xor,hw,bitB_get]; simp
 have h2:(c ^^^ bitB b) >>> 1=c >>> 1:=by
  rw [BitVec.ushiftRight_xor_distrib]
  have:bitB b >>> 1=0#32:=by cases b <;> rfl
  rw [this,BitVec.xor_zero]
 have h3:((c ^^^ win (b :: l)) >>> 1) ||| (bitB (l.getD 31 false) <<< 31)=(c >>> 1) ^^^ win l:=by
  rw [<- win_step b l]
  apply BitVec.eq_of_getLsbD_eq
  intro i hi
  rw [BitVec.getLsbD_xor,BitVec.getLsbD_or,BitVec.getLsbD_or,BitVec.ushiftRight_xor_distrib,BitVec.getLsbD_xor,BitVec.getLsbD_shiftLeft,bitB_get]
  by_cases h:i=31
  ·subst h
   rw [BitVec.getLsbD_ushiftRight,BitVec.getLsbD_ushiftRight,BitVec.getLsbD_of_ge _ _ (by omega),BitVec.getLsbD_of_ge _ _ (by omega)]; simp
  ·have:i < 31:=by omega
   simp [this]
 unfold gR
 rw [h1,h3]
 unfold crF
 rw [h2]
 generalize (if (c ^^^ bitB b).getLsbD 0=true then crP else 0#32)=q
 apply BitVec.eq_of_getLsbD_eq
 intro i _
 simp only [BitVec.getLsbD_xor]
 cases (c >>> 1).getLsbD i <;> cases (win l).getLsbD i <;> cases q.getLsbD i <;> rfl
theorem rest_run:∀ (m:List Bool) (c:BitVec 32),((m ++ List.replicate 32 false).drop 32).foldl gR (c ^^^ win (m ++ List.replicate 32 false))=crBits c m
 | [],c=>by
  have e:win ([] ++ List.replicate 32 false)=0#32:=by decide
  rw [e,BitVec.xor_zero]; rfl
 | b :: m,c=>by
  have hl:((b :: m) ++ List.replicate 32 false).drop 32=((m ++ List.replicate 32 false).getD 31 false) :: (m ++ List.replicate 32 false).drop 32:=by
   have h31:31 < (m ++ List.replicate 32 false).length:=by rw [List.length_append,List.length_replicate]; omega
   show (m ++ List.replicate 32 false).drop 31=_
   rw [List.drop_eq_getElem_cons h31,List.getD_eq_getElem?_getD,List.getElem?_eq_getElem h31]; rfl
  rw [hl,List.foldl_cons]
  show List.foldl gR (gR (c ^^^ win (b :: (m ++ List.replicate 32 false))) _) _=_
  rw [rest_step,rest_run m]
  rfl
theorem rest_first (l:List Bool) (n:Nat) (hn:n<=32):((List.range n).map fun k=>l.getD k false).foldl gR 0#32=win l <<< (32 - n):=by
 induction n with
 | zero =>
  show (0#32)=_
  apply BitVec.eq_of_getLsbD_eq
  intro i hi
  rw [BitVec.getLsbD_shiftLeft]
  simp [hi]
 | succ n ih =>
  obtain ⟨q,hq⟩:∃ q,n+q=31:=⟨31 - n,by omega⟩
  rw [List.range_succ,List.map_append,List.foldl_append,ih (by omega),show 32 - n=q+1 by omega,show 32 - (n+1)=q by omega]
  show gR (win l <<< (q+1)) (l.getD n false)=_
  have h0:(win l <<< (q+1)).getLsbD 0=false:=by rw [BitVec.getLsbD_shiftLeft]; simp
  unfold gR
  rw [h0]
  show _ ^^^ 0#32=_
  rw [BitVec.xor_zero]
  apply BitVec.eq_of_getLsbD_eq
  intro i hi
  simp only [BitVec.getLsbD_or,BitVec.getLsbD_ushiftRight,BitVec.getLsbD_shiftLeft,bitB_get]
  by_cases h:i=31
  ·subst h
   have e:31 - q=n:=by omega
   have h3:¬ 31 < q:=by omega
   have hw:=win_get l n (by omega)
   rw [e,hw]
   have h4:¬ 1+31 < q+1:=by omega
   simp [h3]
  ·have h1:i < 31:=by omega
   by_cases h2:i < q
   ·have h3:1+i < q+1:=by omega
    simp [h1,h2,h3]
   ·have h3:¬ 1+i < q+1:=by omega
    have h4:1+i < 32:=by omega
    have e:1+i - (q+1)=i - q:=by omega
    rw [e]
    simp [h1,h2,h3,h4,hi]
def flip32 (l:List Bool):List Bool:=(l.take 32).map (fun b=>!b) ++ l.drop 32
theorem flip_getD (l:List Bool) (k:Nat) (hk:k < l.length):(flip32 l).getD k false=if k < 32 then !(l.getD k false) else l.getD k false:=by
 unfold flip32
 rw [List.getD_eq_getElem?_getD,List.getD_eq_getElem?_getD]
 have hl:((l.take 32).map (fun b=>!b)).length=min 32 l.length:=by simp
 by_cases h:k < 32
 ·rw [if_pos h,List.getElem?_append_left (by omega),List.getElem?_map,List.getElem?_take,if_pos h,List.getElem?_eq_getElem hk]; rfl
 ·rw [if_neg h,List.getElem?_append_right (by omega),List.getElem?_drop,hl]
  congr 2; omega
theorem rest_all (m:List Bool):(flip32 (m ++ List.replicate 32 false)).foldl gR 0#32=crBits (~~~ 0#32) m:=by
 generalize hL:m ++ List.replicate 32 false=L
 have hlen:32<=L.length:=by rw [<- hL,List.length_append,List.length_replicate]; omega
 have e1:flip32 L=((List.range 32).map fun k=>(flip32 L).getD k false) ++ L.drop 32:=by
  have h1:(flip32 L).take 32=(List.range 32).map fun k=>(flip32 L).getD k false:=by
   apply List.ext_getElem?
   intro i
   rw [List.getElem?_take,List.getElem?_map]
   by_cases hi:i < 32
   ·have hi2:i < (flip32 L).length:=by unfold flip32; simp; omega
    rw [if_pos hi,List.getElem?_range hi,List.getElem?_eq_getElem hi2]
    show _=some ((flip32 L).getD i false)
    rw [List.getD_eq_getElem?_getD,List.getElem?_eq_getElem hi2]; rfl
   ·rw [if_neg hi,List.getElem?_eq_none (by simp; omega)]; rfl
  have h2:(flip32 L).drop 32=L.drop 32:=by
   unfold flip32
   rw [List.drop_append,List.drop_of_length_le (by simp; omega)]
   have:32 - ((L.take 32).map (fun b=>!b)).length=0:=by simp; omega
   rw [this,List.drop_zero,List.nil_append]
  rw [<- h1,<- h2,List.take_append_drop]
 rw [e1,List.foldl_append,rest_first _ 32 (Nat.le_refl _),BitVec.shiftLeft_zero]
 have e2:win (flip32 L) = ~~~ 0#32 ^^^ win L:=by
  apply BitVec.eq_of_getLsbD_eq
  intro i hi
  rw [win_get _ _ hi,flip_getD _ _ (by omega),if_pos hi,BitVec.getLsbD_xor,BitVec.getLsbD_not,win_get _ _ hi]
  simp [hi]
 rw [e2,<- hL]
 exact rest_run m _
def gN (r:BitVec 32) (b:Bool):BitVec 32:=((r <<< 1) ||| bitB b) ^^^ (if r.getLsbD 31 then 0x1edc6f41#32 else 0#32)
theorem rev_get (x:BitVec 32) (i:Nat) (hi:i < 32):x.reverse.getLsbD i=x.getLsbD (31 - i):=by
 rw [BitVec.getLsbD_reverse,BitVec.getMsbD_eq_getLsbD]
 simp [hi]
theorem rev_gN (r:BitVec 32) (b:Bool):(gN r b).reverse=gR r.reverse b:=by
 have hp:∀ i,i < 32->(0x1edc6f41#32).getLsbD (31 - i)=crP.getLsbD i:=fun i hi=>by
  have:∀ j:Fin 32,(0x1edc6f41#32).getLsbD (31 - j.val)=crP.getLsbD j.val:=by decide
  exact this ⟨i,hi⟩
 apply BitVec.eq_of_getLsbD_eq
 intro i hi
 rw [rev_get _ _ hi]
 unfold gN gR
 rw [BitVec.getLsbD_xor,BitVec.getLsbD_xor,rev_get _ 0 (by omega)]
 congr 1
 ·simp only [BitVec.getLsbD_or,BitVec.getLsbD_shiftLeft,BitVec.getLsbD_ushiftRight,bitB_get]
  by_cases h:i=31
  ·subst h
   rw [BitVec.getLsbD_of_ge r.reverse _ (by omega)]
   simp
  ·have h1:i < 31:=by omega
   rw [rev_get _ _ (by omega),show 31 - (1+i)=31 - i - 1 by omega]
   have h2:¬ 31 - i=0:=by omega
   have h3:31 - i < 32:=by omega
   have h4:¬ 31 - i < 1:=by omega
   simp [h1,h2,h3,h4,hi]
 ·show (if r.getLsbD 31=true then 0x1edc6f41#32 else 0#32).getLsbD (31 - i)=(if r.getLsbD 31=true then crP else 0#32).getLsbD i
  cases r.getLsbD 31
  ·simp
  ·exact hp i hi
theorem crc_ref (b:List UInt8) : ~~~ ((flip32 (bitsL b ++ List.replicate 32 false)).foldl gN 0#32).reverse=crcS b:=by
 rw [crc_bits,<- rest_all]
 congr 1
 generalize flip32 (bitsL b ++ List.replicate 32 false)=l
 have e0:(0#32).reverse=0#32:=by
  apply BitVec.eq_of_getLsbD_eq
  intro i hi
  rw [rev_get _ _ hi]; simp
 have key:∀ (l:List Bool) (x:BitVec 32),(l.foldl gN x).reverse=l.foldl gR x.reverse:=by
  intro l
  induction l with
  | nil=>intro x; rfl
  | cons b r ih=>intro x; rw [List.foldl_cons,List.foldl_cons,ih,rev_gN]
 rw [key,e0]
end Go.Proofs.YthcdionpeoobbaaGreatDoor
namespace Go.Proofs.YthcdionpeoobbaaGreatDoor
open Go.GV Go.RowKit
theorem le_e1 (i:Nat) (h:i < 1099511627776):IntKind.wrap .i64 ((i:Int)+1)=((i+1:Nat):Int):=by rw [i64_id (by omega) (by omega)]; rfl
theorem u64_id {n:Int} (h1:0<=n) (h2:n < 18446744073709551616):IntKind.wrap .u64 n=n:=by
 rw [IntKind.wrap_u64]; omega
theorem le_get {w:World} {A:Option Addr} {n:Nat} {l:List UInt8} (h:Sl w 1 A n (l.map bv)) {i:Nat} (hi:i < n) (hl:i < l.length):∃ b o,A=some ⟨b,o,none⟩/\cellAt w b (o+i * 1)=some (.int .u8 (l[i].toNat:Int)) :=
 h.get hi (v:=bv l[i]) (by rw [List.getElem?_map,List.getElem?_eq_getElem hl]; rfl)
theorem sl_len {w:World} {A:Option Addr} {n:Nat} {l:List UInt8} (h:Sl w 1 A n (l.map bv)):l.length=n:=by simpa using h.1
theorem sl_drop {w:World} {A:Option Addr} {n c k:Nat} {l:List UInt8} (h:Sl w 1 A n (l.map bv)) (hk:k<=n) (hc:n<=c):Sl w 1 (slA A c k 1) (n - k) ((l.drop k).map bv):=by
 have hl:=sl_len h
 refine ⟨by simp [hl],fun h0=>?_⟩
 obtain ⟨b,o,hA,hcs⟩:=h.2 (by omega)
 subst hA
 refine ⟨b,o+k,?_,fun j v hv=>?_⟩
 ·unfold slA
  rw [if_neg (by omega)]
  simp [Addr.add]
 ·rw [List.getElem?_map,List.getElem?_drop,<- List.getElem?_map] at hv
  rw [show o+k+j=o+(k+j) by omega]
  exact hcs _ _ hv
theorem sl_take {w:World} {A:Option Addr} {n k:Nat} {l:List UInt8} (h:Sl w 1 A n (l.map bv)) (hk:k<=n):Sl w 1 A k ((l.take k).map bv):=by
 have hl:=sl_len h
 refine ⟨by simp [hl]; omega,fun h0=>?_⟩
 obtain ⟨b,o,hA,hcs⟩:=h.2 (by omega)
 refine ⟨b,o,hA,fun j v hv=>hcs j v ?_⟩
 rw [List.map_take,List.getElem?_take] at hv
 split at hv
 ·exact hv
 ·cases hv
abbrev okT (n:Nat) (at_ size:Int):Prop:=1<=size/\size<=8/\0<=at_/\at_+size<=(n:Int)
def tkN (b:List UInt8) (at_ size:Int):Nat:=if okT b.length at_ size then leT ((b.drop at_.toNat).take size.toNat) else 0
theorem leT_take (b:List UInt8) (i:Nat) (h:i < b.length):leT (b.take (i+1))=leT (b.take i)+256 ^ i * b[i].toNat:=by
 rw [List.take_add_one,List.getElem?_eq_getElem h,leT_app,List.length_take,Nat.min_eq_left (by omega)]
 simp [leT]
theorem or_add {k a x:Nat} (ha:a < 2 ^ k) (hx:a+2 ^ k * x < 2 ^ 64):iOr .u64 (a:Int) (IntKind.wrap .u64 ((x:Int) * 2 ^ k))=((a+2 ^ k * x:Nat):Int):=by
 have h1:IntKind.wrap .u64 ((x:Int) * 2 ^ k)=((2 ^ k * x:Nat):Int):=by
  have e:(x:Int) * 2 ^ k=((2 ^ k * x:Nat):Int):=by push_cast; rw [Int.mul_comm]
  rw [e]
  exact u64_id (by omega) (by have:(2:Nat)^64=18446744073709551616:=rfl; omega)
 rw [h1]
 unfold iOr
 show IntKind.wrap .u64 (((BitVec.ofInt 64 (a:Int) ||| BitVec.ofInt 64 ((2 ^ k * x:Nat):Int)).toNat:Nat):Int)=_
 have ea:BitVec.ofInt 64 (a:Int)=BitVec.ofNat 64 a:=by simp
 have eb:BitVec.ofInt 64 ((2 ^ k * x:Nat):Int)=BitVec.ofNat 64 (2 ^ k * x):=by
  apply BitVec.eq_of_toNat_eq
  rw [BitVec.toNat_ofInt,BitVec.toNat_ofNat]; omega
 rw [ea,eb,BitVec.toNat_or,BitVec.toNat_ofNat,BitVec.toNat_ofNat,Nat.mod_eq_of_lt (by omega),Nat.mod_eq_of_lt (by omega),Nat.or_comm,<- Nat.two_pow_add_eq_or_of_lt ha]
 rw [u64_id (by omega) (by have:(2:Nat)^64=18446744073709551616:=rfl; omega)]
 congr 1; omega
theorem pow8 (i:Nat):(256:Nat) ^ i=2 ^ (8 * i):=by rw [show (256:Nat)=2 ^ 8 from rfl,<- Nat.pow_mul]
theorem has_calls (A:Option Addr) (n c:Nat) (at_ size:Int) (w:World) (hn:n<=1099511627776) :
  Calls Tryz.prog 144 #[.slice A n c,.int .i64 at_,.int .i64 size] w fun e w'=>e=.returned (.bool (decide (0<=at_/\at_<=(n:Int)/\size<=(n:Int) - at_)))/\w'=w:=by
 refine (F144.of A n c at_ size w (Q:=fun v w'=>v=.bool (decide (0<=at_/\at_<=(n:Int)/\size<=(n:Int) - at_))/\w'=w) ?_).mono (fun e w' ⟨v,he,hv,h⟩=>⟨by rw [he,hv],h⟩)
 refine vIf_mk (fun h1=>vIf_mk (fun h2=>⟨?_,rfl⟩) (fun h2=>⟨?_,rfl⟩)) (fun h1=>⟨?_,rfl⟩)
 ·have h1:at_ >= 0:=of_decide_eq_true h1
  have h2:at_<=(n:Int):=of_decide_eq_true h2
  rw [i64_id (by omega) (by omega)]
  congr 1
  exact decide_eq_decide.2 ⟨fun h=>⟨h1,h2,h⟩,fun h=>h.2.2⟩
 ·have h2:¬ at_<=(n:Int):=of_decide_eq_false h2
  rw [decide_eq_false (fun h=>h2 h.2.1)]
 ·have h1:¬ at_ >= 0:=of_decide_eq_false h1
  rw [decide_eq_false (fun h=>h1 h.1)]
theorem tkN_no {b:List UInt8} {at_ size:Int} (h:¬ okT b.length at_ size):tkN b at_ size=0:=if_neg h
theorem ndt {p:Prop} [Decidable p] (h:(!decide p)=true):¬ p:=by simpa using h
theorem ndf {p:Prop} [Decidable p] (h:(!decide p)=false):p:=by simpa using h
set_option maxHeartbeats 1000000 in
theorem take_calls (A:Option Addr) (n c:Nat) (b:List UInt8) (at_ size:Int) (w:World) (h:Sl w 1 A n (b.map bv)) (hn:n<=1099511627776) :
  Calls Tryz.prog 90 #[.slice A n c,.int .i64 at_,.int .i64 size] w fun e w'=>e=.returned (.tuple #[.int .u64 (tkN b at_ size:Nat),.bool (decide (okT n at_ size))])/\w'=w:=by
 have hl:=sl_len h
 refine (F90.of A n c at_ size w (Q:=fun v w'=>v=.tuple #[.int .u64 (tkN b at_ size:Nat),.bool (decide (okT n at_ size))]/\w'=w) ?_).mono (fun e w' ⟨v,he,hv,h⟩=>⟨by rw [he,hv],h⟩)
 have no:¬ okT n at_ size->Value.tuple #[.int .u64 0,.bool false]=.tuple #[.int .u64 (tkN b at_ size:Nat),.bool (decide (okT n at_ size))]:=fun h=>by
  rw [tkN_no (by rw [hl]; exact h),decide_eq_false h]; rfl
 refine vIf_mk (fun h1=>⟨no ?_,rfl⟩) (fun h1=>vIf_mk (fun h2=>⟨no ?_,rfl⟩) (fun h2=>?_))
 ·have h1:size < 1:=of_decide_eq_true h1
  exact fun h=>by have:=h.1; omega
 ·have h2:size > 8:=of_decide_eq_true h2
  exact fun h=>by have:=h.2.1; omega
 ·have h1:¬ size < 1:=of_decide_eq_false h1
  have h2:¬ size > 8:=of_decide_eq_false h2
  refine (has_calls A n c at_ size w hn).mono ?_
  rintro e u ⟨rfl,rfl⟩
  refine ⟨_,rfl,vIf_mk (fun h3=>⟨no ?_,rfl⟩) (fun h3=>jnC_mk (fun _=>?_))⟩
  ·exact fun h=>ndt h3 ⟨h.2.2.1,by omega,by omega⟩
  ·obtain ⟨h4,h5,h6⟩:=ndf h3
   have hok:okT n at_ size:=⟨by omega,by omega,h4,by omega⟩
   obtain ⟨a,rfl⟩:∃ a:Nat,at_=(a:Int):=⟨at_.toNat,by omega⟩
   obtain ⟨z,rfl⟩:∃ z:Nat,size=(z:Int):=⟨size.toNat,by omega⟩
   have hok':=hok
   obtain ⟨o1,o2,o3,o4⟩:=hok'
   have hdl:z<=(b.drop a).length:=by rw [List.length_drop]; omega
   have htk:tkN b (a:Int) (z:Int)=leT ((b.drop a).take z):=by
    unfold tkN
    rw [if_pos (by rw [hl]; exact hok)]; rfl
   refine jnC_mk (loop_rule (fun s x=>x=u/\∃ i:Nat,i<=z/\s=((A,n,c),(a:Int),((leT ((b.drop a).take i):Nat):Int),(z:Int),(i:Int),())) (fun s _=>(z - s.2.2.2.2.1).toNat) ?_ _ _ ⟨rfl,0,by omega,by simp [leT]⟩)
   rintro s x C ⟨rfl,i,hi,rfl⟩ hC _
   refine vIf_mk (fun hlt=>?_) (fun hge=>?_)
   ·have hlt:(i:Int) < (z:Int):=of_decide_eq_true hlt
    obtain ⟨b',o',hA,hc⟩:=le_get h (i:=a+i) (by omega) (by omega)
    subst hA
    have ew:IntKind.wrap .i64 ((a:Int)+(i:Int))=((a+i:Nat):Int):=by rw [i64_id (by omega) (by omega)]; rfl
    have e8:IntKind.wrap .i64 (8 * (i:Int))=((8 * i:Nat):Int):=by rw [i64_id (by omega) (by omega)]; rfl
    have hbl:b[a+i].toNat < 256:=b[a+i].toNat_lt
    have hlt':i < (b.drop a).length:=by omega
    have hgd:(b.drop a)[i]=b[a+i]:=by simp
    have hlow:leT ((b.drop a).take i) < 2 ^ (8 * i):=by
     have:=leT_lt ((b.drop a).take i)
     rw [List.length_take,Nat.min_eq_left (by omega),pow8] at this
     exact this
    have hup:leT ((b.drop a).take (i+1)) < 2 ^ 64:=by
     have:=leT_lt ((b.drop a).take (i+1))
     rw [List.length_take,Nat.min_eq_left (by omega),pow8] at this
     exact Nat.lt_of_lt_of_le this (Nat.pow_le_pow_right (by omega) (by omega))
    have hst:=leT_take (b.drop a) i hlt'
    rw [hgd,pow8] at hst
    refine dr_mk (gd_mk (decide_eq_true (by rw [ew]; omega)) (gd_mk (decide_eq_true (by rw [ew]; show ((a+i:Nat):Int) < (n:Int); omega)) ⟨_,by rw [ew]; exact hc,gd_mk (decide_eq_true (by rw [e8]; omega)) (jnC_mk (hC _ _ ⟨rfl,i+1,by omega,?_⟩ ?_))⟩))
    ·rw [e8,le_e1 i (by omega),u64_id (n:=(b[a+i].toNat:Int)) (by omega) (by omega)]
     show ((_,n,c),(a:Int),iOr .u64 _ (IntKind.wrap .u64 ((b[a+i].toNat:Int) * 2 ^ (min ((8 * i:Nat):Int).toNat 64))),(z:Int),((i+1:Nat):Int),())=_
     rw [Int.toNat_natCast,Nat.min_eq_left (by omega),or_add hlow (by rw [<- hst]; exact hup),<- hst]
    ·show ((z:Int) - IntKind.wrap .i64 ((i:Int)+1)).toNat < ((z:Int) - (i:Int)).toNat
     rw [le_e1 i (by omega)]; omega
   ·have hge:¬ (i:Int) < (z:Int):=of_decide_eq_false hge
    obtain rfl:i=z:=by omega
    rw [htk,decide_eq_true hok]
    exact ⟨rfl,rfl⟩
set_option maxHeartbeats 1000000 in
theorem rtake_calls (A:Option Addr) (n c:Nat) (b:List UInt8) (at_ size:Int) (w:World) (h:Sl w 1 A n (b.map bv)) (hn:n<=1099511627776) :
  Calls Tryz.prog 157 #[.slice A n c,.int .i64 at_,.int .i64 size] w fun e w'=>e=.returned (.tuple #[.int .u64 (tkN b at_ size:Nat),.bool (decide (okT n at_ size))])/\w'=w:=by
 have hl:=sl_len h
 refine (F157.of A n c at_ size w (Q:=fun v w'=>v=.tuple #[.int .u64 (tkN b at_ size:Nat),.bool (decide (okT n at_ size))]/\w'=w) ?_).mono (fun e w' ⟨v,he,hv,h⟩=>⟨by rw [he,hv],h⟩)
 have no:¬ okT n at_ size->Value.tuple #[.int .u64 0,.bool false]=.tuple #[.int .u64 (tkN b at_ size:Nat),.bool (decide (okT n at_ size))]:=fun h=>by
  rw [tkN_no (by rw [hl]; exact h),decide_eq_false h]; rfl
 refine vIf_mk (fun h1=>⟨no ?_,rfl⟩) (fun h1=>vIf_mk (fun h2=>⟨no ?_,rfl⟩) (fun h2=>vIf_mk (fun h3=>⟨no ?_,rfl⟩) (fun h3=>vIf_mk (fun h4=>⟨no ?_,rfl⟩) (fun h4=>jnC_mk (fun _=>?_)))))
 ·have h1:size < 1:=of_decide_eq_true h1
  exact fun h=>by have:=h.1; omega
 ·have h2:size > 8:=of_decide_eq_true h2
  exact fun h=>by have:=h.2.1; omega
 ·have h3:at_ < 0:=of_decide_eq_true h3
  exact fun h=>by have:=h.2.2.1; omega
 ·have h1:¬ size < 1:=of_decide_eq_false h1
  have h2:¬ size > 8:=of_decide_eq_false h2
  have h4:IntKind.wrap .i64 ((n:Int) - size) < at_:=of_decide_eq_true h4
  rw [i64_id (by omega) (by omega)] at h4
  exact fun h=>by have:=h.2.2.2; omega
 ·have h1:¬ size < 1:=of_decide_eq_false h1
  have h2:¬ size > 8:=of_decide_eq_false h2
  have h3:¬ at_ < 0:=of_decide_eq_false h3
  have h4:¬ IntKind.wrap .i64 ((n:Int) - size) < at_:=of_decide_eq_false h4
  rw [i64_id (by omega) (by omega)] at h4
  have hok:okT n at_ size:=⟨by omega,by omega,by omega,by omega⟩
  obtain ⟨a,rfl⟩:∃ a:Nat,at_=(a:Int):=⟨at_.toNat,by omega⟩
  obtain ⟨z,rfl⟩:∃ z:Nat,size=(z:Int):=⟨size.toNat,by omega⟩
  have htk:tkN b (a:Int) (z:Int)=leT ((b.drop a).take z):=by
   unfold tkN
   rw [if_pos (by rw [hl]; exact hok)]; rfl
  have ez:IntKind.wrap .i64 ((z:Int) - 1)=(z:Int) - 1:=i64_id (by omega) (by omega)
  refine jnC_mk (loop_rule (fun s x=>x=w/\∃ i:Nat,i<=z/\s=((A,n,c),(a:Int),((leT (((b.drop a).take z).drop i):Nat):Int),(i:Int) - 1,())) (fun s _=>(s.2.2.2.1+1).toNat) ?_ _ _ ⟨rfl,z,by omega,?_⟩)
  ·rintro s x C ⟨rfl,i,hi,rfl⟩ hC _
   refine vIf_mk (fun hlt=>?_) (fun hge=>?_)
   ·have hlt:(i:Int) - 1 >= 0:=of_decide_eq_true hlt
    obtain ⟨k,rfl⟩:∃ k,i=k+1:=⟨i - 1,by omega⟩
    obtain ⟨b',o',hA,hc⟩:=le_get h (i:=a+k) (by omega) (by omega)
    subst hA
    have ew:IntKind.wrap .i64 ((a:Int)+(((k+1:Nat):Int) - 1))=((a+k:Nat):Int):=by rw [i64_id (by omega) (by omega)]; omega
    have hbl:b[a+k].toNat < 256:=b[a+k].toNat_lt
    have hd:((b.drop a).take z).drop k=b[a+k] :: ((b.drop a).take z).drop (k+1):=by
     rw [List.drop_eq_getElem_cons (by rw [List.length_take,List.length_drop]; omega)]
     congr 1
     simp
    have hup:leT (((b.drop a).take z).drop k) < 2 ^ 64:=by
     have:=leT_lt (((b.drop a).take z).drop k)
     rw [List.length_drop,List.length_take,pow8] at this
     exact Nat.lt_of_lt_of_le this (Nat.pow_le_pow_right (by omega) (by omega))
    rw [hd,leT] at hup
    have h64:(2:Nat) ^ 64=18446744073709551616:=rfl
    refine dr_mk (gd_mk (decide_eq_true (by rw [ew]; omega)) (gd_mk (decide_eq_true (by rw [ew]; show ((a+k:Nat):Int) < (n:Int); omega)) ⟨_,by rw [ew]; exact hc,jnC_mk (hC _ _ ⟨rfl,k,by omega,?_⟩ ?_)⟩))
    ·rw [u64_id (n:=(b[a+k].toNat:Int)) (by omega) (by omega),hd,leT]
     show ((_,n,c),(a:Int),IntKind.wrap .u64 (IntKind.wrap .u64 (((leT (((b.drop a).take z).drop (k+1)):Nat):Int) * 256)+(b[a+k].toNat:Int)),IntKind.wrap .i64 (((k+1:Nat):Int) - 1 - 1),())=_
     rw [u64_id (n:=((leT (((b.drop a).take z).drop (k+1)):Nat):Int) * 256) (by omega) (by omega),u64_id (by omega) (by omega),i64_id (by omega) (by omega)]
     have e1:((leT (((b.drop a).take z).drop (k+1)):Nat):Int) * 256+(b[a+k].toNat:Int)=((b[a+k].toNat+256 * leT (((b.drop a).take z).drop (k+1)):Nat):Int):=by omega
     have e2:((k+1:Nat):Int) - 1 - 1=(k:Int) - 1:=by omega
     rw [e1,e2]
    ·show (IntKind.wrap .i64 (((k+1:Nat):Int) - 1 - 1)+1).toNat < (((k+1:Nat):Int) - 1+1).toNat
     rw [i64_id (by omega) (by omega)]; omega
   ·have hge:¬ (i:Int) - 1 >= 0:=of_decide_eq_false hge
    obtain rfl:i=0:=by omega
    rw [htk,decide_eq_true hok]
    exact ⟨rfl,rfl⟩
  ·rw [ez,List.drop_of_length_le (by rw [List.length_take]; omega)]
   rfl
abbrev RB (w0 w:World) (A:Option Addr) (n c:Nat) (l:List UInt8):Prop:=Fr (fun _=>False) w0 w/\Row w w0.heap.size 5 1 A n c (l.map bv)
theorem RB.nil (w:World):RB w w none 0 0 []:=⟨Fr.refl _ _,Row.nil _ _ _ _⟩
theorem RB.len {w0 w:World} {A:Option Addr} {n c:Nat} {l:List UInt8} (h:RB w0 w A n c l):l.length=n:=by have:=h.2.len; simpa using this
theorem RB.sl {w0 w:World} {A:Option Addr} {n c:Nat} {l:List UInt8} (h:RB w0 w A n c l):Sl w 1 A n (l.map bv):=h.2.sl
theorem RB.fr {w0 w w':World} {A:Option Addr} {n c:Nat} {l:List UInt8} (h:RB w0 w A n c l) (f:Fr (fun _=>False) w w'):RB w0 w' A n c l:=⟨h.1.trans1 f,f.row h.2 (fun _ _ h=>h)⟩
theorem RB.le {w0 w w1:World} {A:Option Addr} {n c:Nat} {l:List UInt8} (h:RB w w1 A n c l) (f:Fr (fun _=>False) w0 w):RB w0 w1 A n c l:=by
 refine ⟨f.trans1 h.1,h.2.len,h.2.le,h.2.at_.elim .inl (fun ⟨b,cs,h1,h2,h3⟩=>.inr ⟨b,cs,h1,?_,h3⟩)⟩
 have:=f.size; omega
theorem appB_mk {w0 w:World} {A A2:Option Addr} {n c m c2:Nat} {l l2:List UInt8} {K:Option Addr->Nat->Nat->World->Prop} (h:RB w0 w A n c l) (hx:Sl w 1 A2 m (l2.map bv)) (hm:n+m<=1099511627776)
  (hK:∀ A' c' w',RB w0 w' A' (n+m) c' (l ++ l2)->K A' (n+m) c' w'):app w 1 1 [Value.int .u8 0] 5 A n c (.slice A2 m c2) K:=by
 refine app_row h.2 hx.src (bvs_one l2) rfl (by show (n+m) * 1<=_; omega) (by omega) h.1.size (fun A' c' w' hr f=>hK A' c' w' ⟨h.1.trans f (fun _ _ h=>h) (fun k hk hb=>by have:=(h.2.blt hb).1; omega),?_⟩)
 rw [List.map_append]; exact hr
theorem RB.alloc {w0 w:World} {A:Option Addr} {n c:Nat} {l:List UInt8} (h:RB w0 w A n c l) (o:Obj):RB w0 (w.alloc o) A n c l:=h.fr (Fr.alloc _ _ _)
theorem push_mk {w0 w:World} {A:Option Addr} {n c:Nat} {l:List UInt8} {x:UInt8} {K:Option Addr->Nat->Nat->World->Prop} (h:RB w0 w A n c l) (hm:n < 1099511627776)
  (hK:∀ A' c' w',RB w0 w' A' (n+1) c' (l ++ [x])->K A' (n+1) c' w'):nw w ([bv x] ++ []) 5 fun b w1=>app w1 1 1 [Value.int .u8 0] 5 A n c (.slice (some ⟨b,0,none⟩) 1 1) K:=by
 refine nw_mk (appB_mk (l2:=[x]) (h.alloc _) ?_ (by omega) hK)
 exact (Row.new (sz:=1) (n:=1) (B:=0) (Nat.zero_le _) rfl).sl
theorem leB_take (n:Nat):∀ k,leB n (k+1)=leB n k ++ [UInt8.ofNat (n / 256 ^ k % 256)]:=fun k=>leB_snoc k n
theorem bv_nat {n:Nat} (h:n < 256):Value.int .u8 (n:Int)=bv (UInt8.ofNat n):=by unfold bv; rw [u8n' h]
set_option maxHeartbeats 1000000 in
theorem rputB_calls (A:Option Addr) (n c:Nat) (b:List UInt8) (x k:Nat) (w:World) (h:Sl w 1 A n (b.map bv)) (hn:n<=1099511627700) (hx:x < 18446744073709551616) (hk:k<=8) :
  Calls Tryz.prog 105 #[.slice A n c,.int .u64 (x:Nat),.int .i64 (k:Nat)] w fun e w'=>∃ A' c',e=.returned (.slice A' (n+k) c')/\RB w w' A' (n+k) c' (b ++ leB x k):=by
 have hl:=sl_len h
 refine (F105.of A n c x k w (Q:=fun v w'=>∃ A' c',v=.slice A' (n+k) c'/\RB w w' A' (n+k) c' (b ++ leB x k)) ?_).mono (fun e w' ⟨v,he,A',c',hv,h⟩=>⟨A',c',by rw [he,hv],h⟩)
 refine appB_mk (RB.nil w) h (by omega) (fun A1 c1 w1 h1=>?_)
 rw [Nat.zero_add] at h1 ⊢
 refine jnC_mk (loop_rule (fun s u=>∃ (i:Nat) (A':Option Addr) (c':Nat),i<=k/\s=(((x / 256 ^ i:Nat):Int),(k:Int),(A',n+i,c'),(i:Int),())/\RB w u A' (n+i) c' (b ++ leB x i)) (fun s _=>(k - s.2.2.2.1).toNat) ?_ _ _ ⟨0,A1,c1,by omega,?_,?_⟩)
 ·rintro s u C ⟨i,A',c',hi,rfl,hr⟩ hC _
  refine vIf_mk (fun hlt=>vIf_mk (fun _=>jnC_mk (fun _=>?_)) (fun h8=>?_)) (fun hge=>?_)
  ·have hlt:(i:Int) < (k:Int):=of_decide_eq_true hlt
   have e1:Value.int .u8 (IntKind.wrap .u8 (Int.tmod ((x / 256 ^ i:Nat):Int) 256))=bv (UInt8.ofNat (x / 256 ^ i % 256)):=by
    rw [show Int.tmod ((x / 256 ^ i:Nat):Int) 256=_ from tmod_nat (x / 256 ^ i) 256,u8_id (by omega) (by omega)]
    exact bv_nat (Nat.mod_lt _ (by omega))
   have e2:IntKind.wrap .u64 (Int.tdiv ((x / 256 ^ i:Nat):Int) 256)=((x / 256 ^ (i+1):Nat):Int):=by
    have hle:x / 256 ^ i / 256<=x:=Nat.le_trans (Nat.div_le_self _ _) (Nat.div_le_self _ _)
    rw [show Int.tdiv ((x / 256 ^ i:Nat):Int) 256=_ from tdiv_nat (x / 256 ^ i) 256,u64_id (Int.natCast_nonneg _) (Int.ofNat_lt.2 (Nat.lt_of_le_of_lt hle hx)),Nat.div_div_eq_div_mul,<- Nat.pow_succ]
   show nw u ([Value.int .u8 (IntKind.wrap .u8 (Int.tmod ((x / 256 ^ i:Nat):Int) 256))] ++ []) _ _
   rw [e1]
   refine push_mk hr (by show n+i < _; omega) (fun A2 c2 w2 h2=>jnC_mk (hC _ _ ⟨i+1,A2,c2,by omega,?_,?_⟩ ?_))
   ·show (IntKind.wrap .u64 (Int.tdiv ((x / 256 ^ i:Nat):Int) 256),(k:Int),(A2,n+i+1,c2),IntKind.wrap .i64 ((i:Int)+1),())=_
    rw [e2,le_e1 i (by omega)]; rfl
   ·rw [leB_take,<- List.append_assoc]; exact h2
   ·show ((k:Int) - IntKind.wrap .i64 ((i:Int)+1)).toNat < ((k:Int) - (i:Int)).toNat
    rw [le_e1 i (by omega)]; omega
  ·have h8:¬ (k:Int)<=8:=of_decide_eq_false h8
   omega
  ·have hge:¬ (i:Int) < (k:Int):=of_decide_eq_false hge
   obtain rfl:i=k:=by omega
   exact ⟨A',c',rfl,hr⟩
 ·rw [Nat.pow_zero,Nat.div_one]; rfl
 ·rw [leB,List.append_nil]; exact h1
def txP (b:List UInt8) (at_:Int):Option (List UInt8×Int) :=
 if okT b.length at_ 1/\at_+1+(tkN b at_ 1:Int)<=(b.length:Int) then some ((b.drop (at_.toNat+1)).take (tkN b at_ 1),at_+1+(tkN b at_ 1:Int)) else none
def txV:Option (List UInt8×Int)->Value
 | some (t,e)=>.tuple #[.string ⟨t.toArray⟩,.int .i64 e,.bool true]
 | none=>.tuple #[.string (⟨#[]⟩:ByteArray),.int .i64 0,.bool false]
theorem tkOne {b:List UInt8} {a:Nat} (h:a < b.length):tkN b (a:Int) 1=b[a].toNat:=by
 unfold tkN
 rw [if_pos ⟨by omega,by omega,by omega,by omega⟩]
 show leT ((b.drop a).take 1)=_
 rw [List.drop_eq_getElem_cons h,List.take_succ_cons,List.take_zero]
 show b[a].toNat+256 * 0=_
 omega
theorem tkOne_lt (b:List UInt8) (at_:Int):tkN b at_ 1 < 256:=by
 by_cases h:okT b.length at_ 1
 ·obtain ⟨a,rfl⟩:∃ a:Nat,at_=(a:Int):=⟨at_.toNat,by have:=h.2.2.1; omega⟩
  rw [tkOne (by have:=h.2.2.2; omega)]
  exact UInt8.toNat_lt _
 ·rw [tkN_no h]; omega
set_option maxHeartbeats 1000000 in
theorem text_calls (A:Option Addr) (n c:Nat) (b:List UInt8) (at_:Int) (w:World) (h:Sl w 1 A n (b.map bv)) (hc:n<=c) (hn:n<=1099511627776) (ha : -9223372036854775808<=at_/\at_<=9223372036854775807) :
  Calls Tryz.prog 148 #[.slice A n c,.int .i64 at_] w fun e w'=>e=.returned (txV (txP b at_))/\w'=w:=by
 have hl:=sl_len h
 refine (F148.of A n c at_ w (Q:=fun v w'=>v=txV (txP b at_)/\w'=w) ?_).mono (fun e w' ⟨v,he,hv,h⟩=>⟨by rw [he,hv],h⟩)
 refine (take_calls A n c b at_ 1 w h hn).mono ?_
 rintro e u ⟨rfl,rfl⟩
 refine ⟨_,_,rfl,vIf_mk (fun h1=>jnC_mk (fun _=>vIf_t rfl ⟨?_,rfl⟩)) (fun h1=>?_)⟩
 ·unfold txP
  rw [if_neg (fun h=>ndt h1 (by rw [<- hl]; exact h.1))]; rfl
 ·have hok:=ndf h1
  obtain ⟨a,rfl⟩:∃ a:Nat,at_=(a:Int):=⟨at_.toNat,by have:=hok.2.2.1; omega⟩
  have hlt:a < n:=by have:=hok.2.2.2; omega
  have hb:=tkOne_lt b (a:Int)
  have e1:IntKind.wrap .i64 ((a:Int)+1)=((a+1:Nat):Int):=le_e1 a (by omega)
  have e2:IntKind.wrap .i64 ((tkN b (a:Int) 1:Nat):Int)=((tkN b (a:Int) 1:Nat):Int):=i64_id (by omega) (by omega)
  have e3:IntKind.wrap .i64 (((a+1:Nat):Int)+((tkN b (a:Int) 1:Nat):Int))=((a+1+tkN b (a:Int) 1:Nat):Int):=by rw [i64_id (by omega) (by omega)]; omega
  rw [e1,e2]
  refine (has_calls A n c _ _ u hn).mono ?_
  rintro e v ⟨rfl,rfl⟩
  refine ⟨_,rfl,jnC_mk (fun _=>vIf_mk (fun h2=>⟨?_,rfl⟩) (fun h2=>jnC_mk (fun _=>?_)))⟩
  ·unfold txP
   rw [if_neg (fun h=>ndt h2 ⟨by omega,by omega,by have:=h.2; omega⟩)]; rfl
  ·obtain ⟨_,h3,h4⟩:=ndf h2
   have hle:a+1+tkN b (a:Int) 1<=n:=by omega
   show gd (decide (0<=IntKind.wrap .i64 (IntKind.wrap .i64 ((a:Int)+1)+IntKind.wrap .i64 ((tkN b (a:Int) 1:Nat):Int)))) _
   unfold F148.k4c at *
   dsimp only
   rw [e1,e2,e3]
   refine gd_mk (decide_eq_true (by omega)) (gd_mk (decide_eq_true (by omega)) (gd_mk (decide_eq_true (by omega)) (gd_mk (decide_eq_true (by omega)) ?_)))
   rw [Int.toNat_natCast,Int.toNat_natCast,show a+1+tkN b (a:Int) 1 - (a+1)=tkN b (a:Int) 1 by omega]
   refine b2s_sl (l:=(b.drop (a+1)).take (tkN b (a:Int) 1)) (sl_take (sl_drop h (by omega) hc) (by omega)) ⟨?_,rfl⟩
   unfold txP
   rw [if_pos ⟨by rw [hl]; exact hok,by rw [hl]; omega⟩]
   show Value.tuple #[_,.int .i64 ((a+1+tkN b (a:Int) 1:Nat):Int),_]=Value.tuple #[_,.int .i64 ((a:Int)+1+(tkN b (a:Int) 1:Int)),_]
   congr 4
set_option maxHeartbeats 1000000 in
theorem rtext_calls (A:Option Addr) (n c:Nat) (b:List UInt8) (at_:Int) (w:World) (h:Sl w 1 A n (b.map bv)) (hc:n<=c) (hn:n<=1099511627776) (ha : -9223372036854775808<=at_/\at_<=9223372036854775807) :
  Calls Tryz.prog 108 #[.slice A n c,.int .i64 at_] w fun e w'=>e=.returned (txV (txP b at_))/\w'=w:=by
 have hl:=sl_len h
 refine (F108.of A n c at_ w (Q:=fun v w'=>v=txV (txP b at_)/\w'=w) ?_).mono (fun e w' ⟨v,he,hv,h⟩=>⟨by rw [he,hv],h⟩)
 refine vIf_mk (fun h1=>jnC_mk (fun _=>vIf_t rfl ⟨?_,rfl⟩)) (fun h1=>jnC_mk (fun _=>vIf_mk (fun h2=>⟨?_,rfl⟩) (fun h2=>jnC_mk (fun _=>?_))))
 ·have h1:at_ < 0:=of_decide_eq_true h1
  unfold txP
  rw [if_neg (fun h=>by have:=h.1.2.2.1; omega)]; rfl
 ·have h2:at_ >= (n:Int):=of_decide_eq_true h2
  unfold txP
  rw [if_neg (fun h=>by have:=h.1.2.2.2; omega)]; rfl
 ·have h1:¬ at_ < 0:=of_decide_eq_false h1
  have h2:¬ at_ >= (n:Int):=of_decide_eq_false h2
  obtain ⟨a,rfl⟩:∃ a:Nat,at_=(a:Int):=⟨at_.toNat,by omega⟩
  have hlt:a < n:=by omega
  have hb:=tkOne_lt b (a:Int)
  have htk:=tkOne (b:=b) (a:=a) (by omega)
  have e1:IntKind.wrap .i64 ((a:Int)+1)=((a+1:Nat):Int):=le_e1 a (by omega)
  have e2:IntKind.wrap .i64 ((tkN b (a:Int) 1:Nat):Int)=((tkN b (a:Int) 1:Nat):Int):=i64_id (by omega) (by omega)
  have e3:IntKind.wrap .i64 (((a+1:Nat):Int)+((tkN b (a:Int) 1:Nat):Int))=((a+1+tkN b (a:Int) 1:Nat):Int):=by rw [i64_id (by omega) (by omega)]; omega
  obtain ⟨b',o',hA,hcl⟩:=le_get h (i:=a) hlt (by omega)
  rw [<- htk] at hcl
  have hdr:=sl_drop h (k:=a+1) (by omega) hc
  subst hA
  refine dr_mk (gd_mk (decide_eq_true (by show (0:Int)<=(a:Int); omega)) (gd_mk (decide_eq_true (by show (a:Int) < (n:Int); omega)) ⟨_,hcl,?_⟩))
  show gd (decide (0<=IntKind.wrap .i64 ((a:Int)+1))) _
  rw [e1,e2,Int.toNat_natCast,Int.toNat_natCast,e3]
  refine gd_mk (decide_eq_true (by omega)) (gd_mk (decide_eq_true (by show ((a+1:Nat):Int)<=(n:Int); omega)) (vIf_mk (fun h3=>⟨?_,rfl⟩) (fun h3=>?_)))
  ·have h3:((n - (a+1):Nat):Int) < ((tkN b (a:Int) 1:Nat):Int):=of_decide_eq_true h3
   unfold txP
   rw [if_neg (fun h=>by have:=h.2; omega)]; rfl
  ·have h3:¬ ((n - (a+1):Nat):Int) < ((tkN b (a:Int) 1:Nat):Int):=of_decide_eq_false h3
   refine gd_mk (decide_eq_true (by omega)) (gd_mk (decide_eq_true (by show ((tkN b (a:Int) 1:Nat):Int)<=((c - (a+1):Nat):Int); omega)) ?_)
   have h0:=sl_drop hdr (k:=0) (Nat.zero_le _) (show n - (a+1)<=c - (a+1) by omega)
   rw [List.drop_zero,Nat.sub_zero] at h0
   refine b2s_sl (l:=(b.drop (a+1)).take (tkN b (a:Int) 1)) (sl_take h0 (by omega)) ⟨?_,rfl⟩
   unfold txP
   rw [if_pos ⟨⟨by omega,by omega,by omega,by rw [hl]; omega⟩,by rw [hl]; omega⟩]
   show Value.tuple #[_,.int .i64 ((a+1+tkN b (a:Int) 1:Nat):Int),_]=Value.tuple #[_,.int .i64 ((a:Int)+1+(tkN b (a:Int) 1:Int)),_]
   congr 4
def lo7:List UInt8->Nat
 | []=>0
 | c :: r=>c.toNat % 128+128 * lo7 r
theorem lo7_lt:∀ l:List UInt8,lo7 l < 128 ^ l.length
 | []=>by simp [lo7]
 | c :: r=>by
  have:=lo7_lt r
  rw [lo7,List.length_cons,Nat.pow_succ]
  omega
theorem lo7_app:∀ a b:List UInt8,lo7 (a ++ b)=lo7 a+128 ^ a.length * lo7 b
 | [],b=>by simp [lo7]
 | c :: a,b=>by
  rw [List.cons_append,lo7,lo7,lo7_app a b,List.length_cons,Nat.pow_succ]
  rw [Nat.mul_add,<- Nat.mul_assoc,Nat.mul_comm 128 (128 ^ a.length)]; omega
theorem lo7_take (b:List UInt8) (i:Nat) (h:i < b.length):lo7 (b.take (i+1))=lo7 (b.take i)+128 ^ i * (b[i].toNat % 128):=by
 rw [List.take_add_one,List.getElem?_eq_getElem h,lo7_app,List.length_take,Nat.min_eq_left (by omega)]
 simp [lo7]
def vaMix (acc i:Nat) (g:Nat×Nat×Int):Nat×Nat×Int:=if g.2.2=0 then (acc+128 ^ i * g.1,i+g.2.1,0) else (0,0,g.2.2)
theorem va_cons (i:Nat) (c:UInt8) (r:List UInt8) (h9:¬ (i=9/\c.toNat > 1)) (hc:c.toNat >= 128) (acc:Nat):vaMix acc i (vaGo i (c :: r))=vaMix (acc+128 ^ i * (c.toNat % 128)) (i+1) (vaGo (i+1) r):=by
 rw [vaGo,if_neg h9,if_pos hc]
 by_cases h:(vaGo (i+1) r).2.2=0
 ·rw [if_pos h]
  unfold vaMix
  rw [if_pos rfl,if_pos h]
  dsimp only
  rw [Nat.mul_add,Nat.pow_succ,<- Nat.mul_assoc]
  congr 1
  ·omega
  ·congr 1; omega
 ·rw [if_neg h]
  unfold vaMix
  dsimp only
  rw [if_neg h,if_neg h]
theorem va_at (r:List UInt8):∀ i,i<=9->i<=r.length->(∀ j (h:j < r.length),j < i->r[j].toNat >= 128)->vaGo 0 r=vaMix (lo7 (r.take i)) i (vaGo i (r.drop i))
 | 0,_,_,_=>by
  unfold vaMix
  by_cases h:(vaGo 0 r).2.2=0
  ·rw [List.drop_zero,if_pos h]; simp [lo7]
   rw [<- h]
  ·rw [List.drop_zero,if_neg h]; exact vaGo_err r 0 h
 | i+1,h9,hl,hc=>by
  rw [va_at r i (by omega) (by omega) (fun j h hj=>hc j h (by omega)),List.drop_eq_getElem_cons (show i < r.length by omega),va_cons i _ _ (by omega) (hc i (by omega) (by omega)),lo7_take r i (by omega)]
def vaV (x:Nat×Int×Int):Value:=.tuple #[.int .u64 (x.1:Nat),.int .i64 x.2.1,.int .i64 x.2.2]
theorem pow7 (i:Nat):(128:Nat) ^ i=2 ^ (7 * i):=by rw [show (128:Nat)=2 ^ 7 from rfl,<- Nat.pow_mul]
theorem and127 (c:UInt8):iAnd .u8 (c.toNat:Int) 127=((c.toNat % 128:Nat):Int):=by
 have h:∀ c:Fin 256,iAnd .u8 (c.val:Int) 127=((c.val % 128:Nat):Int):=by decide +kernel
 exact h ⟨c.toNat,c.toNat_lt⟩
theorem vaT_err2 {b:List UInt8} {at_:Int} (h:at_ < 0\/at_ > (b.length:Int)):vaT b at_=(0,0,2):=if_pos h
theorem vaT_in {b:List UInt8} {a:Nat} (h:a<=b.length):vaT b (a:Int)=if (vaGo 0 (b.drop a)).2.2=0 then ((vaGo 0 (b.drop a)).1,(a:Int)+((vaGo 0 (b.drop a)).2.1:Int),0) else (0,0,(vaGo 0 (b.drop a)).2.2):=by
 unfold vaT
 rw [if_neg (by omega)]; rfl
theorem vaT_e {b:List UInt8} {a:Nat} {e:Int} (h:a<=b.length) (he:vaGo 0 (b.drop a)=(0,0,e)) (h0:e ≠ 0):vaT b (a:Int)=(0,0,e):=by
 rw [vaT_in h,he,if_neg h0]
theorem vaT_v {b:List UInt8} {a m k:Nat} (h:a<=b.length) (he:vaGo 0 (b.drop a)=(m,k,0)):vaT b (a:Int)=(m,(a:Int)+(k:Int),0):=by
 rw [vaT_in h,he,if_pos rfl]
theorem va_20 {r:List UInt8} {acc:Nat} {c:UInt8} {r':List UInt8} (hr:vaGo 0 r=vaMix acc 9 (vaGo 9 (c :: r'))) (h:c.toNat > 1):vaGo 0 r=(0,0,20):=by
 rw [hr,vaGo,if_pos ⟨rfl,h⟩]; rfl
theorem va_3 {r:List UInt8} {acc i:Nat} {c:UInt8} {r':List UInt8} (hr:vaGo 0 r=vaMix acc i (vaGo i (c :: r'))) (h:c.toNat=0) (hi:i > 0):vaGo 0 r=(0,0,3):=by
 rw [hr,vaGo,if_neg (by omega),if_neg (by omega),if_pos ⟨h,hi⟩]; rfl
theorem va_ok {r:List UInt8} {acc i:Nat} {c:UInt8} {r':List UInt8} (hr:vaGo 0 r=vaMix acc i (vaGo i (c :: r'))) (h1:¬ (i=9/\c.toNat > 1)) (h2:¬ c.toNat >= 128) (h3:¬ (c.toNat=0/\i > 0)):vaGo 0 r=(acc+128 ^ i * c.toNat,i+1,0):=by
 rw [hr,vaGo,if_neg h1,if_neg h2,if_neg h3]; rfl
theorem va_4 {r:List UInt8} {acc i:Nat} (hr:vaGo 0 r=vaMix acc i (vaGo i [])):vaGo 0 r=(0,0,4):=by rw [hr]; rfl
set_option maxHeartbeats 1000000 in
theorem va_calls (A:Option Addr) (n c:Nat) (b:List UInt8) (at_:Int) (w:World) (h:Sl w 1 A n (b.map bv)) (hcn:n<=c) (hn:n<=1099511627776) :
  Calls Tryz.prog 94 #[.slice A n c,.int .i64 at_] w fun e w'=>e=.returned (vaV (vaT b at_))/\w'=w:=by
 have hl:=sl_len h
 refine (F94.of A n c at_ w (Q:=fun v w'=>v=vaV (vaT b at_)/\w'=w) ?_).mono (fun e w' ⟨v,he,hv,h⟩=>⟨by rw [he,hv],h⟩)
 refine vIf_mk (fun h1=>jnC_mk (fun _=>vIf_t rfl ⟨?_,rfl⟩)) (fun h1=>jnC_mk (fun _=>vIf_mk (fun h2=>⟨?_,rfl⟩) (fun h2=>jnC_mk (fun _=>?_))))
 ·have h1:at_ < 0:=of_decide_eq_true h1
  rw [vaT_err2 (.inl h1)]; rfl
 ·have h2:at_ > (n:Int):=of_decide_eq_true h2
  rw [vaT_err2 (.inr (by omega))]; rfl
 ·have h1:¬ at_ < 0:=of_decide_eq_false h1
  have h2:¬ at_ > (n:Int):=of_decide_eq_false h2
  obtain ⟨a,rfl⟩:∃ a:Nat,at_=(a:Int):=⟨at_.toNat,by omega⟩
  have hab:a<=b.length:=by omega
  have hdr:=sl_drop h (k:=a) (by omega) hcn
  have hrl:(b.drop a).length=n - a:=by rw [List.length_drop,hl]
  generalize hrd:b.drop a=r at hdr hrl
  refine gd_mk (decide_eq_true (by show (0:Int)<=(a:Int); omega)) (gd_mk (decide_eq_true (by show (a:Int)<=(n:Int); omega)) ?_)
  rw [Int.toNat_natCast]
  refine jnC_mk (loop_rule (fun s u=>u=w/\∃ i:Nat,i<=9/\i<=r.length/\s=(((lo7 (r.take i):Nat):Int),4,((a+i:Nat):Int),(slA A c a 1,n - a,c - a),((n - a:Nat):Int),(i:Int),())/\∀ j (h:j < r.length),j < i->r[j].toNat >= 128) (fun s _=>(((n - a:Nat):Int) - s.2.2.2.2.2.1).toNat) ?_ _ _ ⟨rfl,0,by omega,by omega,rfl,fun j h hj=>by omega⟩)
  rintro s u C ⟨rfl,i,h9,hi,rfl,hbs⟩ hC _
  have hat:=va_at r i h9 hi hbs
  refine vIf_mk (fun hlt=>?_) (fun hge=>jnC_mk (fun _=>⟨?_,rfl⟩))
  ·have hlt:(i:Int) < ((n - a:Nat):Int):=of_decide_eq_true hlt
   obtain ⟨b',o',hA,hcl⟩:=le_get hdr (i:=i) (by omega) (by omega)
   have hcons:r.drop i=r[i] :: r.drop (i+1):=List.drop_eq_getElem_cons (by omega)
   have hstep:=lo7_take r i (by omega)
   have hacc:=lo7_lt (r.take i)
   rw [List.length_take,Nat.min_eq_left hi,pow7] at hacc
   rw [hcons] at hat
   generalize hx:r[i]=x at hcl hat hcons hstep
   have hx8:x.toNat < 256:=x.toNat_lt
   have e7:IntKind.wrap .i64 (7 * (i:Int))=((7 * i:Nat):Int):=by rw [i64_id (by omega) (by omega)]; rfl
   have e1:=le_e1 i (by omega)
   have ea:IntKind.wrap .i64 (((a+i:Nat):Int)+1)=((a+(i+1):Nat):Int):=by rw [i64_id (by omega) (by omega)]; omega
   rw [hA]
   refine dr_mk (gd_mk (decide_eq_true (by show (0:Int)<=(i:Int); omega)) (gd_mk (decide_eq_true (by show (i:Int) < ((n - a:Nat):Int); omega)) ⟨_,hcl,?_⟩))
   show gd (decide (0<=IntKind.wrap .i64 (7 * (i:Int)))) _
   dsimp only
   rw [e7,ea,and127,u64_id (n:=((x.toNat % 128:Nat):Int)) (by omega) (by omega),Int.toNat_natCast,Nat.min_eq_left (show 7 * i<=64 by omega),<- hA]
   refine gd_mk (decide_eq_true (by omega)) ?_
   have num:¬ (i=9/\x.toNat > 1)->iOr .u64 ((lo7 (r.take i):Nat):Int) (IntKind.wrap .u64 (((x.toNat % 128:Nat):Int) * 2 ^ (7 * i)))=((lo7 (r.take (i+1)):Nat):Int):=by
    intro hno
    rw [or_add hacc,<- pow7,<- hstep]
    by_cases h9':i=9
    ·subst h9'
     have:x.toNat<=1:=by omega
     have hp:(2:Nat) ^ (7 * 9) * (x.toNat % 128)<=2 ^ 63 * 1:=Nat.mul_le_mul (Nat.le_refl _) (by omega)
     have:(2:Nat) ^ (7 * 9)=2 ^ 63:=rfl
     omega
    ·have hle:=lo7_lt (r.take (i+1))
     rw [hstep,List.length_take,Nat.min_eq_left (by omega),pow7,pow7] at hle
     exact Nat.lt_of_lt_of_le hle (Nat.pow_le_pow_right (by omega) (by omega))
   have tail:∀ t:Bool,t=decide (i=9/\x.toNat > 1)->jnC (F94.k11 (fun v w'=>v=vaV (vaT b (a:Int))/\w'=u) C) (iOr .u64 ((lo7 (r.take i):Nat):Int) (IntKind.wrap .u64 (((x.toNat % 128:Nat):Int) * 2 ^ (7 * i))),4,((a+(i+1):Nat):Int),(i:Int),(x.toNat:Int),(slA A c a 1,n - a,c - a),((n - a:Nat):Int),(i:Int),t,()) u:=by
    rintro t rfl
    refine jnC_mk (fun _=>vIf_mk (fun h3=>jnC_mk (fun _=>⟨?_,rfl⟩)) (fun h3=>?_))
    ·obtain ⟨rfl,h4⟩:=of_decide_eq_true h3
     rw [vaT_e hab (by rw [hrd]; exact va_20 hat h4) (by decide)]; rfl
    ·have h3:=of_decide_eq_false h3
     rw [num h3]
     have good:¬ x.toNat >= 128->¬ (x.toNat=0/\i > 0)->vaT b (a:Int)=(lo7 (r.take (i+1)),((a+(i+1):Nat):Int),0):=by
      intro g1 g2
      rw [vaT_v hab (by rw [hrd]; exact va_ok hat h3 g1 g2),hstep,Nat.mod_eq_of_lt (by omega)]
      congr 1
     refine vIf_mk (fun h4=>?_) (fun h4=>vIf_mk (fun h5=>vIf_mk (fun h6=>jnC_mk (fun _=>⟨?_,rfl⟩)) (fun h6=>jnC_mk (fun _=>⟨?_,rfl⟩))) (fun h5=>jnC_mk (fun _=>⟨?_,rfl⟩)))
     ·have h4:(x.toNat:Int) >= 128:=of_decide_eq_true h4
      show jnC C (((lo7 (r.take (i+1)):Nat):Int),4,((a+(i+1):Nat):Int),(slA A c a 1,n - a,c - a),((n - a:Nat):Int),IntKind.wrap .i64 ((i:Int)+1),()) u
      rw [e1]
      refine jnC_mk (hC _ _ ⟨rfl,i+1,by omega,by omega,rfl,fun j h hj=>?_⟩ ?_)
      ·by_cases hji:j=i
       ·subst hji; rw [hx]; omega
       ·exact hbs j h (by omega)
      ·show (((n - a:Nat):Int) - ((i+1:Nat):Int)).toNat < (((n - a:Nat):Int) - (i:Int)).toNat
       omega
     ·have h5:(x.toNat:Int)=0:=by simpa using h5
      have h6:(i:Int) > 0:=of_decide_eq_true h6
      rw [vaT_e hab (by rw [hrd]; exact va_3 hat (by omega) (by omega)) (by decide)]; rfl
     ·have h4:¬ (x.toNat:Int) >= 128:=of_decide_eq_false h4
      have h6:¬ (i:Int) > 0:=of_decide_eq_false h6
      rw [good (by omega) (by omega)]; rfl
     ·have h4:¬ (x.toNat:Int) >= 128:=of_decide_eq_false h4
      have h5:¬ (x.toNat:Int)=0:=by simpa using h5
      rw [good (by omega) (by omega)]; rfl
   refine vIf_mk (fun hi9=>tail _ ?_) (fun hi9=>tail _ ?_)
   ·have hi9:(i:Int)=9:=by simpa using hi9
    exact decide_eq_decide.2 ⟨fun h=>⟨by omega,by omega⟩,fun h=>by have:=h.2; omega⟩
   ·have hi9:¬ (i:Int)=9:=by simpa using hi9
    exact (decide_eq_false (fun h=>hi9 (by omega))).symm
  ·have hge:¬ (i:Int) < ((n - a:Nat):Int):=of_decide_eq_false hge
   have hil:i=r.length:=by omega
   rw [List.drop_of_length_le (by omega)] at hat
   rw [vaT_e hab (by rw [hrd]; exact va_4 hat) (by decide)]; rfl
theorem mod128 (c:UInt8):IntKind.wrap .u64 (Int.tmod (c.toNat:Int) 128)=((c.toNat % 128:Nat):Int):=by
 have hx8:c.toNat < 256:=c.toNat_lt
 rw [show Int.tmod (c.toNat:Int) 128=_ from tmod_nat c.toNat 128,u64_id (by omega) (by omega)]
def EndK (r:List UInt8) (k:Nat):Prop:=k=10\/k=r.length\/∃ x,r[k]?=some x/\¬ x.toNat > 127
def Top9 (r:List UInt8):Prop:=∃ x,r[9]?=some x/\x.toNat > 1
set_option maxHeartbeats 1000000 in
theorem rva_calls (A:Option Addr) (n c:Nat) (b:List UInt8) (at_:Int) (w:World) (h:Sl w 1 A n (b.map bv)) (hn:n<=1099511627776) :
  Calls Tryz.prog 107 #[.slice A n c,.int .i64 at_] w fun e w'=>e=.returned (vaV (vaT b at_))/\w'=w:=by
 have hl:=sl_len h
 refine (F107.of A n c at_ w (Q:=fun v w'=>v=vaV (vaT b at_)/\w'=w) ?_).mono (fun e w' ⟨v,he,hv,h⟩=>⟨by rw [he,hv],h⟩)
 refine vIf_mk (fun h1=>jnC_mk (fun _=>vIf_t rfl ⟨?_,rfl⟩)) (fun h1=>jnC_mk (fun _=>vIf_mk (fun h2=>⟨?_,rfl⟩) (fun h2=>jnC_mk (fun _=>?_))))
 ·have h1:at_ < 0:=of_decide_eq_true h1
  rw [vaT_err2 (.inl h1)]; rfl
 ·have h2:at_ > (n:Int):=of_decide_eq_true h2
  rw [vaT_err2 (.inr (by omega))]; rfl
 ·have h1:¬ at_ < 0:=of_decide_eq_false h1
  have h2:¬ at_ > (n:Int):=of_decide_eq_false h2
  obtain ⟨a,rfl⟩:∃ a:Nat,at_=(a:Int):=⟨at_.toNat,by omega⟩
  have hab:a<=b.length:=by omega
  have hrl:(b.drop a).length=n - a:=by rw [List.length_drop,hl]
  have cell:∀ i,i < (b.drop a).length->∃ b' o',A=some ⟨b',o',none⟩/\cellAt w b' (o'+(a+i) * 1)=some (.int .u8 (((b.drop a)[i]?.getD 0).toNat:Int)):=by
   intro i hi
   obtain ⟨b',o',hA,hcl⟩:=le_get h (i:=a+i) (by omega) (by omega)
   refine ⟨b',o',hA,?_⟩
   rw [hcl,List.getElem?_eq_getElem hi]
   simp
  generalize hrd:b.drop a=r at hrl cell
  have ei:∀ i:Nat,i < 1000->IntKind.wrap .i64 ((a:Int)+(i:Int))=((a+i:Nat):Int):=fun i hi=>by rw [i64_id (by omega) (by omega)]; rfl
  have ld:∀ (i:Nat) (K:Int->Prop),i < r.length->(∀ x:UInt8,r[i]?=some x->K (x.toNat:Int))->dr A fun b4 o5=>gd (decide (0<=((a+i:Nat):Int)))<|gd (decide (((a+i:Nat):Int) < (n:Int)))<|ldI .u8 w b4 (o5+(((a+i:Nat):Int)).toNat * 1) K:=by
   intro i K hi hK
   obtain ⟨b',o',hA,hcl⟩:=cell i hi
   rw [hA]
   rw [List.getElem?_eq_getElem hi] at hcl
   exact dr_mk (gd_mk (decide_eq_true (by omega)) (gd_mk (decide_eq_true (by omega)) ⟨_,by rw [Int.toNat_natCast]; exact hcl,hK _ (List.getElem?_eq_getElem hi)⟩))
  have k6:∀ k:Nat,k<=10->k<=r.length->(∀ j (h:j < r.length),j < k->r[j].toNat >= 128)->EndK r k->jnC (F107.k6 (fun v w'=>v=vaV (vaT b (a:Int))/\w'=w)) ((A,n,c),(a:Int),(k:Int),()) w:=by
   intro k hk hkl hbs hend
   have k8:k<=9->(k=9->∀ x,r[9]?=some x->¬ x.toNat > 1)->jnC (F107.k8 (fun v w'=>v=vaV (vaT b (a:Int))/\w'=w)) ((A,n,c),(a:Int),(k:Int),()) w:=by
    intro hk9 hno20
    have hat:=va_at r k hk9 hkl hbs
    refine jnC_mk (fun _=>?_)
    show vIf (decide (IntKind.wrap .i64 ((a:Int)+(k:Int)) >= (n:Int))) _ _
    refine vIf_mk (fun h3=>⟨?_,rfl⟩) (fun h3=>?_)
    ·have h3:IntKind.wrap .i64 ((a:Int)+(k:Int)) >= (n:Int):=of_decide_eq_true h3
     rw [ei k (by omega)] at h3
     rw [List.drop_of_length_le (by omega)] at hat
     rw [vaT_e hab (by rw [hrd]; exact va_4 hat) (by decide)]; rfl
    ·have h3:¬ IntKind.wrap .i64 ((a:Int)+(k:Int)) >= (n:Int):=of_decide_eq_false h3
     rw [ei k (by omega)] at h3
     have hkr:k < r.length:=by omega
     have hlow:¬ r[k].toNat > 127:=by
      rcases hend with h | h | ⟨x,h,h'⟩
      ·exact absurd hk9 (by omega)
      ·exact absurd hkr (by omega)
      ·rw [List.getElem?_eq_getElem hkr] at h
       rw [Option.some.inj h]; exact h'
     rw [List.drop_eq_getElem_cons hkr] at hat
     have hstep:=lo7_take r k hkr
     have h20:¬ (k=9/\r[k].toNat > 1):=fun ⟨h,h'⟩=>by subst h; exact hno20 rfl _ (List.getElem?_eq_getElem hkr) h'
     have k11:∀ t:Bool,t=decide (r[k].toNat=0/\k > 0)->jnC (F107.k11 (fun v w'=>v=vaV (vaT b (a:Int))/\w'=w)) ((A,n,c),(a:Int),(k:Int),t,()) w:=by
      rintro t rfl
      refine jnC_mk (fun _=>vIf_mk (fun h4=>⟨?_,rfl⟩) (fun h4=>jnC_mk (fun _=>?_)))
      ·have h4:=of_decide_eq_true h4
       rw [vaT_e hab (by rw [hrd]; exact va_3 hat h4.1 h4.2) (by decide)]; rfl
      ·have h4:=of_decide_eq_false h4
       have hval:vaT b (a:Int)=(lo7 (r.take (k+1)),(a:Int)+((k+1:Nat):Int),0):=by
        rw [vaT_v hab (by rw [hrd]; exact va_ok hat h20 (by omega) h4),hstep,Nat.mod_eq_of_lt (by omega)]
       have hup:lo7 (r.take (k+1)) < 2 ^ 64:=by
        by_cases h9':k=9
        ·subst h9'
         have hp:(128:Nat) ^ 9 * (r[9].toNat % 128)<=128 ^ 9 * 1:=Nat.mul_le_mul (Nat.le_refl _) (by omega)
         have hq:=lo7_lt (r.take 9)
         rw [List.length_take,Nat.min_eq_left (by omega)] at hq
         have e1:(128:Nat) ^ 9=9223372036854775808:=rfl
         have e2:(2:Nat) ^ 64=18446744073709551616:=rfl
         rw [hstep]; omega
        ·have hle:=lo7_lt (r.take (k+1))
         rw [List.length_take,Nat.min_eq_left (by omega),pow7] at hle
         exact Nat.lt_of_lt_of_le hle (Nat.pow_le_pow_right (by omega) (by omega))
       refine jnC_mk (loop_rule (fun s u=>u=w/\∃ i:Nat,i<=k+1/\s=((A,n,c),(a:Int),(k:Int),((lo7 ((r.take (k+1)).drop i):Nat):Int),(i:Int) - 1,())) (fun s _=>(s.2.2.2.2.1+1).toNat) ?_ _ _ ⟨rfl,k+1,Nat.le_refl _,?_⟩)
       ·rintro s u C ⟨rfl,i,hi,rfl⟩ hC _
        refine vIf_mk (fun hlt=>?_) (fun hge=>?_)
        ·have hlt:(i:Int) - 1 >= 0:=of_decide_eq_true hlt
         obtain ⟨q,rfl⟩:∃ q,i=q+1:=⟨i - 1,by omega⟩
         have eq1:((q+1:Nat):Int) - 1=(q:Int):=by omega
         dsimp only
         rw [eq1,ei q (by omega)]
         refine ld q _ (by omega) (fun x hx=>?_)
         have hd:(r.take (k+1)).drop q=x :: (r.take (k+1)).drop (q+1):=by
          rw [List.drop_eq_getElem_cons (by rw [List.length_take]; omega)]
          congr 1
          rw [List.getElem_take]
          rw [List.getElem?_eq_getElem (by omega)] at hx
          exact Option.some.inj hx
         have hup':lo7 ((r.take (k+1)).drop q) < 2 ^ 64:=by
          refine Nat.lt_of_le_of_lt ?_ hup
          have:=lo7_app ((r.take (k+1)).take q) ((r.take (k+1)).drop q)
          rw [List.take_append_drop] at this
          rw [this]
          have h1:1 * lo7 ((r.take (k+1)).drop q)<=128 ^ ((r.take (k+1)).take q).length * lo7 ((r.take (k+1)).drop q):=Nat.mul_le_mul (Nat.pow_pos (by omega)) (Nat.le_refl _)
          omega
         rw [hd,lo7] at hup'
         have h64:(2:Nat) ^ 64=18446744073709551616:=rfl
         rw [mod128]
         rw [u64_id (n:=((lo7 ((r.take (k+1)).drop (q+1)):Nat):Int) * 128) (by omega) (by omega),u64_id (n:=((lo7 ((r.take (k+1)).drop (q+1)):Nat):Int) * 128+((x.toNat % 128:Nat):Int)) (by omega) (by omega),i64_id (n:=(q:Int) - 1) (by omega) (by omega)]
         refine jnC_mk (hC _ _ ⟨rfl,q,by omega,?_⟩ ?_)
         ·rw [hd,lo7]
          have e:((lo7 ((r.take (k+1)).drop (q+1)):Nat):Int) * 128+((x.toNat % 128:Nat):Int)=((x.toNat % 128+128 * lo7 ((r.take (k+1)).drop (q+1)):Nat):Int):=by omega
          rw [e]
         ·show ((q:Int) - 1+1).toNat < (((q+1:Nat):Int) - 1+1).toNat
          omega
        ·have hge:¬ (i:Int) - 1 >= 0:=of_decide_eq_false hge
         obtain rfl:i=0:=by omega
         refine ⟨?_,rfl⟩
         rw [hval]
         dsimp only
         rw [ei k (by omega),i64_id (by omega) (by omega)]
         have e:((a+k:Nat):Int)+1=(a:Int)+((k+1:Nat):Int):=by omega
         rw [e]; rfl
       ·rw [List.drop_of_length_le (by rw [List.length_take]; omega)]
        have e:(k:Int)=((k+1:Nat):Int) - 1:=by omega
        show ((A,n,c),(a:Int),(k:Int),(0:Int),(k:Int),())=((A,n,c),(a:Int),(k:Int),(0:Int),((k+1:Nat):Int) - 1,())
        rw [<- e]
     refine vIf_mk (fun h4=>?_) (fun h4=>k11 _ ?_)
     ·have h4:(k:Int) > 0:=of_decide_eq_true h4
      dsimp only
      rw [ei k (by omega)]
      refine ld k _ hkr (fun x hx=>k11 _ ?_)
      rw [List.getElem?_eq_getElem hkr] at hx
      have hx:=Option.some.inj hx
      rw [hx]
      by_cases h0:x.toNat=0
      ·rw [h0,decide_eq_true ⟨rfl,by omega⟩]; rfl
      ·rw [decide_eq_false (fun h=>h0 h.1)]
       simp; omega
     ·have h4:¬ (k:Int) > 0:=of_decide_eq_false h4
      exact (decide_eq_false (fun h=>h4 (by omega))).symm
   have k7:∀ t:Bool,(t=true ↔ k >= 9/\Top9 r)->jnC (F107.k7 (fun v w'=>v=vaV (vaT b (a:Int))/\w'=w)) ((A,n,c),(a:Int),(k:Int),t,()) w:=by
    intro t ht
    refine jnC_mk (fun _=>vIf_mk (fun h3=>⟨?_,rfl⟩) (fun h3=>k8 ?_ ?_))
    ·obtain ⟨h9,x,hx9,hx⟩:=ht.1 h3
     obtain ⟨h9r,rfl⟩:=List.getElem?_eq_some_iff.1 hx9
     have hat:=va_at r 9 (Nat.le_refl _) (by omega) (fun j h hj=>hbs j h (by omega))
     rw [List.drop_eq_getElem_cons h9r] at hat
     rw [vaT_e hab (by rw [hrd]; exact va_20 hat hx) (by decide)]; rfl
    ·have h3:¬ t=true:=by have:t=false:=h3; rw [this]; decide
     rcases Nat.lt_or_ge 9 k with h | h
     ·have h10:k=10:=by omega
      exact absurd (ht.2 ⟨by omega,_,List.getElem?_eq_getElem (show 9 < r.length by omega),by have:=hbs 9 (by omega) (by omega); omega⟩) h3
     ·exact h
    ·have h3:¬ t=true:=by have:t=false:=h3; rw [this]; decide
     exact fun h9 x h9r hx=>h3 (ht.2 ⟨by omega,x,h9r,hx⟩)
   refine jnC_mk (fun _=>vIf_mk (fun h3=>?_) (fun h3=>k7 _ ⟨(fun h=>by cases h),fun h=>?_⟩))
   ·have h3:(k:Int) >= 9:=of_decide_eq_true h3
    show vIf (decide (IntKind.wrap .i64 ((a:Int)+9) < (n:Int))) _ _
    dsimp only
    rw [show (9:Int)=((9:Nat):Int) from rfl,ei 9 (by omega)]
    refine vIf_mk (fun h4=>?_) (fun h4=>k7 _ ⟨(fun h=>by cases h),fun h=>?_⟩)
    ·have h4:((a+9:Nat):Int) < (n:Int):=of_decide_eq_true h4
     refine ld 9 _ (by omega) (fun x hx=>k7 _ ?_)
     constructor
     ·intro h
      have h:(x.toNat:Int) > 1:=of_decide_eq_true h
      exact ⟨by omega,x,hx,by omega⟩
     ·rintro ⟨_,y,h9,h⟩
      rw [hx] at h9
      cases h9
      exact decide_eq_true (by omega)
    ·have h4:¬ ((a+9:Nat):Int) < (n:Int):=of_decide_eq_false h4
     obtain ⟨_,y,h9,_⟩:=h
     have:=(List.getElem?_eq_some_iff.1 h9).1
     omega
   ·have h3:¬ (k:Int) >= 9:=of_decide_eq_false h3
    have:=h.1; omega
  refine jnC_mk (loop_rule (fun s u=>u=w/\∃ k:Nat,k<=10/\k<=r.length/\s=((A,n,c),(a:Int),(k:Int),())/\∀ j (h:j < r.length),j < k->r[j].toNat >= 128) (fun s _=>(10 - s.2.2.1).toNat) ?_ _ _ ⟨rfl,0,by omega,by omega,rfl,fun j h hj=>by omega⟩)
  rintro s u C ⟨rfl,k,hk,hkl,rfl,hbs⟩ hC _
  show vIf (decide (IntKind.wrap .i64 ((a:Int)+(k:Int)) < (n:Int))) _ _
  dsimp only
  rw [ei k (by omega)]
  refine vIf_mk (fun h3=>vIf_mk (fun h4=>?_) (fun h4=>k6 k hk hkl hbs (.inl ?_))) (fun h3=>k6 k hk hkl hbs (.inr (.inl ?_)))
  ·have h3:((a+k:Nat):Int) < (n:Int):=of_decide_eq_true h3
   have h4:(k:Int) < 10:=of_decide_eq_true h4
   have hkr:k < r.length:=by omega
   refine ld k _ hkr (fun x hx=>?_)
   have hx':=hx
   rw [List.getElem?_eq_getElem hkr] at hx
   have hx:=Option.some.inj hx
   refine vIf_mk (fun h5=>jnC_mk (hC _ _ ⟨rfl,k+1,by omega,by omega,by rw [le_e1 k (by omega)],fun j h hj=>?_⟩ ?_)) (fun h5=>k6 k hk hkl hbs (.inr (.inr ⟨x,hx',?_⟩)))
   ·have h5:(x.toNat:Int) > 127:=of_decide_eq_true h5
    by_cases hjk:j=k
    ·subst hjk; rw [hx]; omega
    ·exact hbs j h (by omega)
   ·show (10 - IntKind.wrap .i64 ((k:Int)+1)).toNat < (10 - (k:Int)).toNat
    rw [le_e1 k (by omega)]; omega
   ·have h5:¬ (x.toNat:Int) > 127:=of_decide_eq_false h5
    omega
  ·have h4:¬ (k:Int) < 10:=of_decide_eq_false h4
   omega
  ·have h3:¬ ((a+k:Nat):Int) < (n:Int):=of_decide_eq_false h3
   omega
def cv (x:BitVec 32):Value:=.int .u32 (x.toNat:Int)
theorem u32_id {n:Int} (h1:0<=n) (h2:n < 4294967296):IntKind.wrap .u32 n=n:=by
 rw [IntKind.wrap_u32]; omega
theorem cofInt (x:BitVec 32):BitVec.ofInt 32 (x.toNat:Int)=x:=by
 apply BitVec.eq_of_toNat_eq
 have:=x.isLt
 simp
theorem c_xor (a b:BitVec 32):iXor .u32 (a.toNat:Int) (b.toNat:Int)=((a ^^^ b).toNat:Int):=by
 unfold iXor
 show IntKind.wrap .u32 (((BitVec.ofInt 32 (a.toNat:Int) ^^^ BitVec.ofInt 32 (b.toNat:Int)).toNat:Nat):Int)=_
 rw [cofInt,cofInt]
 have:=(a ^^^ b).isLt
 exact u32_id (by omega) (by omega)
theorem c_not (a:BitVec 32):iXor .u32 4294967295 (a.toNat:Int)=((~~~a).toNat:Int):=by
 have h:=c_xor (BitVec.allOnes 32) a
 rw [BitVec.allOnes_xor] at h
 exact h
theorem c_shr (a:BitVec 32) (k:Nat):Int.fdiv (a.toNat:Int) (2 ^ k)=((a >>> k).toNat:Int):=by
 rw [BitVec.toNat_ushiftRight,Nat.shiftRight_eq_div_pow,Int.fdiv_eq_ediv_of_nonneg _ (by exact_mod_cast Nat.zero_le (2 ^ k))]
 push_cast
 rfl
theorem c_low (a:BitVec 32):(iAnd .u32 (a.toNat:Int) 1 == 1)=a.getLsbD 0:=by
 unfold iAnd
 show (IntKind.wrap .u32 (((BitVec.ofInt 32 (a.toNat:Int) &&& BitVec.ofInt 32 1).toNat:Nat):Int) == 1)=_
 have e:BitVec.ofInt 32 1=1#32:=rfl
 rw [cofInt,e]
 have h:(a &&& 1#32).toNat=a.toNat % 2:=by
  rw [BitVec.toNat_and]
  exact Nat.and_one_is_mod _
 rw [h,u32_id (by omega) (by omega),BitVec.getLsbD,Nat.testBit_zero]
 by_cases h2:a.toNat % 2=1
 ·rw [h2]; rfl
 ·have h3:a.toNat % 2=0:=by omega
  rw [h3]; rfl
theorem and15:∀ v:Fin 256,iAnd .u8 (v.val:Int) 15=((v.val % 16:Nat):Int):=by decide +kernel
theorem and15n {v:Nat} (h:v < 256):iAnd .u8 (v:Int) 15=((v % 16:Nat):Int):=and15 ⟨v,h⟩
theorem xor16:∀ a b:Fin 16,iXor .u8 (a.val:Int) (b.val:Int)=((a.val ^^^ b.val:Nat):Int):=by decide +kernel
theorem xor16n {a b:Nat} (ha:a < 16) (hb:b < 16):iXor .u8 (a:Int) (b:Int)=((a ^^^ b:Nat):Int):=xor16 ⟨a,ha⟩ ⟨b,hb⟩
theorem u8_of (x:BitVec 32):IntKind.wrap .u8 (x.toNat:Int)=((x.toNat % 256:Nat):Int):=by rw [IntKind.wrap_u8]; omega
theorem idx_nat (x:BitVec 32) (m:Nat) (hm:m < 16):((x ^^^ BitVec.ofNat 32 m) &&& 15#32).toNat=(x.toNat % 16) ^^^ m:=by
 rw [BitVec.toNat_and,BitVec.toNat_xor,BitVec.toNat_ofNat,Nat.mod_eq_of_lt (show m < 2 ^ 32 by omega)]
 have:(15#32).toNat=2 ^ 4 - 1:=rfl
 rw [this,Nat.and_two_pow_sub_one_eq_mod,Nat.xor_mod_two_pow]
 rw [show 2 ^ 4=16 from rfl,Nat.mod_eq_of_lt hm]
theorem idx_lo (x:BitVec 32) (c:UInt8):iXor .u8 (iAnd .u8 (IntKind.wrap .u8 (x.toNat:Int)) 15) (iAnd .u8 (c.toNat:Int) 15)=(((x ^^^ BitVec.ofNat 32 (c.toNat % 16)) &&& 15#32).toNat:Int):=by
 have hc:c.toNat < 256:=c.toNat_lt
 rw [u8_of,and15n (Nat.mod_lt _ (by omega)),and15n hc,xor16n (by omega) (by omega),idx_nat x _ (by omega),show x.toNat % 256 % 16=x.toNat % 16 by omega]
theorem idx_hi (x:BitVec 32) (c:UInt8):iXor .u8 (iAnd .u8 (IntKind.wrap .u8 (x.toNat:Int)) 15) (Int.fdiv (c.toNat:Int) (2 ^ 4))=(((x ^^^ BitVec.ofNat 32 (c.toNat / 16)) &&& 15#32).toNat:Int):=by
 have hc:c.toNat < 256:=c.toNat_lt
 have e:Int.fdiv (c.toNat:Int) (2 ^ 4)=((c.toNat / 16:Nat):Int):=by
  rw [Int.fdiv_eq_ediv_of_nonneg _ (by decide)]; rfl
 rw [u8_of,and15n (Nat.mod_lt _ (by omega)),e,xor16n (by omega) (by omega),idx_nat x _ (by omega),show x.toNat % 256 % 16=x.toNat % 16 by omega]
theorem idx_lt (y:BitVec 32):(y &&& 15#32).toNat < 16:=by
 rw [BitVec.toNat_and]
 have:y.toNat &&& (15#32).toNat<=(15#32).toNat:=Nat.and_le_right
 have e:(15#32).toNat=15:=rfl
 omega
def tabN (i:Nat):List Value:=(List.range 16).map fun j=>if j < i then cv (crF4 (BitVec.ofNat 32 j)) else .int .u32 0
theorem tabN_len (i:Nat):(tabN i).length=16:=by simp [tabN]
theorem tabN_get (i j:Nat) (hj:j < 16):(tabN i)[j]?=some (if j < i then cv (crF4 (BitVec.ofNat 32 j)) else .int .u32 0):=by
 unfold tabN
 rw [List.getElem?_map,List.getElem?_range hj]; rfl
theorem tabN_one (i:Nat):∀ v ∈ tabN i,v.oneCell'=true:=by
 intro v hv
 obtain ⟨j,_,rfl⟩:=List.mem_map.1 hv
 show Value.oneCell' (if j < i then cv (crF4 (BitVec.ofNat 32 j)) else .int .u32 0)=true
 split <;> rfl
theorem tabN_zero:tabN 0=Z261:=rfl
theorem tabN_next (i:Nat) (hi:i < 16):splice (tabN i) i [cv (crF4 (BitVec.ofNat 32 i))]=tabN (i+1):=by
 apply List.ext_getElem?
 intro j
 rw [splice_get (by rw [tabN_len]; show i+1<=16; omega)]
 by_cases h1:j < i
 ·rw [if_pos h1,tabN_get _ _ (by omega),tabN_get _ _ (by omega),if_pos h1,if_pos (by omega)]
 ·rw [if_neg h1]
  by_cases h2:j=i
  ·subst h2
   rw [if_pos (by show j < j+1; omega),tabN_get _ _ (by omega),if_pos (by omega),Nat.sub_self]; rfl
  ·rw [if_neg (by show ¬ j < i+1; omega)]
   by_cases h3:j < 16
   ·rw [tabN_get _ _ h3,tabN_get _ _ h3,if_neg h1,if_neg (by omega)]
   ·rw [List.getElem?_eq_none (by rw [tabN_len]; omega),List.getElem?_eq_none (by rw [tabN_len]; omega)]
set_option maxHeartbeats 1000000 in
theorem nibbles_calls (w:World):Calls Tryz.prog 177 #[] w fun e w'=>e=.returned (ofL (tabN 16))/\Fr (fun _=>False) w w':=by
 refine (F177.of w (Q:=fun v w'=>v=ofL (tabN 16)/\Fr (fun _=>False) w w') ?_).mono (fun e w' ⟨v,he,hv,h⟩=>⟨by rw [he,hv],h⟩)
 refine nw_mk (nw_mk ?_)
 have r1:=RecAt.new w Z261 261
 have f1:Fr (fun _=>False) w (w.alloc (.cells Z261.toArray 261)):=Fr.alloc _ _ _
 have s1:=f1.size
 have e1:(w.alloc (.cells Z261.toArray 261)).heap.size=w.heap.size+1:=alloc_size _ _
 generalize hw1:w.alloc (.cells Z261.toArray 261)=w1 at r1 f1 s1 e1 ⊢
 have r2:=RecAt.new w1 Z261 261
 have f2:Fr (fun _=>False) w1 (w1.alloc (.cells Z261.toArray 261)):=Fr.alloc _ _ _
 have r1:=r1.fr f2 (fun h=>h)
 have f12:=f1.trans1 f2
 generalize hw2:w1.alloc (.cells Z261.toArray 261)=w2 at r1 r2 f2 f12 ⊢
 rw [<- tabN_zero] at r2
 refine jnC_mk (loop_rule (fun s u=>∃ i:Nat,i<=16/\s=((w.heap.size,0),(w1.heap.size,0),(i:Int),())/\Fr (fun _=>False) w u/\RecAt u w.heap.size 261 Z261/\RecAt u w1.heap.size 261 (tabN i)) (fun s _=>(16 - s.2.2.1).toNat) ?_ _ _ ⟨0,by omega,rfl,f12,r1,r2⟩)
 rintro s u C ⟨i,hi,rfl,hf,q1,q2⟩ hC _
 refine vIf_mk (fun hlt=>?_) (fun hge=>?_)
 ·have hlt:(i:Int) < 16:=of_decide_eq_true hlt
  have ei:IntKind.wrap .u32 (i:Int)=(((BitVec.ofNat 32 i).toNat:Nat):Int):=by
   rw [u32_id (by omega) (by omega),BitVec.toNat_ofNat,Nat.mod_eq_of_lt (by omega)]
  refine jnC_mk (loop_rule (fun s v=>v=u/\∃ k:Nat,k<=4/\s=((w.heap.size,0),(w1.heap.size,0),(i:Int),(((Nat.repeat crF k (BitVec.ofNat 32 i)).toNat:Nat):Int),(i:Int),(k:Int),())) (fun s _=>(4 - s.2.2.2.2.2.1).toNat) ?_ _ _ ⟨rfl,0,by omega,?_⟩)
  ·rintro s v C' ⟨rfl,k,hk,rfl⟩ hC' _
   refine vIf_mk (fun hk4=>?_) (fun hk4=>?_)
   ·have hk4:(k:Int) < 4:=of_decide_eq_true hk4
    generalize hx:Nat.repeat crF k (BitVec.ofNat 32 i)=x
    have hnext:Nat.repeat crF (k+1) (BitVec.ofNat 32 i)=crF x:=by rw [<- hx]; rfl
    have eP:(2197175160:Int)=(crP.toNat:Int):=rfl
    dsimp only
    rw [c_low,c_shr,eP,c_xor,le_e1 k (by omega)]
    refine vIf_mk (fun hb=>jnC_mk (hC' _ _ ⟨rfl,k+1,by omega,?_⟩ ?_)) (fun hb=>jnC_mk (hC' _ _ ⟨rfl,k+1,by omega,?_⟩ ?_))
    ·rw [hnext]; unfold crF; rw [if_pos hb]
    ·show (4 - ((k+1:Nat):Int)).toNat < (4 - (k:Int)).toNat
     omega
    ·rw [hnext]; unfold crF; rw [if_neg (by rw [hb]; decide),BitVec.xor_zero]
    ·show (4 - ((k+1:Nat):Int)).toNat < (4 - (k:Int)).toNat
     omega
   ·have hk4:¬ (k:Int) < 4:=of_decide_eq_false hk4
    obtain rfl:k=4:=by omega
    refine gd_mk (decide_eq_true (by show (0:Int)<=(i:Int); omega)) (gd_mk (decide_eq_true hlt) ?_)
    dsimp only
    rw [Int.toNat_natCast,show 0+i * 1=i by omega]
    have hv:Nat.repeat crF 4 (BitVec.ofNat 32 i)=crF4 (BitVec.ofNat 32 i):=rfl
    rw [hv]
    refine q2.st_mk (vs:=[cv (crF4 (BitVec.ofNat 32 i))]) (by rw [tabN_len]; show i+1<=16; omega) (fun v hv=>by simp at hv; subst hv; rfl) (fun q3 f3=>?_)
    rw [tabN_next i (by omega)] at q3
    rw [le_e1 i (by omega)]
    refine jnC_mk (hC _ _ ⟨i+1,by omega,rfl,hf.trans f3 (fun _ _ h=>h) (fun k hk h=>by omega),q1.fr f3 (fun h=>by omega),q3⟩ ?_)
    show (16 - ((i+1:Nat):Int)).toNat < (16 - (i:Int)).toNat
    omega
  ·rw [ei]; rfl
 ·have hge:¬ (i:Int) < 16:=of_decide_eq_false hge
  obtain rfl:i=16:=by omega
  refine ⟨tabN 16,rfl,q2.cells (o:=0) (fun j v hj=>by rw [Nat.zero_add]; exact hj),gd_mk rfl ?_⟩
  refine q1.st_mk (o:=0) (vs:=tabN 16) (by rw [tabN_len]; decide) (tabN_one 16) (fun q3 f3=>?_)
  rw [splice_full (by rw [tabN_len]; rfl)] at q3
  exact ⟨tabN 16,rfl,q3.cells (o:=0) (fun j v hj=>by rw [Nat.zero_add]; exact hj),rfl,hf.trans f3 (fun _ _ h=>h) (fun k hk h=>by omega)⟩
set_option maxHeartbeats 1000000 in
theorem crc_calls (A:Option Addr) (n c:Nat) (b:List UInt8) (w:World) (h:Sl w 1 A n (b.map bv)) (hn:n<=1099511627776) :
  Calls Tryz.prog 91 #[.slice A n c] w fun e w'=>e=.returned (.int .u32 ((crcS b).toNat:Int))/\Fr (fun _=>False) w w':=by
 have hl:=sl_len h
 refine (F91.of A n c w (Q:=fun v w'=>v=.int .u32 ((crcS b).toNat:Int)/\Fr (fun _=>False) w w') ?_).mono (fun e w' ⟨v,he,hv,h⟩=>⟨by rw [he,hv],h⟩)
 have more:Calls Tryz.prog 145 #[.int .u32 0,.slice A n c] w fun e w'=>e=.returned (.int .u32 ((crcS b).toNat:Int))/\Fr (fun _=>False) w w':=by
  refine (F145.of 0 A n c w (Q:=fun v w'=>v=.int .u32 ((crcS b).toNat:Int)/\Fr (fun _=>False) w w') ?_).mono (fun e w' ⟨v,he,hv,h⟩=>⟨by rw [he,hv],h⟩)
  refine (nibbles_calls w).mono ?_
  rintro e w1 ⟨rfl,f1⟩
  refine ⟨_,rfl,nw_mk (gd_mk (by rw [tabN_len]; rfl) ?_)⟩
  have r1:=RecAt.new w1 Z261 261
  have f2:Fr (fun _=>False) w1 (w1.alloc (.cells Z261.toArray 261)):=Fr.alloc _ _ _
  generalize hw2:w1.alloc (.cells Z261.toArray 261)=w2 at r1 f2 ⊢
  refine r1.st_mk (o:=0) (vs:=tabN 16) (by rw [tabN_len]; decide) (tabN_one 16) (fun r2 f3=>?_)
  rw [splice_full (by rw [tabN_len]; rfl)] at r2
  have f:=(f1.trans1 f2).trans f3 (U:=fun _=>False) (fun _ _ h=>h) (fun k hk h=>by have:=f1.size; omega)
  generalize stB w2 w1.heap.size 0 (tabN 16)=w3 at r2 f ⊢
  have hb:=f.sl h (fun _ _ _ h=>h)
  refine jnC_mk (loop_rule (fun s u=>u=w3/\∃ i:Nat,i<=n/\s=((w1.heap.size,0),((((b.take i).foldl byteS (~~~ 0#32)).toNat:Nat):Int),(A,n,c),(n:Int),(i:Int),())) (fun s _=>(n - s.2.2.2.2.1).toNat) ?_ _ _ ⟨rfl,0,by omega,?_⟩)
  ·rintro s u C ⟨rfl,i,hi,rfl⟩ hC _
   have tb:∀ (y:BitVec 32) (K:Int->Prop),K ((crF4 (y &&& 15#32)).toNat:Int)->gd (decide (0<=(((y &&& 15#32).toNat:Nat):Int))) (gd (decide ((((y &&& 15#32).toNat:Nat):Int) < 16)) (ldI .u32 u w1.heap.size (0+(((y &&& 15#32).toNat:Nat):Int).toNat * 1) K)):=by
    intro y K hK
    have hy:=idx_lt y
    refine gd_mk (decide_eq_true (by omega)) (gd_mk (decide_eq_true (by omega)) ⟨_,?_,hK⟩)
    rw [Int.toNat_natCast,show 0+(y &&& 15#32).toNat * 1=(y &&& 15#32).toNat by omega]
    refine r2.cell ?_
    rw [tabN_get _ _ hy,if_pos hy,BitVec.ofNat_toNat,BitVec.setWidth_eq]; rfl
   refine vIf_mk (fun hlt=>?_) (fun hge=>⟨?_,f⟩)
   ·have hlt:(i:Int) < (n:Int):=of_decide_eq_true hlt
    obtain ⟨b',o',hA,hcl⟩:=le_get hb (i:=i) (by omega) (by omega)
    have hnext:b.take (i+1)=b.take i ++ [b[i]]:=by rw [List.take_add_one,List.getElem?_eq_getElem (by omega)]; rfl
    generalize hx:b[i]=x at hcl hnext
    generalize hq:(b.take i).foldl byteS (~~~ 0#32)=q
    have hq':(b.take (i+1)).foldl byteS (~~~ 0#32)=byteS q x:=by rw [hnext,List.foldl_append,hq]; rfl
    rw [hA]
    refine dr_mk (gd_mk (decide_eq_true (by show (0:Int)<=(i:Int); omega)) (gd_mk (decide_eq_true hlt) ⟨_,hcl,?_⟩))
    dsimp only
    rw [idx_lo]
    refine tb _ _ ?_
    rw [c_shr,c_xor]
    rw [idx_hi]
    refine tb _ _ ?_
    rw [c_shr,c_xor,le_e1 i (by omega),<- hA]
    refine jnC_mk (hC _ _ ⟨rfl,i+1,by omega,?_⟩ ?_)
    ·rw [hq']; rfl
    ·show ((n:Int) - ((i+1:Nat):Int)).toNat < ((n:Int) - (i:Int)).toNat
     omega
   ·have hge:¬ (i:Int) < (n:Int):=of_decide_eq_false hge
    obtain rfl:i=n:=by omega
    dsimp only
    rw [c_not,List.take_of_length_le (by omega)]; rfl
  ·rfl
 refine more.mono ?_
 rintro e u ⟨rfl,f⟩
 exact ⟨_,rfl,rfl,f⟩
def bos (l:List Bool):List Value:=l.map Value.bool
theorem bos_one (l:List Bool):∀ v ∈ bos l,v.oneCell'=true:=by
 intro v hv
 obtain ⟨b,_,rfl⟩:=List.mem_map.1 hv
 rfl
abbrev RT (w0 w:World) (A:Option Addr) (n c:Nat) (l:List Bool):Prop:=Fr (fun _=>False) w0 w/\Row w w0.heap.size 4 1 A n c (bos l)
theorem RT.len {w0 w:World} {A:Option Addr} {n c:Nat} {l:List Bool} (h:RT w0 w A n c l):l.length=n:=by have:=h.2.len; simpa [bos] using this
theorem RT.fr {w0 w w':World} {A:Option Addr} {n c:Nat} {l:List Bool} (h:RT w0 w A n c l) (f:Fr (fun _=>False) w w'):RT w0 w' A n c l:=⟨h.1.trans1 f,f.row h.2 (fun _ _ h=>h)⟩
theorem pushT_mk {w0 w:World} {A:Option Addr} {n c:Nat} {l:List Bool} {x:Bool} {K:Option Addr->Nat->Nat->World->Prop} (h:RT w0 w A n c l) (hm:n < 70368744177664)
  (hK:∀ A' c' w',RT w0 w' A' (n+1) c' (l ++ [x])->K A' (n+1) c' w'):nw w ([Value.bool x] ++ []) 4 fun b w1=>app w1 1 1 [Value.bool false] 4 A n c (.slice (some ⟨b,0,none⟩) 1 1) K:=by
 refine nw_mk ?_
 have h1:=h.fr (Fr.alloc (fun _=>False) w (.cells ([Value.bool x] ++ []).toArray 4))
 refine app_row h1.2 (us:=bos [x]) (m:=1) (Row.new (sz:=1) (n:=1) (B:=0) (Nat.zero_le _) rfl).sl.src (bos_one [x]) rfl (by show (n+1) * 1<=_; omega) (by show n+1<=_; omega) h1.1.size (fun A' c' w' hr f=>hK A' c' w' ⟨h1.1.trans f (fun _ _ h=>h) (fun k hk hb=>by have:=(h1.2.blt hb).1; omega),?_⟩)
 unfold bos; rw [List.map_append]; exact hr
theorem row_putT {w:World} {B:Nat} {e:TypeId} {sz:Nat} {A:Option Addr} {n c:Nat} {vs us:List Value} {o':Nat} {K:World->Prop} (hr:Row w B e sz A n c vs) (hn:n ≠ 0) (hfit:o'+us.length<=n * sz) (h1:∀ v ∈ us,v.oneCell'=true)
  (hK:∀ w',Row w' B e sz A n c (splice vs o' us)->Fr (fun k=>blkOf A=some k) w w'->K w'):dr A fun b o=>st w b (o+o') us K:=by
 rcases hr.at_ with ⟨_,h0,_⟩ | ⟨b,cs,rfl,hB,hh,hs,ht⟩
 ·exact absurd h0 hn
 ·have hle:=hr.le
  have hl:=hr.len
  have hmul:n * sz<=c * sz:=Nat.mul_le_mul_right _ hle
  show st w b (0+o') us K
  rw [Nat.zero_add]
  have hfit2:o'+us.length<=cs.toList.length:=by simp; omega
  refine ⟨⟨cs,e,0,0,hh,by simpa using hfit2,.inl (Nat.zero_le _)⟩,h1,hK _ ⟨by rw [splice_length (by omega)]; exact hl,hle,.inr ⟨b,_,rfl,hB,stB_heap hh,?_,?_⟩⟩ (Fr.st (fun _=>rfl))⟩
  ·simp only [List.size_toArray]; rw [splice_length hfit2]; simpa using hs
  ·apply List.ext_getElem?
   intro j
   simp only [List.getElem?_take]
   by_cases hj:j < n * sz
   ·rw [if_pos hj,splice_get hfit2,splice_get (by omega),<- ht]
    simp only [List.getElem?_take]
    by_cases h2:j < o'
    ·rw [if_pos h2,if_pos h2,if_pos hj]
    ·rw [if_neg h2,if_neg h2]
     split
     ·rfl
     ·first | rfl | rw [if_pos hj]
   ·rw [if_neg hj,List.getElem?_eq_none (by rw [splice_length (by omega)]; omega)]
theorem bit_eq (x k:Nat):((Int.tmod (Int.fdiv (x:Int) (2 ^ k)) 2) == 1)=x.testBit k:=by
 have e:Int.fdiv (x:Int) (2 ^ k)=((x / 2 ^ k:Nat):Int):=by
  rw [Int.fdiv_eq_ediv_of_nonneg _ (by exact_mod_cast Nat.zero_le (2 ^ k))]
  push_cast; rfl
 rw [e,show Int.tmod ((x / 2 ^ k:Nat):Int) 2=_ from tmod_nat (x / 2 ^ k) 2,Nat.testBit_eq_decide_div_mod_eq]
 by_cases h:x / 2 ^ k % 2=1
 ·rw [h]; rfl
 ·rw [decide_eq_false h]
  have:x / 2 ^ k % 2=0:=by omega
  rw [this]; rfl
theorem bits8_take (c:UInt8) (k:Nat) (hk:k < 8):(bits8 c).take (k+1)=(bits8 c).take k ++ [c.toNat.testBit k]:=by
 rw [List.take_add_one]
 congr 1
 unfold bits8
 rw [List.getElem?_map,List.getElem?_range hk]; rfl
theorem bits8_len (c:UInt8):(bits8 c).length=8:=by simp [bits8]
theorem bitsL_take (b:List UInt8) (i:Nat) (h:i < b.length):bitsL (b.take (i+1))=bitsL (b.take i) ++ bits8 b[i]:=by
 unfold bitsL
 rw [List.take_add_one,List.getElem?_eq_getElem h,List.map_append,List.flatten_append]
 simp
set_option maxHeartbeats 1000000 in
theorem bits_calls (A:Option Addr) (n c:Nat) (b:List UInt8) (w:World) (h:Sl w 1 A n (b.map bv)) (hn:n<=1099511627775) :
  Calls Tryz.prog 155 #[.slice A n c] w fun e w'=>∃ A' c',e=.returned (.slice A' (8 * n) c')/\RT w w' A' (8 * n) c' (bitsL b):=by
 have hl:=sl_len h
 refine (F155.of A n c w (Q:=fun v w'=>∃ A' c',v=.slice A' (8 * n) c'/\RT w w' A' (8 * n) c' (bitsL b)) ?_).mono (fun e w' ⟨v,he,A',c',hv,h⟩=>⟨A',c',by rw [he,hv],h⟩)
 refine jnC_mk (loop_rule (fun s u=>∃ (i:Nat) (R:Option Addr) (rc:Nat),i<=n/\s=((A,n,c),(R,8 * i,rc),(i:Int),())/\RT w u R (8 * i) rc (bitsL (b.take i))) (fun s _=>(n - s.2.2.1).toNat) ?_ _ _ ⟨0,none,0,by omega,rfl,Fr.refl _ _,Row.nil _ _ _ _⟩)
 rintro s u C ⟨i,R,rc,hi,rfl,hr⟩ hC _
 refine vIf_mk (fun hlt=>?_) (fun hge=>?_)
 ·have hlt:(i:Int) < (n:Int):=of_decide_eq_true hlt
  have hib:i < b.length:=by omega
  refine jnC_mk (loop_rule (fun s v=>∃ (k:Nat) (R:Option Addr) (rc:Nat),k<=8/\s=((A,n,c),(R,8 * i+k,rc),(i:Int),(k:Int),())/\RT w v R (8 * i+k) rc (bitsL (b.take i) ++ (bits8 b[i]).take k)) (fun s _=>(8 - s.2.2.2.1).toNat) ?_ _ _ ⟨0,R,rc,by omega,rfl,by rw [List.take_zero,List.append_nil]; exact hr⟩)
  rintro s v C' ⟨k,R1,rc1,hk,rfl,hr1⟩ hC' _
  refine vIf_mk (fun hk8=>?_) (fun hk8=>?_)
  ·have hk8:(k:Int) < 8:=of_decide_eq_true hk8
   obtain ⟨b',o',hA,hcl⟩:=le_get (hr1.1.sl h (fun _ _ _ h=>h)) (i:=i) (by omega) hib
   have eu:IntKind.wrap .u64 (k:Int)=(k:Int):=u64_id (by omega) (by omega)
   rw [hA]
   refine dr_mk (gd_mk (decide_eq_true (by show (0:Int)<=(i:Int); omega)) (gd_mk (decide_eq_true hlt) ⟨_,hcl,?_⟩))
   dsimp only
   rw [eu,Int.toNat_natCast,Nat.min_eq_left (show k<=8 by omega),bit_eq,le_e1 k (by omega),<- hA]
   refine gd_mk (decide_eq_true (by omega)) (pushT_mk hr1 (by omega) (fun A' c' w' h2=>jnC_mk (hC' _ _ ⟨k+1,A',c',by omega,rfl,?_⟩ ?_)))
   ·rw [bits8_take _ _ (by omega),<- List.append_assoc]; exact h2
   ·show (8 - ((k+1:Nat):Int)).toNat < (8 - (k:Int)).toNat
    omega
  ·have hk8:¬ (k:Int) < 8:=of_decide_eq_false hk8
   obtain rfl:k=8:=by omega
   dsimp only
   rw [le_e1 i (by omega)]
   refine jnC_mk (hC _ _ ⟨i+1,R1,rc1,by omega,by rw [show 8 * (i+1)=8 * i+8 by omega],?_⟩ ?_)
   ·rw [bitsL_take b i hib,show 8 * (i+1)=8 * i+8 by omega]
    rw [List.take_of_length_le (l:=bits8 b[i]) (by rw [bits8_len]; omega)] at hr1
    exact hr1
   ·show ((n:Int) - ((i+1:Nat):Int)).toNat < ((n:Int) - (i:Int)).toNat
    omega
 ·have hge:¬ (i:Int) < (n:Int):=of_decide_eq_false hge
  obtain rfl:i=n:=by omega
  rw [List.take_of_length_le (by omega)] at hr
  exact ⟨R,rc,rfl,hr⟩
theorem b_shl (x:BitVec 32):IntKind.wrap .u32 ((x.toNat:Int) * 2)=((x <<< 1).toNat:Int):=by
 rw [IntKind.wrap_u32,BitVec.toNat_shiftLeft,Nat.shiftLeft_eq]
 omega
theorem b_or (x:BitVec 32) (t:Bool):(((x <<< 1) ||| bitB t).toNat:Int)=((x <<< 1).toNat:Int)+(if t then 1 else 0):=by
 cases t with
 | false =>
  have:(x <<< 1) ||| bitB false=x <<< 1:=by unfold bitB; simp
  rw [this]; simp
 | true =>
  rw [BitVec.toNat_or,BitVec.toNat_shiftLeft,Nat.shiftLeft_eq]
  have e:(bitB true).toNat=1:=rfl
  rw [e]
  have h:=Nat.two_pow_add_eq_or_of_lt (i:=1) (show 1 < 2 ^ 1 by decide) (x.toNat % 2 ^ 31)
  have e2:x.toNat * 2 ^ 1 % 2 ^ 32=2 ^ 1 * (x.toNat % 2 ^ 31):=by omega
  rw [e2,<- h]
  simp
theorem b_add (x:BitVec 32) (t:Bool):IntKind.wrap .u32 (((x <<< 1).toNat:Int)+(if t then 1 else 0))=(((x <<< 1) ||| bitB t).toNat:Int):=by
 rw [<- b_or]
 have:=((x <<< 1) ||| bitB t).isLt
 exact u32_id (by omega) (by omega)
theorem b_top (x:BitVec 32):decide ((x.toNat:Int) >= 2147483648)=x.getLsbD 31:=by
 have h:x.getLsbD 31=decide (x.toNat >= 2 ^ 31):=by
  rw [BitVec.getLsbD,Nat.testBit_eq_decide_div_mod_eq]
  have:=x.isLt
  exact decide_eq_decide.2 (by omega)
 rw [h]
 exact decide_eq_decide.2 (by omega)
def revF (r:BitVec 32):Nat->BitVec 32
 | 0=>0#32
 | i+1=>(revF r i <<< 1) ||| bitB (r.getLsbD i)
theorem revF_get (r:BitVec 32):∀ i,i<=32->∀ j,j < 32->(revF r i).getLsbD j=(decide (j < i) && r.getLsbD (i - 1 - j))
 | 0,_,j,hj=>by simp [revF]
 | i+1,hi,j,hj=>by
  rw [revF,BitVec.getLsbD_or,BitVec.getLsbD_shiftLeft,bitB_get,decide_eq_true hj]
  cases j with
  | zero=>simp
  | succ j =>
   have ih:=revF_get r i (by omega) j (by omega)
   simp only [Nat.add_sub_cancel,Nat.zero_lt_succ,Nat.lt_add_left_iff_pos]
   rw [ih]
   have:(r.getLsbD i && decide (j+1=0))=false:=by simp
   rw [this]
   have e:i+1 - 1 - (j+1)=i - 1 - j:=by omega
   have e2:decide (j+1 < i+1)=decide (j < i):=decide_eq_decide.2 (by omega)
   have e3:decide (j+1 < 1)=false:=decide_eq_false (by omega)
   rw [show i - (j+1)=i - 1 - j by omega]
   simp [e2,e3]
theorem revF_all (r:BitVec 32):revF r 32=r.reverse:=by
 apply BitVec.eq_of_getLsbD_eq
 intro j hj
 rw [revF_get r 32 (Nat.le_refl _) j hj,rev_get r j hj,decide_eq_true hj]; rfl
theorem flip_put (l:List Bool) (i:Nat) (hi:i < l.length):splice (bos ((l.take i).map (fun b=>!b) ++ l.drop i)) i [Value.bool (!l[i])]=bos ((l.take (i+1)).map (fun b=>!b) ++ l.drop (i+1)):=by
 unfold bos splice
 rw [List.map_append,List.map_append,List.take_left' (by simp; omega),List.take_add_one,List.getElem?_eq_getElem hi]
 rw [List.drop_append,List.drop_of_length_le (by simp; omega)]
 simp only [List.length_map,List.length_take,List.length_cons,List.length_nil,Nat.min_eq_left (Nat.le_of_lt hi),<- List.map_drop,List.drop_drop]
 rw [show i+(i+(0+1) - i)=i+1 by omega,List.map_append,List.map_append,List.nil_append]
 rfl
set_option maxHeartbeats 2000000 in
theorem rcrc_calls (A:Option Addr) (n c:Nat) (b:List UInt8) (w:World) (h:Sl w 1 A n (b.map bv)) (hn:n<=137438953000) :
  Calls Tryz.prog 106 #[.slice A n c] w fun e w'=>e=.returned (.int .u32 ((crcS b).toNat:Int))/\Fr (fun _=>False) w w':=by
 have hl:=sl_len h
 refine (F106.of A n c w (Q:=fun v w'=>v=.int .u32 ((crcS b).toNat:Int)/\Fr (fun _=>False) w w') ?_).mono (fun e w' ⟨v,he,hv,h⟩=>⟨by rw [he,hv],h⟩)
 refine (bits_calls A n c b w h (by omega)).mono ?_
 rintro e w1 ⟨A1,c1,rfl,h1⟩
 refine ⟨A1,_,c1,rfl,jnC_mk (loop_rule (fun s u=>∃ (i:Nat) (R:Option Addr) (rc:Nat),i<=32/\s=((R,8 * n+i,rc),(i:Int),())/\RT w u R (8 * n+i) rc (bitsL b ++ List.replicate i false)) (fun s _=>(32 - s.2.1).toNat) ?_ _ _ ⟨0,A1,c1,by omega,rfl,by rw [List.replicate_zero,List.append_nil]; exact h1⟩)⟩
 rintro s u C ⟨i,R,rc,hi,rfl,hr⟩ hC _
 refine vIf_mk (fun hlt=>?_) (fun hge=>?_)
 ·have hlt:(i:Int) < 32:=of_decide_eq_true hlt
  refine pushT_mk hr (by show 8 * n+i < _; omega) (fun A' c' w' h2=>?_)
  dsimp only
  rw [le_e1 i (by omega)]
  refine jnC_mk (hC _ _ ⟨i+1,A',c',by omega,rfl,?_⟩ ?_)
  ·rw [List.replicate_succ',<- List.append_assoc]; exact h2
  ·show (32 - ((i+1:Nat):Int)).toNat < (32 - (i:Int)).toNat
   omega
 ·have hge:¬ (i:Int) < 32:=of_decide_eq_false hge
  obtain rfl:i=32:=by omega
  have hL:=hr.len
  generalize hl0:bitsL b ++ List.replicate 32 false=l at hr hL
  clear hC
  refine jnC_mk (loop_rule (fun s v=>∃ i:Nat,i<=32/\s=((R,8 * n+32,rc),(i:Int),())/\RT w v R (8 * n+32) rc ((l.take i).map (fun b=>!b) ++ l.drop i)) (fun s _=>(32 - s.2.1).toNat) ?_ _ _ ⟨0,by omega,rfl,by rw [List.take_zero,List.drop_zero]; exact hr⟩)
  rintro s v C ⟨i,hi,rfl,hv⟩ hC _
  refine vIf_mk (fun hlt=>?_) (fun hge=>?_)
  ·have hlt:(i:Int) < 32:=of_decide_eq_true hlt
   have hil:i < l.length:=by omega
   have hget:(bos ((l.take i).map (fun b=>!b) ++ l.drop i))[i]?=some (Value.bool l[i]):=by
    unfold bos
    rw [List.getElem?_map,List.getElem?_append_right (by simp; omega)]
    simp only [List.length_map,List.length_take,Nat.min_eq_left (Nat.le_of_lt hil),Nat.sub_self]
    rw [List.getElem?_drop,Nat.add_zero,List.getElem?_eq_getElem hil]; rfl
   obtain ⟨b',o',hA,hcl⟩:=hv.2.sl.get (i:=i) (by omega) hget
   have hput:=row_putT (K:=fun w17=>jnC C ((R,8 * n+32,rc),((i+1:Nat):Int),()) w17) hv.2 (o':=i) (us:=[Value.bool (!l[i])]) (by omega) (by show i+1<=(8 * n+32) * 1; omega) (fun v hv=>by simp at hv; subst hv; rfl) (fun w' h2 f2=>jnC_mk (hC _ _ ⟨i+1,by omega,rfl,hv.1.trans f2 (fun _ _ h=>h) (fun k hk hb=>by have:=(hv.2.blt hb).1; omega),by rw [<- flip_put l i hil]; exact h2⟩ (by show (32 - ((i+1:Nat):Int)).toNat < (32 - (i:Int)).toNat; omega)))
   rw [hA] at hput ⊢
   refine dr_mk (gd_mk (decide_eq_true (by show (0:Int)<=(i:Int); omega)) (gd_mk (decide_eq_true (by show (i:Int) < ((8 * n+32:Nat):Int); omega)) ⟨_,hcl,dr_mk (gd_mk (decide_eq_true (by show (0:Int)<=(i:Int); omega)) (gd_mk (decide_eq_true (by show (i:Int) < ((8 * n+32:Nat):Int); omega)) ?_))⟩))
   dsimp only
   rw [le_e1 i (by omega),Int.toNat_natCast,Nat.mul_one]
   exact hput
  ·have hge:¬ (i:Int) < 32:=of_decide_eq_false hge
   obtain rfl:i=32:=by omega
   have hfl:(l.take 32).map (fun b=>!b) ++ l.drop 32=flip32 l:=rfl
   rw [hfl] at hv
   have hfL:=hv.len
   clear hC
   have f:=hv.1
   have hs:=hv.2.sl
   refine jnC_mk (loop_rule (fun s x=>x=v/\∃ i:Nat,i<=8 * n+32/\s=((R,8 * n+32,rc),517762881,(((((flip32 l).take i).foldl gN 0#32).toNat:Nat):Int),(i:Int),())) (fun s _=>(8 * n+32 - s.2.2.2.1).toNat) ?_ _ _ ⟨rfl,0,by omega,rfl⟩)
   rintro s x C ⟨rfl,i,hi,rfl⟩ hC _
   refine vIf_mk (fun hlt=>?_) (fun hge=>?_)
   ·have hlt:(i:Int) < ((8 * n+32:Nat):Int):=of_decide_eq_true hlt
    have hil:i < (flip32 l).length:=by omega
    obtain ⟨b',o',hA,hcl⟩:=hs.get (i:=i) (by omega) (v:=Value.bool (flip32 l)[i]) (by unfold bos; rw [List.getElem?_map,List.getElem?_eq_getElem hil]; rfl)
    have hnext:((flip32 l).take (i+1)).foldl gN 0#32=gN (((flip32 l).take i).foldl gN 0#32) (flip32 l)[i]:=by
     rw [List.take_add_one,List.getElem?_eq_getElem hil,List.foldl_append]; rfl
    generalize hx:(flip32 l)[i]=t at hcl hnext
    generalize hq:((flip32 l).take i).foldl gN 0#32=q at hnext
    have eP:(517762881:Int)=((0x1edc6f41#32).toNat:Int):=rfl
    have go:∀ y:BitVec 32,y=gN q t->jnC C ((R,8 * n+32,rc),517762881,((y.toNat:Nat):Int),((i+1:Nat):Int),()) x:=by
     rintro y rfl
     exact jnC_mk (hC _ _ ⟨rfl,i+1,by omega,by rw [hnext]⟩ (by show ((8 * n+32:Int) - ((i+1:Nat):Int)).toNat < ((8 * n+32:Int) - (i:Int)).toNat; omega))
    rw [hA] at go ⊢
    refine dr_mk (gd_mk (decide_eq_true (by show (0:Int)<=(i:Int); omega)) (gd_mk (decide_eq_true hlt) ⟨t,hcl,?_⟩))
    dsimp only
    rw [b_top,le_e1 i (by omega),b_shl]
    have hT:IntKind.wrap .u32 (((q <<< 1).toNat:Int)+1)=(((q <<< 1) ||| bitB true).toNat:Int):=b_add q true
    have hF:((q <<< 1).toNat:Int)=(((q <<< 1) ||| bitB false).toNat:Int):=by rw [b_or]; simp
    refine vIf_mk (fun ht=>vIf_mk (fun hb=>?_) (fun hb=>?_)) (fun ht=>vIf_mk (fun hb=>?_) (fun hb=>?_))
    ·subst ht
     rw [hT,eP,c_xor,<- eP]
     exact go _ (by unfold gN; rw [if_pos hb])
    ·subst ht
     rw [hT]
     exact go _ (by unfold gN; rw [if_neg (by rw [hb]; decide),BitVec.xor_zero])
    ·subst ht
     rw [hF,eP,c_xor,<- eP]
     exact go _ (by unfold gN; rw [if_pos hb])
    ·subst ht
     rw [hF]
     exact go _ (by unfold gN; rw [if_neg (by rw [hb]; decide),BitVec.xor_zero])
   ·have hge:¬ (i:Int) < ((8 * n+32:Nat):Int):=of_decide_eq_false hge
    obtain rfl:i=8 * n+32:=by omega
    rw [List.take_of_length_le (by omega)]
    generalize hq:(flip32 l).foldl gN 0#32=q
    clear hC
    refine jnC_mk (loop_rule (fun s y=>y=x/\∃ i:Nat,i<=32/\s=(((q.toNat:Nat):Int),(((revF q i).toNat:Nat):Int),(i:Int),())) (fun s _=>(32 - s.2.2.1).toNat) ?_ _ _ ⟨rfl,0,by omega,rfl⟩)
    rintro s y C ⟨rfl,i,hi,rfl⟩ hC _
    refine vIf_mk (fun hlt=>?_) (fun hge=>⟨?_,f⟩)
    ·have hlt:(i:Int) < 32:=of_decide_eq_true hlt
     have eu:IntKind.wrap .u64 (i:Int)=(i:Int):=u64_id (by omega) (by omega)
     dsimp only
     rw [eu,Int.toNat_natCast,Nat.min_eq_left (show i<=32 by omega),le_e1 i (by omega)]
     refine gd_mk (decide_eq_true (by omega)) (jnC_mk (hC _ _ ⟨rfl,i+1,by omega,?_⟩ ?_))
     ·have hb:Int.tmod (Int.fdiv (q.toNat:Int) (2 ^ i)) 2=if q.getLsbD i then 1 else 0:=by
       have h2:=bit_eq q.toNat i
       have h3:q.getLsbD i=q.toNat.testBit i:=rfl
       rw [h3,<- h2]
       have e:Int.fdiv (q.toNat:Int) (2 ^ i)=((q.toNat / 2 ^ i:Nat):Int):=by
        rw [Int.fdiv_eq_ediv_of_nonneg _ (by exact_mod_cast Nat.zero_le (2 ^ i))]
        push_cast; rfl
       rw [e,show Int.tmod ((q.toNat / 2 ^ i:Nat):Int) 2=_ from tmod_nat (q.toNat / 2 ^ i) 2]
       rcases Nat.mod_two_eq_zero_or_one (q.toNat / 2 ^ i) with h | h <;> rw [h] <;> rfl
      rw [b_shl,hb,b_add]; rfl
     ·show (32 - ((i+1:Nat):Int)).toNat < (32 - (i:Int)).toNat
      omega
    ·have hge:¬ (i:Int) < 32:=of_decide_eq_false hge
     obtain rfl:i=32:=by omega
     dsimp only
     rw [c_not,revF_all,<- hq,<- hl0,crc_ref]
end Go.Proofs.YthcdionpeoobbaaGreatDoor
namespace Go.Proofs.YthcdionpeoobbaaGreatDoor
open Go.GV
def kF (b:List UInt8):Nat:=leT (b.take 1)
def sF (b:List UInt8):Nat:=leT ((b.drop 1).take 8)
def zF (b:List UInt8):Nat:=leT ((b.drop 9).take 4)
abbrev whF (b:List UInt8) (n:Nat):Prop:=leT ((b.drop n).take 4)=(crcS (b.take n)).toNat
structure Frm where
 e:Int
 k:Nat
 sq:Nat
 d:List UInt8
 z:Int
def frG (b:List UInt8):Int×Nat×Nat×List UInt8 :=
 if b.length < 17 then (4,0,0,[])
 else if ¬ whF b 13 then (5,0,0,[])
 else if kF b < 1\/kF b > 8\/zF b > 65536 then (3,0,0,[])
 else if b.length < 21+zF b then (4,0,0,[])
 else if ¬ whF b (17+zF b) then (5,0,0,[])
 else (0,kF b,sF b,(b.drop 17).take (zF b))
def frP (b:List UInt8) (at_:Int):Frm :=
 if at_ < 0\/at_ > (b.length:Int) then ⟨2,0,0,[],0⟩
 else if (frG (b.drop at_.toNat)).1=0 then ⟨0,(frG (b.drop at_.toNat)).2.1,(frG (b.drop at_.toNat)).2.2.1,(frG (b.drop at_.toNat)).2.2.2,at_+21+((frG (b.drop at_.toNat)).2.2.2.length:Int)⟩
 else ⟨(frG (b.drop at_.toNat)).1,0,0,[],0⟩
theorem frP_out {b:List UInt8} {at_:Int} (h:at_ < 0\/at_ > (b.length:Int)):frP b at_=⟨2,0,0,[],0⟩:=if_pos h
theorem frP_err {b:List UInt8} {a:Nat} {e:Int} (h:a<=b.length) (he:frG (b.drop a)=(e,0,0,[])) (h0:e ≠ 0):frP b (a:Int)=⟨e,0,0,[],0⟩:=by
 unfold frP
 rw [if_neg (by omega),Int.toNat_natCast,he,if_neg h0]
theorem frP_ok {b:List UInt8} {a k sq:Nat} {d:List UInt8} (h:a<=b.length) (he:frG (b.drop a)=(0,k,sq,d)):frP b (a:Int)=⟨0,k,sq,d,(a:Int)+21+(d.length:Int)⟩:=by
 unfold frP
 rw [if_neg (by omega),Int.toNat_natCast,he,if_pos rfl]
theorem frG_4 {b:List UInt8} (h:b.length < 17):frG b=(4,0,0,[]):=if_pos h
theorem frG_5 {b:List UInt8} (h:¬ b.length < 17) (h1:¬ whF b 13):frG b=(5,0,0,[]):=by rw [frG,if_neg h,if_pos h1]
theorem frG_3 {b:List UInt8} (h:¬ b.length < 17) (h1:whF b 13) (h2:kF b < 1\/kF b > 8\/zF b > 65536):frG b=(3,0,0,[]):=by rw [frG,if_neg h,if_neg (fun h=>h h1),if_pos h2]
theorem frG_4' {b:List UInt8} (h:¬ b.length < 17) (h1:whF b 13) (h2:¬ (kF b < 1\/kF b > 8\/zF b > 65536)) (h3:b.length < 21+zF b):frG b=(4,0,0,[]):=by rw [frG,if_neg h,if_neg (fun h=>h h1),if_neg h2,if_pos h3]
theorem frG_5' {b:List UInt8} (h:¬ b.length < 17) (h1:whF b 13) (h2:¬ (kF b < 1\/kF b > 8\/zF b > 65536)) (h3:¬ b.length < 21+zF b) (h4:¬ whF b (17+zF b)):frG b=(5,0,0,[]):=by rw [frG,if_neg h,if_neg (fun h=>h h1),if_neg h2,if_neg h3,if_pos h4]
theorem frG_0 {b:List UInt8} (h:¬ b.length < 17) (h1:whF b 13) (h2:¬ (kF b < 1\/kF b > 8\/zF b > 65536)) (h3:¬ b.length < 21+zF b) (h4:whF b (17+zF b)):frG b=(0,kF b,sF b,(b.drop 17).take (zF b)):=by rw [frG,if_neg h,if_neg (fun h=>h h1),if_neg h2,if_neg h3,if_neg (fun h=>h h4)]
def hdF (k sq n:Nat):List UInt8:=[UInt8.ofNat (k % 256)] ++ leB sq 8 ++ leB n 4
def bdF (k sq:Nat) (d:List UInt8):List UInt8:=hdF k sq d.length ++ leB (crcS (hdF k sq d.length)).toNat 4 ++ d
def mkF (k sq:Nat) (d:List UInt8):List UInt8:=bdF k sq d ++ leB (crcS (bdF k sq d)).toNat 4
theorem crc_lt (b:List UInt8):(crcS b).toNat < 256 ^ 4:=(crcS b).isLt
theorem leB_of {x:List UInt8} {k:Nat} (h:x.length=k):leB (leT x) k=x:=by rw [<- h]; exact leB_leT x
theorem leB_iff {x:List UInt8} {n:Nat} (h:x.length=4) (hn:n < 256 ^ 4):leB n 4=x ↔ leT x=n:=by
 constructor
 ·intro e; rw [<- e,leT_leB,Nat.mod_eq_of_lt hn]
 ·intro e; rw [<- e]; exact leB_of h
theorem cut2 (b:List UInt8) (i j:Nat):b.take i ++ (b.drop i).take j=b.take (i+j):=by rw [List.take_add]
theorem hdF_eq {b:List UInt8} (h:17<=b.length):hdF (kF b) (sF b) (zF b)=b.take 13:=by
 have h1:[UInt8.ofNat (kF b % 256)]=b.take 1:=leB_of (k:=1) (by rw [List.length_take]; omega)
 unfold hdF
 rw [h1]
 unfold sF zF
 rw [leB_of (k:=8) (by rw [List.length_take,List.length_drop]; omega),leB_of (k:=4) (by rw [List.length_take,List.length_drop]; omega),cut2,cut2]
theorem bdF_eq {b:List UInt8} (h:21+zF b<=b.length) (h1:whF b 13):bdF (kF b) (sF b) ((b.drop 17).take (zF b))=b.take (17+zF b):=by
 unfold bdF
 have hl:((b.drop 17).take (zF b)).length=zF b:=by rw [List.length_take,List.length_drop]; omega
 rw [hl,hdF_eq (by omega),<- h1,leB_of (k:=4) (by rw [List.length_take,List.length_drop]; omega),cut2,cut2]
theorem mkF_iff {b:List UInt8} (h:21+zF b<=b.length) (h1:whF b 13):mkF (kF b) (sF b) ((b.drop 17).take (zF b))=b.take (21+zF b) ↔ whF b (17+zF b):=by
 unfold mkF
 rw [bdF_eq h h1,show 21+zF b=17+zF b+4 by omega,<- cut2 b (17+zF b) 4,List.append_cancel_left_eq]
 exact leB_iff (by rw [List.length_take,List.length_drop]; omega) (crc_lt _)
theorem mkF_len (k sq:Nat) (d:List UInt8):(mkF k sq d).length=21+d.length:=by
 unfold mkF bdF hdF
 simp only [List.length_append,leB_len,List.length_cons,List.length_nil]
 omega
theorem kF_lt (b:List UInt8):kF b < 256:=by
 have:=leT_lt (b.take 1)
 refine Nat.lt_of_lt_of_le this (Nat.pow_le_pow_right (n:=256) (by omega) (show (b.take 1).length<=1 by rw [List.length_take]; omega))
theorem sF_lt (b:List UInt8):sF b < 18446744073709551616:=by
 have:=leT_lt ((b.drop 1).take 8)
 refine Nat.lt_of_lt_of_le this (Nat.pow_le_pow_right (n:=256) (by omega) (show ((b.drop 1).take 8).length<=8 by rw [List.length_take]; omega))
theorem le4_lt (x:List UInt8):leT (x.take 4) < 4294967296:=by
 have:=leT_lt (x.take 4)
 refine Nat.lt_of_lt_of_le this (Nat.pow_le_pow_right (n:=256) (by omega) (show (x.take 4).length<=4 by rw [List.length_take]; omega))
theorem zF_lt (b:List UInt8):zF b < 4294967296:=le4_lt _
end Go.Proofs.YthcdionpeoobbaaGreatDoor
namespace Go.Proofs.YthcdionpeoobbaaGreatDoor
open Go.GV Go.RowKit
theorem same_calls (A:Option Addr) (n c:Nat) (l:List UInt8) (A':Option Addr) (n' c':Nat) (l':List UInt8) (w:World) (h:Sl w 1 A n (l.map bv)) (h':Sl w 1 A' n' (l'.map bv)) (hn:n < 4611686018427387904) :
  Calls Tryz.prog 104 #[.slice A n c,.slice A' n' c'] w fun e w'=>e=.returned (.bool (l == l'))/\Fr (fun _=>False) w w':=by
 have hl:l.length=n:=by simpa using h.1
 have hl':l'.length=n':=by simpa using h'.1
 refine (F104.of A n c A' n' c' w (Q:=fun v w'=>v=.bool (l == l')/\Fr (fun _=>False) w w') ?_).mono (fun e w' ⟨v,he,hv,h⟩=>⟨by rw [he,hv],h⟩)
 refine vIf_mk (fun h0=>?_) (fun h0=>jnC_mk ?_)
 ·have h0:(n:Int) ≠ n':=by simpa using h0
  refine ⟨?_,Fr.refl _ _⟩
  have:(l == l')=false:=by
   rw [beq_eq_false_iff_ne]
   intro e; subst e; omega
  rw [this]
 ·have h0:n=n':=by
   have:(n:Int)=n':=by simpa using h0
   omega
  refine loop_rule (fun s u=>Fr (fun _=>False) w u/\∃ i:Nat,i<=n/\s=((A,n,c),(A',n',c'),(i:Int),())/\l.take i=l'.take i)
   (fun s _=>(n - s.2.2.1).toNat) ?_ _ _ ⟨Fr.refl _ _,0,by omega,rfl,by simp⟩
  rintro s u C ⟨hf,i,hi,rfl,ht⟩ hC _
  refine vIf_mk (fun hlt=>?_) (fun hge=>?_)
  ·have hlt2:(i:Int) < n:=of_decide_eq_true hlt
   have hf':Fr (fun _=>False) w u.drew:=hf.trans1 (Fr.drew _ _)
   have e1:l[i]?=some (l[i]'(by omega)):=List.getElem?_eq_getElem (by omega)
   have e2:l'[i]?=some (l'[i]'(by omega)):=List.getElem?_eq_getElem (by omega)
   obtain ⟨b,o,hA,hc⟩:=(hf'.sl h (fun _ _ _ h=>h)).get (i:=i) (by omega) (v:=bv (l[i]'(by omega))) (by rw [List.getElem?_map,e1]; rfl)
   obtain ⟨b',o',hA',hc'⟩:=(hf'.sl h' (fun _ _ _ h=>h)).get (i:=i) (by omega) (v:=bv (l'[i]'(by omega))) (by rw [List.getElem?_map,e2]; rfl)
   subst hA; subst hA'
   have hw:IntKind.wrap .i64 ((i:Int)+1)=((i+1:Nat):Int):=by rw [i64_id (by omega) (by omega)]; rfl
   refine dr_mk (gd_mk (decide_eq_true (Int.natCast_nonneg i)) (gd_mk (decide_eq_true hlt2) ⟨_,hc,dr_mk (gd_mk (decide_eq_true (Int.natCast_nonneg i)) (gd_mk (decide_eq_true (show (i:Int) < n' by omega)) ⟨_,hc',vIf_mk (fun hd=>⟨?_,hf'⟩) (fun he=>jnC_mk (hC _ _ ⟨hf',i+1,by omega,?_,?_⟩ ?_))⟩))⟩))
   ·have hd:l[i]'(by omega) ≠ l'[i]'(by omega):=by
     intro e; rw [e] at hd; simp at hd
    have:(l == l')=false:=by
     rw [beq_eq_false_iff_ne]
     intro e; subst e; exact hd rfl
    rw [this]
   ·show ((_,n,c),(_,n',c'),IntKind.wrap .i64 ((i:Int)+1),())=_
    rw [hw]
   ·have he:l[i]'(by omega)=l'[i]'(by omega):=by
     have:((l[i]'(by omega)).toNat:Int)=((l'[i]'(by omega)).toNat:Int):=by simpa using he
     exact UInt8.toNat_inj.1 (by omega)
    rw [List.take_add_one,List.take_add_one,ht,e1,e2,he]
   ·show ((n:Int) - IntKind.wrap .i64 ((i:Int)+1)).toNat < ((n:Int) - i).toNat
    rw [hw]; omega
  ·have hge:¬ ((i:Int) < n):=of_decide_eq_false hge
   refine ⟨?_,hf⟩
   have hin:i=n:=by omega
   subst hin
   rw [List.take_of_length_le (by omega),List.take_of_length_le (by omega)] at ht
   subst ht
   rw [beq_self_eq_true]
end Go.Proofs.YthcdionpeoobbaaGreatDoor
namespace Go.Proofs.YthcdionpeoobbaaGreatDoor
open Go.GV Go.RowKit Go.Lib
theorem ansN_mk {w:World} {b:Nat} {e:TypeId} {old cs:List Value} {N:Nat} (r:RecAt w b e old) (ho:old.length=N) (hc:cs.length=N) (h1:∀ v ∈ cs,v.oneCell'=true) {K:List Value->World->Prop} (hK:∀ w',Fr (fun k=>k=b) w w'->K cs w') :
  gd (cs.length == N) (st w b 0 cs fun w1=>ldA N w1 b 0 fun a=>K a w1):=by
 refine gd_mk (by rw [hc]; simp) (r.st_mk (o:=0) (by rw [hc,ho]; omega) h1 (fun r1 f1=>?_))
 rw [splice_full (by rw [hc,ho])] at r1
 exact ⟨cs,hc,rec_all r1,hK _ f1⟩
theorem fr_var {w0 w w':World} {b:Nat} (f:Fr (fun _=>False) w0 w) (hb:w0.heap.size<=b) (g:Fr (fun k=>k=b) w w'):Fr (fun _=>False) w0 w':=f.trans g (fun _ _ h=>h) (fun k hk h=>by omega)
theorem tk_eq {b:List UInt8} {a z:Nat} (h:1<=z/\z<=8/\a+z<=b.length):tkN b (a:Int) (z:Int)=leT ((b.drop a).take z):=by
 unfold tkN
 rw [if_pos ⟨by omega,by omega,by omega,by omega⟩,Int.toNat_natCast,Int.toNat_natCast]
theorem sl_zero {w:World} {A:Option Addr} {n c:Nat} {l:List UInt8} (h:Sl w 1 A n (l.map bv)) (hc:n<=c):Sl w 1 (slA A c 0 1) n (l.map bv):=by
 have:=sl_drop h (k:=0) (Nat.zero_le _) hc
 rwa [List.drop_zero,Nat.sub_zero] at this
set_option maxHeartbeats 1000000 in
theorem whole_calls (A:Option Addr) (n c:Nat) (b:List UInt8) (w:World) (h:Sl w 1 A n (b.map bv)) (hc:n<=c) (h4:4<=n) (hn:n<=1099511627776) :
  Calls Tryz.prog 181 #[.slice A n c] w fun e w'=>e=.returned (.bool (decide (whF b (n - 4))))/\Fr (fun _=>False) w w':=by
 have hl:=sl_len h
 refine (F181.of A n c w (Q:=fun v w'=>v=.bool (decide (whF b (n - 4)))/\Fr (fun _=>False) w w') ?_).mono (fun e w' ⟨v,he,hv,h⟩=>⟨by rw [he,hv],h⟩)
 have e1:IntKind.wrap .i64 ((n:Int) - 4)=((n - 4:Nat):Int):=by rw [i64_id (by omega) (by omega)]; omega
 unfold F181.vc
 rw [e1,Int.toNat_natCast]
 refine (take_calls A n c b _ 4 w h hn).mono ?_
 rintro e u ⟨rfl,rfl⟩
 refine ⟨_,_,rfl,gd_mk (decide_eq_true (by omega)) (gd_mk (decide_eq_true (by omega)) ?_)⟩
 refine (crc_calls _ (n - 4) c (b.take (n - 4)) u (sl_take (sl_zero h hc) (by omega)) (by omega)).mono ?_
 rintro e w1 ⟨rfl,f⟩
 refine ⟨_,rfl,?_,f⟩
 rw [show (4:Int)=((4:Nat):Int) from rfl,tk_eq (by omega)]
 have:=le4_lt (b.drop (n - 4))
 rw [u32_id (by omega) (by omega)]
 congr 1
 by_cases hw:whF b (n - 4)
 ·rw [decide_eq_true hw,hw]; simp
 ·rw [decide_eq_false hw,beq_eq_false_iff_ne]
  exact fun e=>hw (by omega)
def stC (k sq z:Nat):List Value:=[.int .i64 (k:Nat),.int .u64 (sq:Nat),.slice none 0 0,.int .i64 0,.int .i64 (z:Nat)]
theorem stC_one (k sq z:Nat):∀ v ∈ stC k sq z,v.oneCell'=true:=by
 intro v hv
 simp only [stC,List.mem_cons,List.not_mem_nil,or_false] at hv
 rcases hv with rfl | rfl | rfl | rfl | rfl <;> rfl
def begP (b:List UInt8):Int :=
 if b.length < 17 then 4 else if ¬ whF b 13 then 5 else if kF b < 1\/kF b > 8\/zF b > 65536 then 3 else 0
set_option maxHeartbeats 2000000 in
theorem begin_calls (A:Option Addr) (n c:Nat) (b:List UInt8) (w:World) (h:Sl w 1 A n (b.map bv)) (hc:n<=c) (hn:n<=1099511627776) :
  Calls Tryz.prog 179 #[.slice A n c] w fun e w'=>e=.returned (.tuple #[ofL (if begP b=0 then stC (kF b) (sF b) (zF b) else stC 0 0 0),.int .i64 (begP b)])/\Fr (fun _=>False) w w':=by
 have hl:=sl_len h
 refine (F179.of A n c w (Q:=fun v w'=>v=.tuple #[ofL (if begP b=0 then stC (kF b) (sF b) (zF b) else stC 0 0 0),.int .i64 (begP b)]/\Fr (fun _=>False) w w') ?_).mono (fun e w' ⟨v,he,hv,h⟩=>⟨by rw [he,hv],h⟩)
 have err:∀ k:Int,begP b=k->k ≠ 0->Value.tuple #[ofL (stC 0 0 0),.int .i64 k]=.tuple #[ofL (if begP b=0 then stC (kF b) (sF b) (zF b) else stC 0 0 0),.int .i64 (begP b)]:=by
  rintro k rfl h0
  rw [if_neg h0]
 refine rec_new (fun b1 w2 f1 hb1 r1=>?_)
 refine vIf_mk (fun hlt=>ansN_mk (cs:=stC 0 0 0) r1 rfl rfl (stC_one _ _ _) (fun w' g=>⟨err 4 ?_ (by decide),fr_var f1 hb1 g⟩)) (fun hlt=>?_)
 ·have hlt:(n:Int) < 17:=of_decide_eq_true hlt
  unfold begP
  rw [if_pos (by omega)]
 ·have hlt:¬ (n:Int) < 17:=of_decide_eq_false hlt
  have h17:¬ b.length < 17:=by omega
  have hs:=f1.sl h (fun _ _ _ h=>h)
  refine (take_calls A n c b 0 1 w2 hs hn).mono ?_
  rintro e u ⟨rfl,rfl⟩
  refine ⟨_,_,rfl,(take_calls A n c b 1 8 u hs hn).mono ?_⟩
  rintro e u ⟨rfl,rfl⟩
  refine ⟨_,_,rfl,(take_calls A n c b 9 4 u hs hn).mono ?_⟩
  rintro e u ⟨rfl,rfl⟩
  refine ⟨_,_,rfl,?_⟩
  have t1:tkN b 0 1=kF b:=by
   have:=tk_eq (b:=b) (a:=0) (z:=1) (by omega)
   rw [List.drop_zero] at this; exact this
  have t2:tkN b 1 8=sF b:=tk_eq (b:=b) (a:=1) (z:=8) (by omega)
  have t3:tkN b 9 4=zF b:=tk_eq (b:=b) (a:=9) (z:=4) (by omega)
  have k1:=kF_lt b
  have k3:=zF_lt b
  rw [t1,t2,t3,i64_id (n:=(kF b:Int)) (by omega) (by omega),i64_id (n:=(zF b:Int)) (by omega) (by omega)]
  refine gd_mk rfl (var_new (cs:=stC (kF b) (sF b) (zF b)) (sz:=5) rfl rfl (stC_one _ _ _) (fun b2 w3 f3 hb3 r3=>gd_mk (decide_eq_true (by omega)) ?_))
  have r1:=r1.fr f3 (fun h=>h)
  have f13:=f1.trans1 f3
  have h13:=f3.sl hs (fun _ _ _ h=>h)
  refine (whole_calls _ 17 c (b.take 17) w3 (sl_take (sl_zero h13 hc) (by omega)) (by omega) (by omega) (by omega)).mono ?_
  rintro e w4 ⟨rfl,f4⟩
  have r1:=r1.fr f4 (fun h=>h)
  have r3:=r3.fr f4 (fun h=>h)
  have f14:=f13.trans1 f4
  have hwh:whF (b.take 17) (17 - 4) ↔ whF b 13:=by
   show leT (((b.take 17).drop 13).take 4)=(crcS ((b.take 17).take 13)).toNat ↔ _
   rw [List.take_take,List.drop_take,List.take_take]
   exact Iff.rfl
  refine ⟨_,rfl,vIf_mk (fun hw=>ansN_mk (cs:=stC 0 0 0) r1 rfl rfl (stC_one _ _ _) (fun w' g=>⟨err 5 ?_ (by decide),fr_var f14 hb1 g⟩)) (fun hw=>?_)⟩
  ·have hw:¬ whF b 13:=fun h=>ndt hw (hwh.2 h)
   unfold begP
   rw [if_neg h17,if_pos hw]
  ·have hw:whF b 13:=hwh.1 (ndf hw)
   have fin:∀ t:Bool,t=decide (kF b < 1\/kF b > 8\/zF b > 65536)->jnC (F179.k10 (fun v w'=>v=.tuple #[ofL (if begP b=0 then stC (kF b) (sF b) (zF b) else stC 0 0 0),.int .i64 (begP b)]/\Fr (fun _=>False) w w')) ((b1,0),(b2,0),t,()) w4:=by
    rintro t rfl
    refine jnC_mk (fun _=>vIf_mk (fun h3=>ansN_mk (cs:=stC 0 0 0) r1 rfl rfl (stC_one _ _ _) (fun w' g=>⟨err 3 ?_ (by decide),fr_var f14 hb1 g⟩)) (fun h3=>jnC_mk (fun _=>⟨stC (kF b) (sF b) (zF b),rfl,rec_all r3,ansN_mk (N:=5) (cs:=stC (kF b) (sF b) (zF b)) r1 rfl rfl (stC_one _ _ _) (fun w' g=>⟨?_,fr_var f14 hb1 g⟩)⟩)))
    ·have h3:=of_decide_eq_true h3
     unfold begP
     rw [if_neg h17,if_neg (fun h=>h hw),if_pos h3]
    ·have h3:=of_decide_eq_false h3
     have:begP b=0:=by unfold begP; rw [if_neg h17,if_neg (fun h=>h hw),if_neg h3]
     rw [this,if_pos rfl]
   refine ⟨_,r3.cell (o:=0) rfl,vIf_mk (fun h3=>fin _ ?_) (fun h3=>⟨_,r3.cell (o:=0) rfl,vIf_mk (fun h4=>fin _ ?_) (fun h4=>⟨_,r3.cell (o:=4) rfl,fin _ ?_⟩)⟩)⟩
   ·have h3:(kF b:Int) < 1:=of_decide_eq_true h3
    exact (decide_eq_true (.inl (by omega))).symm
   ·have h4:(kF b:Int) > 8:=of_decide_eq_true h4
    exact (decide_eq_true (.inr (.inl (by omega)))).symm
   ·have h3:¬ (kF b:Int) < 1:=of_decide_eq_false h3
    have h4:¬ (kF b:Int) > 8:=of_decide_eq_false h4
    exact decide_eq_decide.2 (by omega)
def frC (x:Frm) (A:Option Addr) (n c:Nat):List Value:=[.int .i64 (x.k:Nat),.int .u64 (x.sq:Nat),.slice A n c,.int .i64 x.z]
theorem frC_one (x:Frm) (A:Option Addr) (n c:Nat):∀ v ∈ frC x A n c,v.oneCell'=true:=by
 intro v hv
 simp only [frC,List.mem_cons,List.not_mem_nil,or_false] at hv
 rcases hv with rfl | rfl | rfl | rfl <;> rfl
theorem beg_err {b:List UInt8} (h:begP b ≠ 0):frG b=(begP b,0,0,[]):=by
 unfold begP at h ⊢
 split
 ·rename_i h1; exact frG_4 h1
 ·rename_i h1
  split
  ·rename_i h2; exact frG_5 h1 h2
  ·rename_i h2
   split
   ·rename_i h3; exact frG_3 h1 (Decidable.not_not.1 h2) h3
   ·rename_i h3; rw [if_neg h1,if_neg h2,if_neg h3] at h; exact absurd rfl h
theorem beg_ok {b:List UInt8} (h:begP b=0):¬ b.length < 17/\whF b 13/\¬ (kF b < 1\/kF b > 8\/zF b > 65536):=by
 unfold begP at h
 split at h
 ·omega
 ·rename_i h1
  split at h
  ·omega
  ·rename_i h2
   split at h
   ·omega
   ·rename_i h3; exact ⟨h1,Decidable.not_not.1 h2,h3⟩
abbrev FrA (w w':World) (v:Value) (x:Frm):Prop:=Fr (fun _=>False) w w'/\∃ (A:Option Addr) (n c:Nat),v=.tuple #[ofL (frC x A n c),.int .i64 x.e]/\Sl w' 1 A n (x.d.map bv)/\n<=c
set_option maxHeartbeats 2000000 in
theorem fparse_calls (A:Option Addr) (n c:Nat) (b:List UInt8) (at_:Int) (w:World) (h:Sl w 1 A n (b.map bv)) (hc:n<=c) (hn:n<=1099511627776) :
  Calls Tryz.prog 151 #[.slice A n c,.int .i64 at_] w fun e w'=>∃ v,e=.returned v/\FrA w w' v (frP b at_):=by
 have hl:=sl_len h
 refine (F151.of A n c at_ w (Q:=fun v w'=>FrA w w' v (frP b at_)) ?_)
 have err:∀ (k:Int) (w':World),frP b at_=⟨k,0,0,[],0⟩->Fr (fun _=>False) w w'->FrA w w' (.tuple #[ofL [.int .i64 0,.int .u64 0,.slice none 0 0,.int .i64 0],.int .i64 k]) (frP b at_):=by
  intro k w' hk f
  rw [hk]
  exact ⟨f,none,0,0,rfl,Sl.nil _ _ _,Nat.le_refl _⟩
 have z1:∀ v ∈ [Value.int .i64 0,.int .u64 0,.slice none 0 0,.int .i64 0],v.oneCell'=true:=frC_one ⟨0,0,0,[],0⟩ none 0 0
 refine rec_new (fun b1 w2 f1 hb1 r1=>?_)
 have two:∀ t:Bool,(t=true->frP b at_=⟨2,0,0,[],0⟩)->(t=false->jnC (F151.k3 (fun v w'=>FrA w w' v (frP b at_))) ((A,n,c),at_,(b1,0),()) w2)->jnC (F151.k2 (fun v w'=>FrA w w' v (frP b at_))) ((A,n,c),at_,(b1,0),t,()) w2:=by
  intro t h1 h2
  refine jnC_mk (fun _=>vIf_mk (fun ht=>?_) (fun ht=>h2 ht))
  exact ansN_mk (N:=4) (cs:=[.int .i64 0,.int .u64 0,.slice none 0 0,.int .i64 0]) r1 rfl rfl z1 (fun w' g=>err 2 w' (h1 ht) (fr_var f1 hb1 g))
 refine vIf_mk (fun hlt=>two true (fun _=>frP_out (.inl (of_decide_eq_true hlt))) (fun h=>by cases h)) (fun hlt=>two _ (fun h=>frP_out (.inr (by have:=of_decide_eq_true h; omega))) (fun hgt=>jnC_mk (fun _=>?_)))
 have hlt:¬ at_ < 0:=of_decide_eq_false hlt
 have hgt:¬ at_ > (n:Int):=of_decide_eq_false hgt
 obtain ⟨a,rfl⟩:∃ a:Nat,at_=(a:Int):=⟨at_.toNat,by omega⟩
 clear two
 have han:a<=n:=by omega
 refine gd_mk (decide_eq_true (by show (0:Int)<=(a:Int); omega)) (gd_mk (decide_eq_true (by show (a:Int)<=(n:Int); omega)) ?_)
 dsimp only
 rw [Int.toNat_natCast]
 have hs:=f1.sl h (fun _ _ _ h=>h)
 have hr:=sl_drop hs han hc
 have hrl:(b.drop a).length=n - a:=by rw [List.length_drop,hl]
 have ferr:∀ e:Int,frG (b.drop a)=(e,0,0,[])->e ≠ 0->frP b (a:Int)=⟨e,0,0,[],0⟩:=fun e he h0=>frP_err (by omega) he h0
 have fok:∀ k sq d,frG (b.drop a)=(0,k,sq,d)->frP b (a:Int)=⟨0,k,sq,d,(a:Int)+21+(d.length:Int)⟩:=fun k sq d he=>frP_ok (by omega) he
 generalize hrd:b.drop a=r at hr hrl ferr fok
 generalize hR:slA A c a 1=R at hr ⊢
 refine (begin_calls R (n - a) (c - a) r w2 hr (by omega) (by omega)).mono ?_
 rintro e w3 ⟨rfl,f3⟩
 have r1:=r1.fr f3 (fun h=>h)
 have f13:=f1.trans1 f3
 have hr:=f3.sl hr (fun _ _ _ h=>h)
 refine ⟨_,_,rfl,?_⟩
 by_cases hb:begP r=0
 ·rw [hb,if_pos rfl]
  obtain ⟨g1,g2,g3⟩:=beg_ok hb
  have k3:=zF_lt r
  refine var_new (sz:=5) rfl rfl (stC_one _ _ _) (fun b2 w4 f4 hb2 r2=>?_)
  have r1:=r1.fr f4 (fun h=>h)
  have f14:=f13.trans1 f4
  have hr:=f4.sl hr (fun _ _ _ h=>h)
  have hb12:b1 ≠ b2:=by
   have:=r1.lt
   have:=r2.lt
   have h3:=f3.size
   intro e; subst e
   have:=(RecAt.lt (w:=w3) (by assumption)); omega
  have size:∀ (u:World) (K:Int->World->Prop),K (21+(zF r:Int)) u->Calls Tryz.prog 180 #[.int .i64 (zF r:Nat)] u fun e x=>∃ i:Int,e=.returned (.int .i64 i)/\K i x:=by
   intro u K hK
   refine (F180.of (zF r:Nat) u (Q:=fun v x=>v=.int .i64 (21+(zF r:Int))/\x=u) ⟨?_,rfl⟩).mono (fun e x ⟨v,he,hv,hx⟩=>⟨21+(zF r:Int),by rw [he,hv],by rw [hx]; exact hK⟩)
   rw [i64_id (n:=17+(zF r:Int)) (by omega) (by omega),i64_id (by omega) (by omega)]
   congr 1; omega
  refine vIf_f (by rfl) ⟨_,r2.cell (o:=4) rfl,size _ _ (vIf_mk (fun h4=>?_) (fun h4=>⟨_,r2.cell (o:=4) rfl,size _ _ ?_⟩))⟩
  ·have h4:((n - a:Nat):Int) < 21+(zF r:Int):=of_decide_eq_true h4
   exact ansN_mk (N:=4) (cs:=[.int .i64 0,.int .u64 0,.slice none 0 0,.int .i64 0]) r1 rfl rfl z1 (fun w' g=>err 4 w' (ferr 4 (frG_4' g1 g2 g3 (by omega)) (by decide)) (fr_var f14 hb1 g))
  ·have h4:¬ ((n - a:Nat):Int) < 21+(zF r:Int):=of_decide_eq_false h4
   have e21:(21+(zF r:Int))=((21+zF r:Nat):Int):=by omega
   have e17:IntKind.wrap .i64 (17+(zF r:Int))=((17+zF r:Nat):Int):=by rw [i64_id (by omega) (by omega)]; omega
   rw [e21,Int.toNat_natCast]
   have h0:=sl_zero hr (show n - a<=c - a by omega)
   refine gd_mk (decide_eq_true (by omega)) (gd_mk (decide_eq_true (by omega)) ((whole_calls _ (21+zF r) (c - a) (r.take (21+zF r)) w4 (sl_take h0 (by omega)) (by omega) (by omega) (by omega)).mono ?_))
   rintro e w5 ⟨rfl,f5⟩
   have r1:=r1.fr f5 (fun h=>h)
   have r2:=r2.fr f5 (fun h=>h)
   have f15:=f14.trans1 f5
   have h0:=f5.sl h0 (fun _ _ _ h=>h)
   have hwh:whF (r.take (21+zF r)) (21+zF r - 4) ↔ whF r (17+zF r):=by
    show leT (((r.take (21+zF r)).drop (21+zF r - 4)).take 4)=(crcS ((r.take (21+zF r)).take (21+zF r - 4))).toNat ↔ _
    rw [List.take_take,List.drop_take,List.take_take,show 21+zF r - 4=17+zF r by omega,show min 4 (21+zF r - (17+zF r))=4 by omega,Nat.min_eq_left (show 17+zF r<=21+zF r by omega)]
   refine ⟨_,rfl,vIf_mk (fun hw=>?_) (fun hw=>⟨_,r2.cell (o:=4) rfl,?_⟩)⟩
   ·have hw:¬ whF r (17+zF r):=fun h=>ndt hw (hwh.2 h)
    exact ansN_mk (N:=4) (cs:=[.int .i64 0,.int .u64 0,.slice none 0 0,.int .i64 0]) r1 rfl rfl z1 (fun w' g=>err 5 w' (ferr 5 (frG_5' g1 g2 g3 (by omega) hw) (by decide)) (fr_var f15 hb1 g))
   ·have hw:whF r (17+zF r):=hwh.1 (ndf hw)
    have hok:=fok _ _ _ (frG_0 g1 g2 g3 (by omega) hw)
    have hdl:((r.drop 17).take (zF r)).length=zF r:=by rw [List.length_take,List.length_drop]; omega
    dsimp only
    rw [e17,Int.toNat_natCast,show 17+zF r - 17=zF r by omega]
    refine gd_mk (decide_eq_true (by omega)) (gd_mk (decide_eq_true (by omega)) (gd_mk (decide_eq_true (by omega)) ?_))
    have h17:Sl w5 1 (slA (slA R (c - a) 0 1) (c - a) 17 1) (zF r) (((r.drop 17).take (zF r)).map bv):=sl_take (sl_drop h0 (by omega) (by omega)) (by omega)
    refine (clone_by _ (zF r) (c - a - 17) ((r.drop 17).take (zF r)) w5 h17 (by omega)).mono ?_
    rintro e w6 ⟨f6,A',c',rfl,hrow⟩
    have r1:=r1.fr f6 (fun h=>h)
    have r2:=r2.fr f6 (fun h=>h)
    have f16:=f15.trans1 f6
    have hA'b:∀ k,blkOf A'=some k->k ≠ b1/\k ≠ b2:=fun k hk=>by
     have:=(hrow.blt hk).1
     have l1:=RecAt.lt (w:=w5) (by assumption:RecAt w5 b1 _ _)
     have l2:=RecAt.lt (w:=w5) (by assumption:RecAt w5 b2 _ _)
     exact ⟨by omega,by omega⟩
    refine ⟨_,_,_,rfl,r2.st_mk (o:=2) (vs:=[Value.slice A' (zF r) c']) (show 2+1<=5 by omega) (fun v hv=>by simp at hv; subst hv; rfl) (fun r3 f7=>?_)⟩
    have r3:RecAt _ b2 _ [.int .i64 (kF r:Nat),.int .u64 (sF r:Nat),.slice A' (zF r) c',.int .i64 0,.int .i64 (zF r:Nat)]:=r3
    have r1:=r1.fr f7 (fun h=>hb12 h)
    have ez:IntKind.wrap .i64 ((a:Int)+((21+zF r:Nat):Int))=(a:Int)+21+(((r.drop 17).take (zF r)).length:Int):=by rw [hdl,i64_id (by omega) (by omega)]; omega
    rw [ez]
    refine r3.st_mk (o:=3) (vs:=[Value.int .i64 ((a:Int)+21+(((r.drop 17).take (zF r)).length:Int))]) (show 3+1<=5 by omega) (fun v hv=>by simp at hv; subst hv; rfl) (fun r4 f8=>?_)
    have r4:RecAt _ b2 _ [.int .i64 (kF r:Nat),.int .u64 (sF r:Nat),.slice A' (zF r) c',.int .i64 ((a:Int)+21+(((r.drop 17).take (zF r)).length:Int)),.int .i64 (zF r:Nat)]:=r4
    have r1:=r1.fr f8 (fun h=>hb12 h)
    refine ⟨frC (frP b (a:Int)) A' (zF r) c',rfl,?_,ansN_mk (N:=4) r1 rfl rfl (frC_one _ _ _ _) (fun w' g=>?_)⟩
    ·rw [hok]
     exact r4.cells (o:=0) (fun j v hj=>by
      match j,hj with
      | 0,hj=>exact hj
      | 1,hj=>exact hj
      | 2,hj=>exact hj
      | 3,hj=>exact hj)
    ·have ff:=fr_var (fr_var (fr_var f16 (by have:=f13.size; omega) f7) (by have:=f13.size; omega) f8) hb1 g
     refine ⟨ff,A',zF r,c',by rw [hok],?_,?_⟩
     ·rw [hok]
      exact g.sl (f8.sl (f7.sl hrow.sl (fun _ k hk=>(hA'b k hk).2)) (fun _ k hk=>(hA'b k hk).2)) (fun _ k hk=>(hA'b k hk).1)
     ·exact hrow.le
 ·rw [if_neg hb]
  refine var_new (sz:=5) rfl rfl (stC_one _ _ _) (fun b2 w4 f4 hb2 r2=>vIf_t ?_ ?_)
  ·simpa using hb
  ·have r1:=r1.fr f4 (fun h=>h)
   exact ansN_mk (N:=4) (cs:=[.int .i64 0,.int .u64 0,.slice none 0 0,.int .i64 0]) r1 rfl rfl z1 (fun w' g=>err _ w' (ferr _ (beg_err hb) hb) (fr_var (f13.trans1 f4) hb1 g))
theorem u8_nat (k:Nat):Value.int .u8 (IntKind.wrap .u8 (k:Int))=bv (UInt8.ofNat (k % 256)):=by
 rw [IntKind.wrap_u8,show (k:Int) % 256=((k % 256:Nat):Int) by omega]
 exact bv_nat (Nat.mod_lt _ (by omega))
theorem crc_u64 (b:List UInt8):IntKind.wrap .u64 ((crcS b).toNat:Int)=(((crcS b).toNat:Nat):Int):=by
 have:=(crcS b).isLt
 exact u64_id (by omega) (by omega)
set_option maxHeartbeats 1000000 in
theorem rmake_calls (k sq:Nat) (A:Option Addr) (n c:Nat) (d:List UInt8) (w:World) (h:Sl w 1 A n (d.map bv)) (hn:n<=4294967295) (hk:k < 9223372036854775808) (hs:sq < 18446744073709551616) :
  Calls Tryz.prog 114 #[.int .i64 (k:Nat),.int .u64 (sq:Nat),.slice A n c] w fun e w'=>∃ A' c',e=.returned (.slice A' (21+n) c')/\RB w w' A' (21+n) c' (mkF k sq d):=by
 have hl:=sl_len h
 refine (F114.of (k:Nat) (sq:Nat) A n c w (Q:=fun v w'=>∃ A' c',v=.slice A' (21+n) c'/\RB w w' A' (21+n) c' (mkF k sq d)) ?_).mono (fun e w' ⟨v,he,A',c',hv,h⟩=>⟨A',c',by rw [he,hv],h⟩)
 unfold F114.vc
 rw [u8_nat]
 refine push_mk (RB.nil w) (by omega) (fun A1 c1 w1 h1=>?_)
 rw [List.nil_append] at h1
 refine (rputB_calls A1 _ c1 _ sq 8 w1 h1.sl (by omega) hs (by omega)).mono ?_
 rintro e w2 ⟨A2,c2,rfl,h2⟩
 have h2:=h2.le h1.1
 refine ⟨A2,_,c2,rfl,?_⟩
 have en:IntKind.wrap .u64 ((n:Nat):Int)=((n:Nat):Int):=u64_id (by omega) (by omega)
 rw [en]
 refine (rputB_calls A2 _ c2 _ n 4 w2 h2.sl (by omega) (by omega) (by omega)).mono ?_
 rintro e w3 ⟨A3,c3,rfl,h3⟩
 have h3:=h3.le h2.1
 have eh:[UInt8.ofNat (k % 256)] ++ leB sq 8 ++ leB n 4=hdF k sq d.length:=by rw [hl]; rfl
 rw [eh] at h3
 refine ⟨A3,_,c3,rfl,(rcrc_calls A3 _ c3 _ w3 h3.sl (by omega)).mono ?_⟩
 rintro e w4 ⟨rfl,f4⟩
 have h4:=h3.fr f4
 refine ⟨_,rfl,?_⟩
 rw [crc_u64]
 refine (rputB_calls A3 _ c3 _ _ 4 w4 h4.sl (by omega) (by have:=(crcS (hdF k sq d.length)).isLt; omega) (by omega)).mono ?_
 rintro e w5 ⟨A5,c5,rfl,h5⟩
 have h5:=h5.le h4.1
 refine ⟨A5,_,c5,rfl,appB_mk h5 (h5.1.sl h (fun _ _ _ h=>h)) (by omega) (fun A6 c6 w6 h6=>?_)⟩
 have eb:hdF k sq d.length ++ leB (crcS (hdF k sq d.length)).toNat 4 ++ d=bdF k sq d:=rfl
 rw [eb] at h6
 refine (rcrc_calls A6 _ c6 _ w6 h6.sl (by omega)).mono ?_
 rintro e w7 ⟨rfl,f7⟩
 have h7:=h6.fr f7
 refine ⟨_,rfl,?_⟩
 rw [crc_u64]
 refine (rputB_calls A6 _ c6 _ _ 4 w7 h7.sl (by omega) (by have:=(crcS (bdF k sq d)).isLt; omega) (by omega)).mono ?_
 rintro e w8 ⟨A8,c8,rfl,h8⟩
 have h8:=h8.le h7.1
 have e:0+1+8+4+4+n+4=21+n:=by omega
 rw [e] at h8 ⊢
 exact ⟨A8,_,c8,rfl,A8,c8,rfl,h8⟩
set_option maxHeartbeats 2000000 in
theorem rfparse_calls (A:Option Addr) (n c:Nat) (b:List UInt8) (at_:Int) (w:World) (h:Sl w 1 A n (b.map bv)) (hc:n<=c) (hn:n<=1099511627776) :
  Calls Tryz.prog 110 #[.slice A n c,.int .i64 at_] w fun e w'=>∃ v,e=.returned v/\FrA w w' v (frP b at_):=by
 have hl:=sl_len h
 refine (F110.of A n c at_ w (Q:=fun v w'=>FrA w w' v (frP b at_)) ?_)
 have err:∀ (k:Int) (w':World),frP b at_=⟨k,0,0,[],0⟩->Fr (fun _=>False) w w'->FrA w w' (.tuple #[ofL [.int .i64 0,.int .u64 0,.slice none 0 0,.int .i64 0],.int .i64 k]) (frP b at_):=by
  intro k w' hk f
  rw [hk]
  exact ⟨f,none,0,0,rfl,Sl.nil _ _ _,Nat.le_refl _⟩
 have z1:∀ v ∈ [Value.int .i64 0,.int .u64 0,.slice none 0 0,.int .i64 0],v.oneCell'=true:=frC_one ⟨0,0,0,[],0⟩ none 0 0
 refine rec_new (fun b1 w2 f1 hb1 r1=>?_)
 have two:∀ t:Bool,(t=true->frP b at_=⟨2,0,0,[],0⟩)->(t=false->jnC (F110.k3 (fun v w'=>FrA w w' v (frP b at_))) ((A,n,c),at_,(b1,0),()) w2)->jnC (F110.k2 (fun v w'=>FrA w w' v (frP b at_))) ((A,n,c),at_,(b1,0),t,()) w2:=by
  intro t h1 h2
  refine jnC_mk (fun _=>vIf_mk (fun ht=>?_) (fun ht=>h2 ht))
  exact ansN_mk (N:=4) (cs:=[.int .i64 0,.int .u64 0,.slice none 0 0,.int .i64 0]) r1 rfl rfl z1 (fun w' g=>err 2 w' (h1 ht) (fr_var f1 hb1 g))
 refine vIf_mk (fun hlt=>two true (fun _=>frP_out (.inl (of_decide_eq_true hlt))) (fun h=>by cases h)) (fun hlt=>two _ (fun h=>frP_out (.inr (by have:=of_decide_eq_true h; omega))) (fun hgt=>jnC_mk (fun _=>?_)))
 have hlt:¬ at_ < 0:=of_decide_eq_false hlt
 have hgt:¬ at_ > (n:Int):=of_decide_eq_false hgt
 obtain ⟨a,rfl⟩:∃ a:Nat,at_=(a:Int):=⟨at_.toNat,by omega⟩
 clear two
 have han:a<=n:=by omega
 refine gd_mk (decide_eq_true (by show (0:Int)<=(a:Int); omega)) (gd_mk (decide_eq_true (by show (a:Int)<=(n:Int); omega)) ?_)
 dsimp only
 rw [Int.toNat_natCast]
 have hs:=f1.sl h (fun _ _ _ h=>h)
 have hr:=sl_drop hs han hc
 have hrl:(b.drop a).length=n - a:=by rw [List.length_drop,hl]
 have ferr:∀ e:Int,frG (b.drop a)=(e,0,0,[])->e ≠ 0->frP b (a:Int)=⟨e,0,0,[],0⟩:=fun e he h0=>frP_err (by omega) he h0
 have fok:∀ k sq d,frG (b.drop a)=(0,k,sq,d)->frP b (a:Int)=⟨0,k,sq,d,(a:Int)+21+(d.length:Int)⟩:=fun k sq d he=>frP_ok (by omega) he
 have hsub:∀ w',Fr (fun _=>False) w w'->Sl w' 1 (slA A c a 1) (n - a) ((b.drop a).map bv):=fun w' f=>sl_drop (f.sl h (fun _ _ _ h=>h)) han hc
 generalize hrd:b.drop a=r at hr hrl ferr fok hsub
 generalize hR:slA A c a 1=R at hr hsub ⊢
 refine vIf_mk (fun h17=>?_) (fun h17=>?_)
 ·have h17:((n - a:Nat):Int) < 17:=of_decide_eq_true h17
  exact ansN_mk (N:=4) (cs:=[.int .i64 0,.int .u64 0,.slice none 0 0,.int .i64 0]) r1 rfl rfl z1 (fun w' g=>err 4 w' (ferr 4 (frG_4 (by omega)) (by decide)) (fr_var f1 hb1 g))
 have h17:¬ ((n - a:Nat):Int) < 17:=of_decide_eq_false h17
 have g1:¬ r.length < 17:=by omega
 refine (rtake_calls R (n - a) (c - a) r 1 8 w2 hr (by omega)).mono ?_
 rintro e u ⟨rfl,rfl⟩
 refine ⟨_,_,rfl,(rtake_calls R (n - a) (c - a) r 9 4 u hr (by omega)).mono ?_⟩
 rintro e u ⟨rfl,rfl⟩
 refine ⟨_,_,rfl,(rtake_calls R (n - a) (c - a) r 13 4 u hr (by omega)).mono ?_⟩
 rintro e u ⟨rfl,rfl⟩
 refine ⟨_,_,rfl,gd_mk (decide_eq_true (by omega)) ?_⟩
 have t2:tkN r 1 8=sF r:=tk_eq (b:=r) (a:=1) (z:=8) (by omega)
 have t3:tkN r 9 4=zF r:=tk_eq (b:=r) (a:=9) (z:=4) (by omega)
 have t4:tkN r 13 4=leT ((r.drop 13).take 4):=tk_eq (b:=r) (a:=13) (z:=4) (by omega)
 rw [t2,t3,t4]
 have h0:=sl_zero hr (show n - a<=c - a by omega)
 refine (rcrc_calls _ 13 (c - a) (r.take 13) u (sl_take h0 (by omega)) (by omega)).mono ?_
 rintro e w3 ⟨rfl,f3⟩
 have r1:=r1.fr f3 (fun h=>h)
 have f13:=f1.trans1 f3
 refine ⟨_,rfl,?_⟩
 rw [crc_u64]
 refine vIf_mk (fun h5=>?_) (fun h5=>?_)
 ·have h5:¬ whF r 13:=by
   intro hw
   rw [hw] at h5; simp at h5
  exact ansN_mk (N:=4) (cs:=[.int .i64 0,.int .u64 0,.slice none 0 0,.int .i64 0]) r1 rfl rfl z1 (fun w' g=>err 5 w' (ferr 5 (frG_5 g1 h5) (by decide)) (fr_var f13 hb1 g))
 have g2:whF r 13:=by
  have:((leT ((r.drop 13).take 4):Nat):Int)=(((crcS (r.take 13)).toNat:Nat):Int):=by simpa using h5
  show leT ((r.drop 13).take 4)=_
  omega
 have k3:=zF_lt r
 have k1:=kF_lt r
 have hk0:kF r=(r[0]'(by omega)).toNat:=by
  show leT (r.take 1)=_
  have hc0:r.take 1=[r[0]'(by omega)]:=by
   have h0:r=r[0]'(by omega) :: r.drop 1:=by
    have:=List.drop_eq_getElem_cons (l:=r) (i:=0) (by omega)
    rwa [List.drop_zero] at this
   conv=>lhs; rw [h0]
   rfl
  rw [hc0]
  show _+256 * 0=_
  omega
 have ez:IntKind.wrap .i64 ((zF r:Nat):Int)=((zF r:Nat):Int):=i64_id (by omega) (by omega)
 obtain ⟨b',o',hA,hcl⟩:=le_get (hsub w3 f13) (i:=0) (by omega) (by omega)
 rw [<- hk0] at hcl
 have ek:IntKind.wrap .i64 ((kF r:Nat):Int)=((kF r:Nat):Int):=i64_id (by omega) (by omega)
 rw [hA]
 refine dr_mk (gd_mk (decide_eq_true (by omega)) ⟨_,by rw [show o'=o'+0 * 1 by omega]; exact hcl,?_⟩)
 dsimp only
 rw [ek,<- hA]
 have fin:∀ t:Bool,t=decide (kF r < 1\/kF r > 8\/zF r > 65536)->jnC (F110.k13 (fun v w'=>FrA w w' v (frP b (a:Int)))) ((a:Int),(b1,0),(R,n - a,c - a),((sF r:Nat):Int),((zF r:Nat):Int),((kF r:Nat):Int),t,()) w3:=by
  rintro t rfl
  refine jnC_mk (fun _=>vIf_mk (fun h3=>?_) (fun h3=>jnC_mk (fun _=>?_)))
  ·have h3:=of_decide_eq_true h3
   exact ansN_mk (N:=4) (cs:=[.int .i64 0,.int .u64 0,.slice none 0 0,.int .i64 0]) r1 rfl rfl z1 (fun w' g=>err 3 w' (ferr 3 (frG_3 g1 g2 h3) (by decide)) (fr_var f13 hb1 g))
  have g3:=of_decide_eq_false h3
  have e21:IntKind.wrap .i64 (((n - a:Nat):Int) - 21)=((n - a:Nat):Int) - 21:=i64_id (by omega) (by omega)
  have e17:IntKind.wrap .i64 (17+((zF r:Nat):Int))=((17+zF r:Nat):Int):=by rw [i64_id (by omega) (by omega)]; omega
  have e21':IntKind.wrap .i64 (21+((zF r:Nat):Int))=((21+zF r:Nat):Int):=by rw [i64_id (by omega) (by omega)]; omega
  unfold F110.k14c
  dsimp only
  rw [ez,e21,e17,e21',Int.toNat_natCast,Int.toNat_natCast,show 17+zF r - 17=zF r by omega]
  refine vIf_mk (fun h4=>?_) (fun h4=>?_)
  ·have h4:((n - a:Nat):Int) - 21 < ((zF r:Nat):Int):=of_decide_eq_true h4
   exact ansN_mk (N:=4) (cs:=[.int .i64 0,.int .u64 0,.slice none 0 0,.int .i64 0]) r1 rfl rfl z1 (fun w' g=>err 4 w' (ferr 4 (frG_4' g1 g2 g3 (by omega)) (by decide)) (fr_var f13 hb1 g))
  have h4:¬ ((n - a:Nat):Int) - 21 < ((zF r:Nat):Int):=of_decide_eq_false h4
  refine gd_mk (decide_eq_true (by omega)) (gd_mk (decide_eq_true (by omega)) (gd_mk (decide_eq_true (by omega)) (gd_mk (decide_eq_true (by omega)) (gd_mk (decide_eq_true (by omega)) ?_))))
  have fd:Fr (fun _=>False) w3 w3.drew:=Fr.drew _ _
  have f1d:=f13.trans1 fd
  have r1:=r1.fr fd (fun h=>h)
  have hdat:∀ w',Fr (fun _=>False) w w'->Sl w' 1 (slA R (c - a) 17 1) (zF r) (((r.drop 17).take (zF r)).map bv):=fun w' f=>sl_take (sl_drop (hsub w' f) (by omega) (by omega)) (by omega)
  have hdl:((r.drop 17).take (zF r)).length=zF r:=by rw [List.length_take,List.length_drop]; omega
  refine (rmake_calls (kF r) (sF r) _ (zF r) (c - a - 17) _ w3.drew (hdat _ f1d) (by omega) (by omega) (sF_lt r)).mono ?_
  rintro e w4 ⟨A4,c4,rfl,h4'⟩
  have r1:=r1.fr h4'.1 (fun h=>h)
  have f14:=f1d.trans1 h4'.1
  refine ⟨A4,_,c4,rfl,(same_calls A4 (21+zF r) c4 _ _ (21+zF r) (c - a) (r.take (21+zF r)) w4 h4'.sl (sl_take (sl_zero (hsub w4 f14) (by omega)) (by omega)) (by omega)).mono ?_⟩
  rintro e w5 ⟨rfl,f5⟩
  have r1:=r1.fr f5 (fun h=>h)
  have f15:=f14.trans1 f5
  refine ⟨_,rfl,vIf_mk (fun hw=>?_) (fun hw=>?_)⟩
  ·have hw:¬ whF r (17+zF r):=by
    intro hw'
    rw [(mkF_iff (by omega) g2).2 hw'] at hw
    simp at hw
   exact ansN_mk (N:=4) (cs:=[.int .i64 0,.int .u64 0,.slice none 0 0,.int .i64 0]) r1 rfl rfl z1 (fun w' g=>err 5 w' (ferr 5 (frG_5' g1 g2 g3 (by omega) hw) (by decide)) (fr_var f15 hb1 g))
  ·have hw:whF r (17+zF r):=by
    refine (mkF_iff (by omega) g2).1 ?_
    have:(mkF (kF r) (sF r) ((r.drop 17).take (zF r)) == r.take (21+zF r))=true:=by simpa using hw
    exact eq_of_beq this
   have hok:=fok _ _ _ (frG_0 g1 g2 g3 (by omega) hw)
   have ea:IntKind.wrap .i64 ((a:Int)+21)=(a:Int)+21:=i64_id (by omega) (by omega)
   have ez':IntKind.wrap .i64 ((a:Int)+21+((zF r:Nat):Int))=(a:Int)+21+(((r.drop 17).take (zF r)).length:Int):=by rw [hdl,i64_id (by omega) (by omega)]
   rw [ea,ez']
   refine gd_mk (decide_eq_true (by omega)) (gd_mk (decide_eq_true (by omega)) (gd_mk (decide_eq_true (by omega)) ?_))
   refine ansN_mk (N:=4) (cs:=frC ⟨0,kF r,sF r,(r.drop 17).take (zF r),(a:Int)+21+(((r.drop 17).take (zF r)).length:Int)⟩ (slA R (c - a) 17 1) (zF r) (c - a - 17)) r1 rfl rfl (frC_one _ _ _ _) (fun w' g=>?_)
   have ff:=fr_var f15 hb1 g
   rw [hok]
   exact ⟨ff,_,_,_,rfl,hdat _ ff,by omega⟩
 refine vIf_mk (fun h6=>fin _ ?_) (fun h6=>vIf_mk (fun h7=>fin _ ?_) (fun h7=>fin _ ?_))
 ·have h6:((kF r:Nat):Int)=0:=by simpa using h6
  exact (decide_eq_true (.inl (by omega))).symm
 ·have h7:((kF r:Nat):Int) > 8:=of_decide_eq_true h7
  exact (decide_eq_true (.inr (.inl (by omega)))).symm
 ·have h6:¬ ((kF r:Nat):Int)=0:=by simpa using h6
  have h7:¬ ((kF r:Nat):Int) > 8:=of_decide_eq_false h7
  exact decide_eq_decide.2 (by omega)
end Go.Proofs.YthcdionpeoobbaaGreatDoor
