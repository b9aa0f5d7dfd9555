import Derived.Shelf.Lays
import Derived.Test.YtkfanhdicnjdlaaGreatDoorProg
import Derived.Shelf.Sort.Plain
import Derived.Shelf.Slices.In.SortNone
import Derived.Test.YtkfanhdicnjdlaaGreatDoorP2
set_option linter.unusedVariables false
set_option linter.unusedSimpArgs false
namespace Go.Proofs.YtkfanhdicnjdlaaGreatDoor.StbNm
open Go.GV Go.RowKit Go.Stb
structure Srt (β:Type) (enc:β->List Value) (cmp:β->β->Int):Prop where
 len:∀ x,(enc x).length=2
 one:∀ x,∀ v ∈ enc x,v.oneCell'=true
 ord:OrdC cmp
 call:∀ x y w,Calls Tryz.prog 157 #[ofL (enc x),ofL (enc y)] w fun e w'=>e=.returned (.int .i64 (cmp x y))/\Fr (fun _=>False) w w'
def cf:Value:=.func (.func 157) #[] #[]
section
variable {β:Type} {enc:β->List Value} {cmp:β->β->Int}
abbrev encT (enc:β->List Value):β×Nat->List Value:=fun x=>enc x.1
theorem Srt.lenT (h:Srt β enc cmp) {l:List (β×Nat)}:∀ x ∈ l,(encT enc x).length=2:=fun x _=>h.len x.1
def RS (enc:β->List Value) (w:World) (B:Nat) (A:Option Addr) (n c:Nat) (l:List (β×Nat)):Prop:=Row w B 160 2 A n c (flt (encT enc) l)/\l.length=n
theorem RS.fr0 {w w':World} {B:Nat} {A:Option Addr} {n c:Nat} {l:List (β×Nat)} (h:RS enc w B A n c l) (f:Fr (fun _=>False) w w'):RS enc w' B A n c l:=⟨f.row h.1 (fun _ _ h=>h),h.2⟩
theorem RS.drew {w:World} {B:Nat} {A:Option Addr} {n c:Nat} {l:List (β×Nat)} (h:RS enc w B A n c l):RS enc w.drew B A n c l:=h.fr0 (Fr.drew _ _)
theorem rs_rd (h0:Srt β enc cmp) {w:World} {B:Nat} {A:Option Addr} {n c:Nat} {l:List (β×Nat)} (h:RS enc w B A n c l) {i:Nat} {x:β×Nat} (hi:l[i]?=some x) {ii:Int} (hii:ii=(i:Int)) {K:List Value->Prop} (hK:K (enc x.1)) :
  dr A fun b o=>gd (decide (0<=ii)) (gd (decide (ii < ((n:Nat):Int))) (ldA 2 w b (o+ii.toNat * 2) K)) :=
 el_rd h.1.sl h0.lenT hi hii h.2 (fun b o hA hc=>⟨enc x.1,h0.len x.1,hc,hK⟩)
theorem rs_swap (h0:Srt β enc cmp) {w:World} {B:Nat} {A:Option Addr} {n c:Nat} {l:List (β×Nat)} (h:RS enc w B A n c l) {i j:Nat} {x y:β×Nat} (hi:i < n) (hj:j < n) {ii jj:Int} (hii:ii=(i:Int)) (hjj:jj=(j:Int)) {K:World->Prop}
  (hK:∀ w',RS enc w' B A n c ((l.set i y).set j x)->Fr (fun k=>blkOf A=some k) w w'->K w') :
  dr A fun b o=>gd (decide (0<=ii)) (gd (decide (ii < ((n:Nat):Int))) (gd ((enc y.1).length == 2) (st w b (o+ii.toNat * 2) (enc y.1) fun w1 =>
   dr A fun b o=>gd (decide (0<=jj)) (gd (decide (jj < ((n:Nat):Int))) (gd ((enc x.1).length == 2) (st w1 b (o+jj.toNat * 2) (enc x.1) K)))))) :=
 el_put (enc:=encT enc) h.1 h0.lenT h.2 hi hii (h0.len y.1) (h0.one y.1) (fun w1 hr1 f1 =>
  el_put (enc:=encT enc) hr1 h0.lenT (by rw [List.length_set]; exact h.2) hj hjj (h0.len x.1) (h0.one x.1) (fun w2 hr2 f2=>hK w2 ⟨hr2,by rw [List.length_set,List.length_set]; exact h.2⟩ (f1.trans1 f2)))
theorem em (i j:Nat) (h1:i < 1099511627776) (h2:j < 1099511627776):IntKind.wrap .i64 (Int.fdiv (IntKind.wrap .u64 (IntKind.wrap .i64 ((i:Int)+(j:Int)))) (2 ^ 1))=(((i+j) / 2:Nat):Int):=by
 rw [i64_id (n:=(i:Int)+(j:Int)) (by omega) (by omega),IntKind.wrap_u64,Int.fdiv_eq_ediv_of_nonneg _ (by decide),i64_id (by omega) (by omega)]; omega
theorem ep (i:Nat) (h:i < 1099511627776):IntKind.wrap .i64 ((i:Int)+1)=((i+1:Nat):Int):=by rw [i64_id (by omega) (by omega)]; rfl
theorem ea (i j:Nat) (h1:i < 1099511627776) (h2:j < 1099511627776):IntKind.wrap .i64 ((i:Int)+(j:Int))=((i+j:Nat):Int):=by rw [i64_id (by omega) (by omega)]; rfl
theorem es (i j:Nat) (h1:i < 1099511627776) (h2:j<=i):IntKind.wrap .i64 ((i:Int) - (j:Int))=((i - j:Nat):Int):=by rw [i64_id (by omega) (by omega)]; omega
theorem e1 (i:Nat) (h1:i < 1099511627776) (h2:1<=i):IntKind.wrap .i64 ((i:Int) - 1)=((i - 1:Nat):Int):=by rw [i64_id (by omega) (by omega)]; omega
theorem swapRange_calls (h0:Srt β enc cmp) (B:Nat) (A:Option Addr) (n c:Nat) (P X Y Z S:List (β×Nat)) (w:World) (h:RS enc w B A n c (P ++ X ++ Y ++ Z ++ S)) (hXZ:X.length=Z.length) (hn:n < 549755813888) {a b m:Int} (ha:a=((P.length:Nat):Int)) (hb:b=((P.length+X.length+Y.length:Nat):Int)) (hm:m=((X.length:Nat):Int)) :
  Calls Tryz.prog 194 #[.slice A n c,.int .i64 a,.int .i64 b,.int .i64 m,cf] w fun e w'=>e=.returned (.tuple #[])/\Fr (fun k=>blkOf A=some k) w w'/\RS enc w' B A n c (P ++ Z ++ Y ++ X ++ S):=by
 subst ha; subst hb; subst hm
 refine (F194s.of A n c _ _ _ w (Q:=fun v w'=>v=.tuple #[]/\Fr (fun k=>blkOf A=some k) w w'/\RS enc w' B A n c (P ++ Z ++ Y ++ X ++ S)) ?_).mono (fun e w' ⟨v,he,hv,h⟩=>⟨by rw [he,hv],h⟩)
 have hlen:=h.2
 simp only [List.length_append] at hlen
 refine jnC_mk (loop_rule (fun s u=>Fr (fun k=>blkOf A=some k) w u/\∃ (k:Nat) (X1 X2 Z1 Z2:List (β×Nat)),X=X1 ++ X2/\Z=Z1 ++ Z2/\X1.length=k/\Z1.length=k/\s=((A,n,c),((P.length:Nat):Int),((P.length+X.length+Y.length:Nat):Int),((X.length:Nat):Int),(k:Int),())/\RS enc u B A n c (P ++ Z1 ++ X2 ++ Y ++ X1 ++ Z2 ++ S))
  (fun s _=>(X.length - s.2.2.2.2.1).toNat) ?_ _ _ ⟨Fr.refl _ _,0,[],X,[],Z,rfl,rfl,rfl,rfl,rfl,by simpa using h⟩)
 rintro s u C ⟨hf,k,X1,X2,Z1,Z2,hX,hZ,hx1,hz1,rfl,hr⟩ hC _
 have hXl:X.length=X1.length+X2.length:=by rw [hX,List.length_append]
 have hZl:Z.length=Z1.length+Z2.length:=by rw [hZ,List.length_append]
 refine vIf_mk (fun hlt=>?_) (fun hge=>?_)
 ·have hlt2:(k:Int) < (X.length:Int):=of_decide_eq_true hlt
  obtain ⟨x,X2',rfl⟩:∃ x X2',X2=x :: X2':=by
   cases X2 with
   | nil=>simp at hXl; omega
   | cons x r=>exact ⟨x,r,rfl⟩
  obtain ⟨z,Z2',rfl⟩:∃ z Z2',Z2=z :: Z2':=by
   cases Z2 with
   | nil=>simp at hZl; omega
   | cons x r=>exact ⟨x,r,rfl⟩
  simp only [List.length_cons] at hXl hZl
  have ea1:IntKind.wrap .i64 (((P.length:Nat):Int)+(k:Int))=((P.length+k:Nat):Int):=ea _ _ (by omega) (by omega)
  have eb1:IntKind.wrap .i64 (((P.length+X.length+Y.length:Nat):Int)+(k:Int))=((P.length+X.length+Y.length+k:Nat):Int):=ea _ _ (by omega) (by omega)
  have hr:=hr.drew
  have fd:Fr (fun k=>blkOf A=some k) w u.drew:=hf.trans1 (Fr.drew _ _)
  have hl1:P ++ Z1 ++ (x :: X2') ++ Y ++ X1 ++ (z :: Z2') ++ S=(P ++ Z1) ++ x :: (X2' ++ Y ++ X1 ++ (z :: Z2') ++ S):=by simp
  have hl2:P ++ Z1 ++ (x :: X2') ++ Y ++ X1 ++ (z :: Z2') ++ S=(P ++ Z1 ++ (x :: X2') ++ Y ++ X1) ++ z :: (Z2' ++ S):=by simp
  dsimp only
  refine rs_rd h0 hr (i:=P.length+X.length+Y.length+k) (x:=z) (by rw [hl2]; exact get_mid (by simp; omega)) eb1 ?_
  refine rs_rd h0 hr (i:=P.length+k) (x:=x) (by rw [hl1]; exact get_mid (by simp; omega)) ea1 ?_
  refine rs_swap h0 hr (i:=P.length+k) (j:=P.length+X.length+Y.length+k) (x:=x) (y:=z) (by omega) (by omega) ea1 eb1 (fun w' hr' f'=>jnC_mk (hC _ _ ⟨fd.trans1 f',k+1,X1 ++ [x],X2',Z1 ++ [z],Z2',by rw [hX]; simp,by rw [hZ]; simp,by simp [hx1],by simp [hz1],by rw [ep k (by omega)],?_⟩ ?_))
  ·rw [hl1,set_mid (by simp; omega)] at hr'
   have hl3:(P ++ Z1) ++ z :: (X2' ++ Y ++ X1 ++ (z :: Z2') ++ S)=(P ++ Z1 ++ z :: (X2' ++ Y ++ X1)) ++ z :: (Z2' ++ S):=by simp
   rw [hl3,set_mid (by simp; omega)] at hr'
   have hl4:(P ++ Z1 ++ z :: (X2' ++ Y ++ X1)) ++ x :: (Z2' ++ S)=P ++ (Z1 ++ [z]) ++ X2' ++ Y ++ (X1 ++ [x]) ++ Z2' ++ S:=by simp
   rw [hl4] at hr'
   exact hr'
  ·show ((X.length:Int) - IntKind.wrap .i64 ((k:Int)+1)).toNat < ((X.length:Int) - (k:Int)).toNat
   rw [ep k (by omega)]; omega
 ·have hge2:¬ (k:Int) < (X.length:Int):=of_decide_eq_false hge
  have hx2:X2=[]:=List.length_eq_zero_iff.1 (by omega)
  have hz2:Z2=[]:=List.length_eq_zero_iff.1 (by omega)
  subst hx2; subst hz2
  simp only [List.append_nil] at hX hZ hr
  subst hX; subst hZ
  exact ⟨rfl,hf,hr⟩
theorem rotate_calls (h0:Srt β enc cmp) (B:Nat) (A:Option Addr) (n c:Nat) (P X Y S:List (β×Nat)) (w:World) (h:RS enc w B A n c (P ++ X ++ Y ++ S)) (hX:X ≠ []) (hY:Y ≠ []) (hn:n < 549755813888) {a m b:Int} (ha:a=((P.length:Nat):Int)) (hm:m=((P.length+X.length:Nat):Int)) (hb:b=((P.length+X.length+Y.length:Nat):Int)) :
  Calls Tryz.prog 192 #[.slice A n c,.int .i64 a,.int .i64 m,.int .i64 b,cf] w fun e w'=>e=.returned (.tuple #[])/\Fr (fun k=>blkOf A=some k) w w'/\RS enc w' B A n c (P ++ Y ++ X ++ S):=by
 subst ha; subst hm; subst hb
 refine (F192s.of A n c _ _ _ w (Q:=fun v w'=>v=.tuple #[]/\Fr (fun k=>blkOf A=some k) w w'/\RS enc w' B A n c (P ++ Y ++ X ++ S)) ?_).mono (fun e w' ⟨v,he,hv,h⟩=>⟨by rw [he,hv],h⟩)
 have hlen:=h.2
 simp only [List.length_append] at hlen
 have hX0:X.length ≠ 0:=fun h=>hX (List.length_eq_zero_iff.1 h)
 have hY0:Y.length ≠ 0:=fun h=>hY (List.length_eq_zero_iff.1 h)
 have eX:IntKind.wrap .i64 (((P.length+X.length:Nat):Int) - ((P.length:Nat):Int))=((X.length:Nat):Int):=by rw [es _ _ (by omega) (by omega),Nat.add_sub_cancel_left]
 have eY:IntKind.wrap .i64 (((P.length+X.length+Y.length:Nat):Int) - ((P.length+X.length:Nat):Int))=((Y.length:Nat):Int):=by rw [es _ _ (by omega) (by omega),Nat.add_sub_cancel_left]
 refine jnC_mk (loop_rule (fun s u=>Fr (fun k=>blkOf A=some k) w u/\∃ (P' X' Y' S':List (β×Nat)),X' ≠ []/\Y' ≠ []/\P'.length+X'.length=P.length+X.length/\P' ++ Y' ++ X' ++ S'=P ++ Y ++ X ++ S/\s=((A,n,c),((P.length+X.length:Nat):Int),(),((X'.length:Nat):Int),((Y'.length:Nat):Int),())/\RS enc u B A n c (P' ++ X' ++ Y' ++ S'))
  (fun s _=>(s.2.2.2.1+s.2.2.2.2.1).toNat) ?_ _ _ ⟨Fr.refl _ _,P,X,Y,S,hX,hY,rfl,rfl,by rw [eX,eY],h⟩)
 rintro s u C ⟨hf,P',X',Y',S',hX',hY',hpx,htot,rfl,hr⟩ hC _
 have hX1:X'.length ≠ 0:=fun h=>hX' (List.length_eq_zero_iff.1 h)
 have hY1:Y'.length ≠ 0:=fun h=>hY' (List.length_eq_zero_iff.1 h)
 have hl:=hr.2
 simp only [List.length_append] at hl
 have em1:IntKind.wrap .i64 (((P.length+X.length:Nat):Int) - ((X'.length:Nat):Int))=((P'.length:Nat):Int):=by rw [es _ _ (by omega) (by omega)]; congr 1; omega
 refine vIf_mk (fun hne=>vIf_mk (fun hgt=>?_) (fun hle=>?_)) (fun heq=>?_)
 ·have hgt2:(X'.length:Int) > (Y'.length:Int):=of_decide_eq_true hgt
  obtain ⟨U,V,hUV,hU⟩:∃ U V,X'=U ++ V/\U.length=Y'.length:=⟨X'.take Y'.length,X'.drop Y'.length,(List.take_append_drop _ _).symm,by rw [List.length_take]; omega⟩
  have hVl:X'.length=U.length+V.length:=by rw [hUV,List.length_append]
  have hr2:RS enc u B A n c (P' ++ U ++ V ++ Y' ++ S'):=by
   rw [hUV] at hr
   simpa using hr
  refine (swapRange_calls h0 B A n c P' U V Y' S' u hr2 hU hn em1 (by rw [Nat.add_assoc P'.length,<- hVl]; exact congrArg _ hpx.symm) (by rw [hU])).mono ?_
  rintro r u2 ⟨rfl,f2,hr3⟩
  refine ⟨rfl,jnC_mk (hC _ _ ⟨hf.trans1 f2,P' ++ Y',V,U,S',?_,?_,?_,?_,?_,?_⟩ ?_)⟩
  ·intro h; rw [h] at hVl; simp at hVl; omega
  ·intro h; rw [h] at hU; simp at hU; omega
  ·simp only [List.length_append]; omega
  ·rw [<- htot,hUV]; simp
  ·show (_,_,_,IntKind.wrap .i64 ((X'.length:Int) - (Y'.length:Int)),_,())=_
   rw [es _ _ (by omega) (by omega),hU,show X'.length - Y'.length=V.length by omega]
  ·exact hr3
  ·show (IntKind.wrap .i64 ((X'.length:Int) - (Y'.length:Int))+(Y'.length:Int)).toNat < ((X'.length:Int)+(Y'.length:Int)).toNat
   rw [es _ _ (by omega) (by omega)]; omega
 ·have hle2:¬ (X'.length:Int) > (Y'.length:Int):=of_decide_eq_false hle
  have hne2:X'.length ≠ Y'.length:=by
   have hne:((X'.length:Int) != (Y'.length:Int))=true:=hne
   intro h; rw [h] at hne; simp at hne
  obtain ⟨U,V,hUV,hV⟩:∃ U V,Y'=U ++ V/\V.length=X'.length:=⟨Y'.take (Y'.length - X'.length),Y'.drop (Y'.length - X'.length),(List.take_append_drop _ _).symm,by rw [List.length_drop]; omega⟩
  have hUl:Y'.length=U.length+V.length:=by rw [hUV,List.length_append]
  have hr2:RS enc u B A n c (P' ++ X' ++ U ++ V ++ S'):=by
   rw [hUV] at hr
   simpa using hr
  have eb2:IntKind.wrap .i64 (IntKind.wrap .i64 (((P.length+X.length:Nat):Int)+((Y'.length:Nat):Int)) - ((X'.length:Nat):Int))=((P'.length+X'.length+U.length:Nat):Int):=by
   rw [ea _ _ (by omega) (by omega),es _ _ (by omega) (by omega)]; congr 1; omega
  refine (swapRange_calls h0 B A n c P' X' U V S' u hr2 hV.symm hn em1 eb2 rfl).mono ?_
  rintro r u2 ⟨rfl,f2,hr3⟩
  refine ⟨rfl,jnC_mk (hC _ _ ⟨hf.trans1 f2,P',V,U,X' ++ S',?_,?_,?_,?_,?_,?_⟩ ?_)⟩
  ·intro h; rw [h] at hV; simp at hV; omega
  ·intro h; rw [h] at hUl; simp at hUl; omega
  ·omega
  ·rw [<- htot,hUV]; simp
  ·show (_,_,_,_,IntKind.wrap .i64 ((Y'.length:Int) - (X'.length:Int)),())=_
   rw [es _ _ (by omega) (by omega),hV,show Y'.length - X'.length=U.length by omega]
  ·simpa using hr3
  ·show ((X'.length:Int)+IntKind.wrap .i64 ((Y'.length:Int) - (X'.length:Int))).toNat < ((X'.length:Int)+(Y'.length:Int)).toNat
   rw [es _ _ (by omega) (by omega)]; omega
 ·have heq2:X'.length=Y'.length:=by
   have heq:((X'.length:Int) != (Y'.length:Int))=false:=heq
   have:(X'.length:Int)=(Y'.length:Int):=by simpa using heq
   omega
  refine (swapRange_calls h0 B A n c P' X' [] Y' S' u (by simpa using hr) heq2 hn em1 (by simp; omega) rfl).mono ?_
  rintro r u2 ⟨rfl,f2,hr3⟩
  rw [List.append_nil,htot] at hr3
  exact ⟨rfl,rfl,hf.trans1 f2,hr3⟩
end
section
variable {β:Type} {enc:β->List Value} {cmp:β->β->Int}
def Mrg (enc:β->List Value) (cmp:β->β->Int) (w w':World) (B:Nat) (A:Option Addr) (n c:Nat) (P X Y S:List (β×Nat)):Prop :=
 Fr (fun k=>blkOf A=some k) w w'/\∃ M,M.Perm (X ++ Y)/\Sorted cmp M/\RS enc w' B A n c (P ++ M ++ S)
theorem le_lt_le (h:OrdC cmp) {X Y:List (β×Nat)} (hX:Sorted cmp X) (hY:Sorted cmp Y) {k k' l l':Nat} {u u' v v':β×Nat} (hu:X[k]?=some u) (hu':X[k']?=some u') (hk:k<=k') (hv:Y[l]?=some v) (hv':Y[l']?=some v') (hl:l'<=l) (hlt:lt cmp u' v'):lt cmp u v:=by
 have h1:lt cmp u v':=by
  rcases Nat.lt_or_ge k k' with h' | h'
  ·exact lt_trans h (sorted_get h hX hu hu' h') hlt
  ·have:k=k':=by omega
   subst this
   rw [hu] at hu'; injection hu' with hu'; subst hu'; exact hlt
 rcases Nat.lt_or_ge l' l with h' | h'
 ·exact lt_trans h h1 (sorted_get h hY hv' hv h')
 ·have:l=l':=by omega
  subst this
  rw [hv] at hv'; injection hv' with hv'; subst hv'; exact h1
theorem mem_take_at {l:List (β×Nat)} {i:Nat} {x:β×Nat} (h:x ∈ l.take i):∃ j,j < i/\l[j]?=some x:=by
 obtain ⟨j,hj⟩:=List.mem_iff_getElem?.1 h
 rw [List.getElem?_take] at hj
 split at hj
 ·exact ⟨j,by assumption,hj⟩
 ·cases hj
theorem mem_drop_at {l:List (β×Nat)} {i:Nat} {x:β×Nat} (h:x ∈ l.drop i):∃ j,i<=j/\l[j]?=some x:=by
 obtain ⟨j,hj⟩:=List.mem_iff_getElem?.1 h
 rw [List.getElem?_drop] at hj
 exact ⟨i+j,by omega,hj⟩
theorem merge_one (h0:Srt β enc cmp) (B:Nat) (A:Option Addr) (n c:Nat) (P Y S:List (β×Nat)) (x:β×Nat) (w:World) (h:RS enc w B A n c (P ++ x :: Y ++ S)) (hY:Sorted cmp Y) (hb:∀ y ∈ Y,bef x y) (hn:n < 549755813888) :
  F188s.l3 (fun v w'=>v=.tuple #[]/\Mrg enc cmp w w' B A n c P [x] Y S) ((A,n,c),((P.length:Nat):Int),(),((P.length+1:Nat):Int),((P.length+1+Y.length:Nat):Int),()) w:=by
 have hlen:=h.2
 simp only [List.length_append,List.length_cons] at hlen
 have gx:(P ++ x :: Y ++ S)[P.length]?=some x:=by rw [List.append_assoc]; exact get_mid rfl
 refine loop_rule (fun s u=>Fr (fun k=>blkOf A=some k) w u/\RS enc u B A n c (P ++ x :: Y ++ S)/\∃ p q:Nat,p<=q/\q<=Y.length/\(∀ y ∈ Y.take p,lt cmp y x)/\(∀ y ∈ Y.drop q,lt cmp x y)/\s=((A,n,c),((P.length:Nat):Int),(),((P.length+1+p:Nat):Int),((P.length+1+q:Nat):Int),()))
  (fun s _=>(s.2.2.2.2.1 - s.2.2.2.1).toNat) ?_ _ _ ⟨Fr.refl _ _,h,0,Y.length,by omega,by omega,by simp,by simp,rfl⟩
 rintro s u C ⟨hf,hr,p,q,hpq,hqY,hlo,hhi,rfl⟩ hC _
 refine vIf_mk (fun hlt=>?_) (fun hge=>?_)
 ·have hlt2:((P.length+1+p:Nat):Int) < ((P.length+1+q:Nat):Int):=of_decide_eq_true hlt
  have emm:=em (P.length+1+p) (P.length+1+q) (by omega) (by omega)
  have hh:(P.length+1+p+(P.length+1+q)) / 2=P.length+1+(p+q) / 2:=by omega
  rw [hh] at emm
  have gi:Y[(p+q) / 2]?=some (Y[(p+q) / 2]'(by omega)):=List.getElem?_eq_getElem (by omega)
  generalize Y[(p+q) / 2]'(by omega)=y at gi
  have gy:(P ++ x :: Y ++ S)[P.length+1+(p+q) / 2]?=some y:=by
   have:P ++ x :: Y ++ S=(P ++ [x]) ++ (Y ++ S):=by simp
   rw [this,List.getElem?_append_right (by simp),List.getElem?_append_left (by simp; omega)]
   rw [show P.length+1+(p+q) / 2 - (P ++ [x]).length=(p+q) / 2 by simp]; exact gi
  have hym:y ∈ Y:=List.mem_of_getElem? gi
  dsimp only
  rw [emm]
  refine rs_rd h0 hr.drew gy rfl (rs_rd h0 hr.drew gx rfl ((h0.call y.1 x.1 u.drew).mono ?_))
  rintro r u2 ⟨rfl,f2⟩
  have hf2:Fr (fun k=>blkOf A=some k) w u2:=(hf.trans1 (Fr.drew _ _)).trans1 (f2.mono (fun _ _ h=>h.elim))
  refine ⟨_,rfl,vIf_mk (fun h1=>jnC_mk (hC _ _ ⟨hf2,hr.drew.fr0 f2,(p+q) / 2+1,q,by omega,hqY,fun z hz=>?_,hhi,by rw [ep _ (by omega)]; rfl⟩ ?_)) (fun h1=>jnC_mk (hC _ _ ⟨hf2,hr.drew.fr0 f2,p,(p+q) / 2,by omega,by omega,hlo,fun z hz=>?_,rfl⟩ ?_))⟩
  ·have h1:=bef_yes h0.ord (hb y hym) (of_decide_eq_true h1)
   obtain ⟨j,hj,hz⟩:=mem_take_at hz
   by_cases hjm:j=(p+q) / 2
   ·subst hjm; rw [gi] at hz; injection hz with hz; subst hz; exact h1
   ·exact lt_trans h0.ord (sorted_get h0.ord hY hz gi (by omega)) h1
  ·show (((P.length+1+q:Nat):Int) - IntKind.wrap .i64 (((P.length+1+(p+q) / 2:Nat):Int)+1)).toNat < (((P.length+1+q:Nat):Int) - ((P.length+1+p:Nat):Int)).toNat
   rw [ep _ (by omega)]; omega
  ·have h1:=bef_no h0.ord (hb y hym) (of_decide_eq_false h1)
   obtain ⟨j,hj,hz⟩:=mem_drop_at hz
   by_cases hjm:j=(p+q) / 2
   ·subst hjm; rw [gi] at hz; injection hz with hz; subst hz; exact h1
   ·exact lt_trans h0.ord h1 (sorted_get h0.ord hY gi hz (by omega))
  ·show (((P.length+1+(p+q) / 2:Nat):Int) - ((P.length+1+p:Nat):Int)).toNat < (((P.length+1+q:Nat):Int) - ((P.length+1+p:Nat):Int)).toNat
   omega
 ·have hge2:¬ ((P.length+1+p:Nat):Int) < ((P.length+1+q:Nat):Int):=of_decide_eq_false hge
  have hpq2:q=p:=by omega
  subst hpq2
  clear hC
  have hYs:=List.take_append_drop q Y
  have hs2:=hY
  rw [<- hYs] at hs2
  obtain ⟨hs21,hs22,hs23⟩:=sorted_of_app hs2
  have htl:(Y.take q).length=q:=by rw [List.length_take]; omega
  refine jnC_mk (loop_rule (fun s v=>Fr (fun k=>blkOf A=some k) w v/\∃ U V:List (β×Nat),U ++ V=Y.take q/\s=((A,n,c),((P.length+1+q:Nat):Int),((P.length+U.length:Nat):Int),())/\RS enc v B A n c (P ++ U ++ x :: V ++ Y.drop q ++ S))
   (fun s _=>(P.length+1+q - s.2.2.1).toNat) ?_ _ _ ⟨hf,[],Y.take q,rfl,rfl,by
    have:P ++ [] ++ x :: Y.take q ++ Y.drop q ++ S=P ++ x :: Y ++ S:=by
     conv=>rhs; rw [<- hYs]
     simp
    rw [this]; exact hr⟩)
  rintro s v C ⟨hfv,U,V,hUV,rfl,hrv⟩ hC _
  have hUVl:U.length+V.length=q:=by rw [<- htl,<- hUV,List.length_append]
  have e0:IntKind.wrap .i64 (((P.length+1+q:Nat):Int) - 1)=((P.length+q:Nat):Int):=by rw [e1 _ (by omega) (by omega)]; congr 1; omega
  refine vIf_mk (fun hlt=>?_) (fun hge=>?_)
  ·have hlt2:((P.length+U.length:Nat):Int) < IntKind.wrap .i64 (((P.length+1+q:Nat):Int) - 1):=of_decide_eq_true hlt
   rw [e0] at hlt2
   obtain ⟨y,V',rfl⟩:∃ y V',V=y :: V':=by
    cases V with
    | nil=>simp at hUVl; omega
    | cons y r=>exact ⟨y,r,rfl⟩
   have l1:P ++ U ++ x :: (y :: V') ++ Y.drop q ++ S=(P ++ U) ++ x :: (y :: V' ++ Y.drop q ++ S):=by simp
   have l2:P ++ U ++ x :: (y :: V') ++ Y.drop q ++ S=(P ++ U ++ [x]) ++ y :: (V' ++ Y.drop q ++ S):=by simp
   have ek:IntKind.wrap .i64 (((P.length+U.length:Nat):Int)+1)=((P.length+U.length+1:Nat):Int):=ep _ (by omega)
   refine rs_rd h0 hrv.drew (i:=P.length+U.length+1) (x:=y) (by rw [l2]; exact get_mid (by simp; omega)) ek (rs_rd h0 hrv.drew (i:=P.length+U.length) (x:=x) (by rw [l1]; exact get_mid (by simp)) rfl ?_)
   refine rs_swap h0 hrv.drew (i:=P.length+U.length) (j:=P.length+U.length+1) (by omega) (by omega) rfl ek (fun w' hr' f'=>jnC_mk (hC _ _ ⟨(hfv.trans1 (Fr.drew _ _)).trans1 f',U ++ [y],V',by rw [<- hUV]; simp,?_,?_⟩ ?_))
   ·show (_,_,IntKind.wrap .i64 (((P.length+U.length:Nat):Int)+1),())=_
    rw [ek]; simp; omega
   ·rw [l1,set_mid (by simp)] at hr'
    have l3:(P ++ U) ++ y :: (y :: V' ++ Y.drop q ++ S)=(P ++ U ++ [y]) ++ y :: (V' ++ Y.drop q ++ S):=by simp
    rw [l3,set_mid (by simp; omega)] at hr'
    have l4:(P ++ U ++ [y]) ++ x :: (V' ++ Y.drop q ++ S)=P ++ (U ++ [y]) ++ x :: V' ++ Y.drop q ++ S:=by simp
    rw [l4] at hr'; exact hr'
   ·show (((P.length:Nat):Int)+1+((q:Nat):Int) - IntKind.wrap .i64 (((P.length+U.length:Nat):Int)+1)).toNat < (((P.length:Nat):Int)+1+((q:Nat):Int) - ((P.length+U.length:Nat):Int)).toNat
    rw [ek]; omega
  ·have hge2:¬ ((P.length+U.length:Nat):Int) < IntKind.wrap .i64 (((P.length+1+q:Nat):Int) - 1):=of_decide_eq_false hge
   rw [e0] at hge2
   have hV:V=[]:=List.length_eq_zero_iff.1 (by omega)
   subst hV
   rw [List.append_nil] at hUV
   subst hUV
   refine ⟨rfl,hfv,Y.take q ++ ([x] ++ Y.drop q),?_,sorted_app hs21 (sorted_app (List.pairwise_singleton _ _) hs22 (fun u hu v hv=>by simp at hu; subst hu; exact hhi v hv)) (fun u hu v hv=>?_),by simpa using hrv⟩
   ·conv=>rhs; rw [<- hYs]
    exact List.perm_append_comm_assoc _ _ _
   ·rcases List.mem_append.1 hv with hv | hv
    ·simp at hv; subst hv; exact hlo u hu
    ·exact hs23 u hu v hv
theorem merge_last (h0:Srt β enc cmp) (B:Nat) (A:Option Addr) (n c:Nat) (P X S:List (β×Nat)) (y:β×Nat) (w:World) (h:RS enc w B A n c (P ++ X ++ y :: S)) (hX:Sorted cmp X) (hb:∀ x ∈ X,bef x y) (hn:n < 549755813888) :
  F188s.l15 (fun v w'=>v=.tuple #[]/\Mrg enc cmp w w' B A n c P X [y] S) ((A,n,c),((P.length+X.length:Nat):Int),(),((P.length:Nat):Int),((P.length+X.length:Nat):Int),()) w:=by
 have hlen:=h.2
 simp only [List.length_append,List.length_cons] at hlen
 have gy:(P ++ X ++ y :: S)[P.length+X.length]?=some y:=get_mid (by simp)
 refine loop_rule (fun s u=>Fr (fun k=>blkOf A=some k) w u/\RS enc u B A n c (P ++ X ++ y :: S)/\∃ p q:Nat,p<=q/\q<=X.length/\(∀ x ∈ X.take p,lt cmp x y)/\(∀ x ∈ X.drop q,lt cmp y x)/\s=((A,n,c),((P.length+X.length:Nat):Int),(),((P.length+p:Nat):Int),((P.length+q:Nat):Int),()))
  (fun s _=>(s.2.2.2.2.1 - s.2.2.2.1).toNat) ?_ _ _ ⟨Fr.refl _ _,h,0,X.length,by omega,by omega,by simp,by simp,rfl⟩
 rintro s u C ⟨hf,hr,p,q,hpq,hqX,hlo,hhi,rfl⟩ hC _
 refine vIf_mk (fun hlt=>?_) (fun hge=>?_)
 ·have hlt2:((P.length+p:Nat):Int) < ((P.length+q:Nat):Int):=of_decide_eq_true hlt
  have emm:=em (P.length+p) (P.length+q) (by omega) (by omega)
  have hh:(P.length+p+(P.length+q)) / 2=P.length+(p+q) / 2:=by omega
  rw [hh] at emm
  have gi:X[(p+q) / 2]?=some (X[(p+q) / 2]'(by omega)):=List.getElem?_eq_getElem (by omega)
  generalize X[(p+q) / 2]'(by omega)=x at gi
  have gx:(P ++ X ++ y :: S)[P.length+(p+q) / 2]?=some x:=by
   rw [List.append_assoc,List.getElem?_append_right (by omega),List.getElem?_append_left (by omega),Nat.add_sub_cancel_left]; exact gi
  have hxm:x ∈ X:=List.mem_of_getElem? gi
  dsimp only
  rw [emm]
  refine rs_rd h0 hr.drew gy rfl (rs_rd h0 hr.drew gx rfl ((h0.call y.1 x.1 u.drew).mono ?_))
  rintro r u2 ⟨rfl,f2⟩
  have hf2:Fr (fun k=>blkOf A=some k) w u2:=(hf.trans1 (Fr.drew _ _)).trans1 (f2.mono (fun _ _ h=>h.elim))
  refine ⟨_,rfl,vIf_mk (fun h1=>jnC_mk (hC _ _ ⟨hf2,hr.drew.fr0 f2,(p+q) / 2+1,q,by omega,hqX,fun z hz=>?_,hhi,by rw [ep _ (by omega)]; rfl⟩ ?_)) (fun h1=>jnC_mk (hC _ _ ⟨hf2,hr.drew.fr0 f2,p,(p+q) / 2,by omega,by omega,hlo,fun z hz=>?_,rfl⟩ ?_))⟩
  ·have h1:¬ cmp y.1 x.1 < 0:=by simpa using h1
   have h1:=bef_no h0.ord (hb x hxm) h1
   obtain ⟨j,hj,hz⟩:=mem_take_at hz
   by_cases hjm:j=(p+q) / 2
   ·subst hjm; rw [gi] at hz; injection hz with hz; subst hz; exact h1
   ·exact lt_trans h0.ord (sorted_get h0.ord hX hz gi (by omega)) h1
  ·show (((P.length+q:Nat):Int) - IntKind.wrap .i64 (((P.length+(p+q) / 2:Nat):Int)+1)).toNat < (((P.length+q:Nat):Int) - ((P.length+p:Nat):Int)).toNat
   rw [ep _ (by omega)]; omega
  ·have h1:cmp y.1 x.1 < 0:=by simpa using h1
   have h1:=bef_yes h0.ord (hb x hxm) h1
   obtain ⟨j,hj,hz⟩:=mem_drop_at hz
   by_cases hjm:j=(p+q) / 2
   ·subst hjm; rw [gi] at hz; injection hz with hz; subst hz; exact h1
   ·exact lt_trans h0.ord h1 (sorted_get h0.ord hX gi hz (by omega))
  ·show (((P.length+(p+q) / 2:Nat):Int) - ((P.length+p:Nat):Int)).toNat < (((P.length+q:Nat):Int) - ((P.length+p:Nat):Int)).toNat
   omega
 ·have hge2:¬ ((P.length+p:Nat):Int) < ((P.length+q:Nat):Int):=of_decide_eq_false hge
  have hpq2:q=p:=by omega
  subst hpq2
  clear hC
  have hXs:=List.take_append_drop q X
  have hs2:=hX
  rw [<- hXs] at hs2
  obtain ⟨hs21,hs22,hs23⟩:=sorted_of_app hs2
  have htl:(X.take q).length=q:=by rw [List.length_take]; omega
  have hdl:(X.drop q).length=X.length - q:=List.length_drop
  refine jnC_mk (loop_rule (fun s v=>Fr (fun k=>blkOf A=some k) w v/\∃ U V:List (β×Nat),U ++ V=X.drop q/\s=((A,n,c),((P.length+q:Nat):Int),((P.length+q+U.length:Nat):Int),())/\RS enc v B A n c (P ++ X.take q ++ U ++ y :: V ++ S))
   (fun s _=>s.2.2.1.toNat) ?_ _ _ ⟨hf,X.drop q,[],by simp,by rw [hdl]; simp; omega,by
    have:P ++ X.take q ++ X.drop q ++ [y] ++ S=P ++ X ++ y :: S:=by
     conv=>rhs; rw [<- hXs]
     simp
    rw [this]; exact hr⟩)
  rintro s v C ⟨hfv,U,V,hUV,rfl,hrv⟩ hC _
  have hUVl:U.length+V.length=X.length - q:=by rw [<- hdl,<- hUV,List.length_append]
  refine vIf_mk (fun hlt=>?_) (fun hge=>?_)
  ·have hlt2:((P.length+q+U.length:Nat):Int) > ((P.length+q:Nat):Int):=of_decide_eq_true hlt
   obtain ⟨U',z,rfl⟩:∃ U' z,U=U' ++ [z]:=by
    have hne:U ≠ []:=by intro h; subst h; simp at hlt2
    exact ⟨U.dropLast,U.getLast hne,(List.dropLast_concat_getLast hne).symm⟩
   simp only [List.length_append,List.length_cons,List.length_nil] at hUVl hlt2
   have l1:P ++ X.take q ++ (U' ++ [z]) ++ y :: V ++ S=(P ++ X.take q ++ U') ++ z :: (y :: V ++ S):=by simp
   have l2:P ++ X.take q ++ (U' ++ [z]) ++ y :: V ++ S=(P ++ X.take q ++ (U' ++ [z])) ++ y :: (V ++ S):=by simp
   have ek:IntKind.wrap .i64 (((P.length+q+(U' ++ [z]).length:Nat):Int) - 1)=((P.length+q+U'.length:Nat):Int):=by rw [e1 _ (by simp; omega) (by simp; omega)]; simp only [List.length_append,List.length_cons,List.length_nil]; omega
   refine rs_rd h0 hrv.drew (i:=P.length+q+U'.length) (x:=z) (by rw [l1]; exact get_mid (by simp; omega)) ek (rs_rd h0 hrv.drew (i:=P.length+q+(U' ++ [z]).length) (x:=y) (by rw [l2]; exact get_mid (by simp; omega)) rfl ?_)
   refine rs_swap h0 hrv.drew (i:=P.length+q+(U' ++ [z]).length) (j:=P.length+q+U'.length) (x:=y) (y:=z) (by simp; omega) (by omega) rfl ek (fun w' hr' f'=>jnC_mk (hC _ _ ⟨(hfv.trans1 (Fr.drew _ _)).trans1 f',U',z :: V,by rw [<- hUV]; simp,?_,?_⟩ ?_))
   ·show (_,_,IntKind.wrap .i64 (((P.length+q+(U' ++ [z]).length:Nat):Int) - 1),())=_
    rw [ek]
   ·rw [l2,set_mid (by simp; omega)] at hr'
    have l3:(P ++ X.take q ++ (U' ++ [z])) ++ z :: (V ++ S)=(P ++ X.take q ++ U') ++ z :: (z :: (V ++ S)):=by simp
    rw [l3,set_mid (by simp; omega)] at hr'
    have l4:(P ++ X.take q ++ U') ++ y :: (z :: (V ++ S))=P ++ X.take q ++ U' ++ y :: (z :: V) ++ S:=by simp
    rw [l4] at hr'; exact hr'
   ·show (IntKind.wrap .i64 (((P.length+q+(U' ++ [z]).length:Nat):Int) - 1)).toNat < (((P.length+q+(U' ++ [z]).length:Nat):Int)).toNat
    rw [ek]; simp only [List.length_append,List.length_cons,List.length_nil]; omega
  ·have hge2:¬ ((P.length+q+U.length:Nat):Int) > ((P.length+q:Nat):Int):=of_decide_eq_false hge
   have hU:U=[]:=List.length_eq_zero_iff.1 (by omega)
   subst hU
   rw [List.nil_append] at hUV
   subst hUV
   refine ⟨rfl,hfv,X.take q ++ ([y] ++ X.drop q),?_,sorted_app hs21 (sorted_app (List.pairwise_singleton _ _) hs22 (fun u hu v hv=>by simp at hu; subst hu; exact hhi v hv)) (fun u hu v hv=>?_),by simpa using hrv⟩
   ·conv=>rhs; rw [<- hXs,List.append_assoc]
    exact (List.perm_append_comm).append_left _
   ·rcases List.mem_append.1 hv with hv | hv
    ·simp at hv; subst hv; exact hlo u hu
    ·exact hs23 u hu v hv
end
section
variable {β:Type} {enc:β->List Value} {cmp:β->β->Int}
theorem take_len {l:List (β×Nat)} {k:Nat} (h:k<=l.length):(l.take k).length=k:=by rw [List.length_take]; omega
theorem get_in {P X R:List (β×Nat)} {i j:Nat} {x:β×Nat} (hi:i=P.length+j) (hx:X[j]?=some x):(P ++ X ++ R)[i]?=some x:=by
 have hj:=(List.getElem?_eq_some_iff.1 hx).1
 subst hi
 rw [List.append_assoc,List.getElem?_append_right (by omega),List.getElem?_append_left (by omega),Nat.add_sub_cancel_left]; exact hx
set_option maxHeartbeats 1000000 in
theorem symMerge_calls (h0:Srt β enc cmp) (B:Nat) (A:Option Addr) (n c:Nat) (hn:n < 549755813888):∀ (K:Nat) (P X Y S:List (β×Nat)) (w:World),X.length+Y.length<=K->RS enc w B A n c (P ++ X ++ Y ++ S)->Sorted cmp X->Sorted cmp Y->befC X Y->X ≠ []->Y ≠ []->∀ (a m b:Int),a=((P.length:Nat):Int)->m=((P.length+X.length:Nat):Int)->b=((P.length+X.length+Y.length:Nat):Int) ->
  Calls Tryz.prog 188 #[.slice A n c,.int .i64 a,.int .i64 m,.int .i64 b,cf] w fun e w'=>e=.returned (.tuple #[])/\Mrg enc cmp w w' B A n c P X Y S
 | 0,P,X,Y,S,w,hK,_,_,_,_,hX,_,_,_,_,_,_,_=>absurd (List.length_eq_zero_iff.1 (by omega)) hX
 | K+1,P,X,Y,S,w,hK,h,sX,sY,hb,hX,hY,a,m,b,ha,hm,hbb=>by
  subst ha; subst hm; subst hbb
  have ih:=symMerge_calls h0 B A n c hn K
  refine (F188s.of A n c _ _ _ w (Q:=fun v w'=>v=.tuple #[]/\Mrg enc cmp w w' B A n c P X Y S) ?_).mono (fun e w' ⟨v,he,hv,h⟩=>⟨by rw [he,hv],h⟩)
  have hlen:=h.2
  simp only [List.length_append] at hlen
  have hX0:X.length ≠ 0:=fun h=>hX (List.length_eq_zero_iff.1 h)
  have hY0:Y.length ≠ 0:=fun h=>hY (List.length_eq_zero_iff.1 h)
  have eX:IntKind.wrap .i64 (((P.length+X.length:Nat):Int) - ((P.length:Nat):Int))=((X.length:Nat):Int):=by rw [es _ _ (by omega) (by omega),Nat.add_sub_cancel_left]
  have eY:IntKind.wrap .i64 (((P.length+X.length+Y.length:Nat):Int) - ((P.length+X.length:Nat):Int))=((Y.length:Nat):Int):=by rw [es _ _ (by omega) (by omega),Nat.add_sub_cancel_left]
  have eM:=em P.length (P.length+X.length+Y.length) (by omega) (by omega)
  unfold F188s.vc
  rw [eX,eY,eM]
  generalize hmid:(P.length+(P.length+X.length+Y.length)) / 2=mid at eM ⊢
  have eN:IntKind.wrap .i64 ((mid:Int)+((P.length+X.length:Nat):Int))=((mid+(P.length+X.length):Nat):Int):=ea _ _ (by omega) (by omega)
  rw [eN]
  generalize hN:mid+(P.length+X.length)=N at eN ⊢
  refine vIf_mk (fun h1=>?_) (fun h1=>vIf_mk (fun h2=>?_) (fun h2=>?_))
  ·have h1:X.length=1:=by
    have:((X.length:Nat):Int)=1:=by simpa using h1
    omega
   obtain ⟨x,rfl⟩:=List.length_eq_one_iff.1 h1
   refine jnC_mk ?_
   have:=merge_one h0 B A n c P Y S x w (by simpa using h) sY (fun y hy=>hb x (by simp) y hy) hn
   simpa using this
  ·have h2:Y.length=1:=by
    have:((Y.length:Nat):Int)=1:=by simpa using h2
    omega
   obtain ⟨y,rfl⟩:=List.length_eq_one_iff.1 h2
   refine jnC_mk ?_
   exact merge_last h0 B A n c P X S y w (by simpa using h) sX (fun x hx=>hb x hx y (by simp)) hn
  ·have h1:X.length ≠ 1:=fun h=>by rw [h] at h1; simp at h1
   have h2:Y.length ≠ 1:=fun h=>by rw [h] at h2; simp at h2
   have fin:∀ s0 r0:Nat,P.length<=s0->s0<=r0->r0<=P.length+X.length->r0<=mid->N<=s0+(P.length+X.length+Y.length)->(s0=P.length\/N=s0+(P.length+X.length+Y.length))->(r0=P.length+X.length\/r0=mid) ->
     jnC (F188s.k32 (fun v w'=>v=.tuple #[]/\Mrg enc cmp w w' B A n c P X Y S)) ((A,n,c),((P.length:Nat):Int),((P.length+X.length:Nat):Int),((P.length+X.length+Y.length:Nat):Int),(),(mid:Int),(N:Int),(s0:Int),(r0:Int),()) w:=by
    intro s0 r0 q1 q2 q3 q4 q5 q6 q7
    refine jnC_mk (fun _=>jnC_mk ?_)
    have eP:IntKind.wrap .i64 ((N:Int) - 1)=((N - 1:Nat):Int):=e1 _ (by omega) (by omega)
    dsimp only
    rw [eP]
    refine loop_rule (fun s u=>Fr (fun _=>False) w u/\∃ st r:Nat,s0<=st/\st<=r/\r<=r0/\(∀ c,s0<=c->c < st->∀ u v,X[c - P.length]?=some u->Y[N - 1 - c - (P.length+X.length)]?=some v->lt cmp u v)/\(∀ c,r<=c->c < r0->∀ u v,X[c - P.length]?=some u->Y[N - 1 - c - (P.length+X.length)]?=some v->lt cmp v u) /\
      s=((A,n,c),((P.length:Nat):Int),((P.length+X.length:Nat):Int),((P.length+X.length+Y.length:Nat):Int),(),(mid:Int),(N:Int),(st:Int),(r:Int),((N - 1:Nat):Int),()))
     (fun s _=>(s.2.2.2.2.2.2.2.2.1 - s.2.2.2.2.2.2.2.1).toNat) ?_ _ _ ⟨Fr.refl _ _,s0,r0,by omega,q2,by omega,fun c h1 h2=>by omega,fun c h1 h2=>by omega,rfl⟩
    rintro s u C ⟨hf,st,r,p1,p2,p3,hlo,hhi,rfl⟩ hC _
    have hru:=h.fr0 hf
    refine vIf_mk (fun hlt=>?_) (fun hge=>?_)
    ·have hlt2:(st:Int) < (r:Int):=of_decide_eq_true hlt
     have emm:=em st r (by omega) (by omega)
     generalize hcc:(st+r) / 2=cc at emm
     have epc:IntKind.wrap .i64 (((N - 1:Nat):Int) - (cc:Int))=((N - 1 - cc:Nat):Int):=es _ _ (by omega) (by omega)
     have gu:X[cc - P.length]?=some (X[cc - P.length]'(by omega)):=List.getElem?_eq_getElem (by omega)
     have gv:Y[N - 1 - cc - (P.length+X.length)]?=some (Y[N - 1 - cc - (P.length+X.length)]'(by omega)):=List.getElem?_eq_getElem (by omega)
     generalize X[cc - P.length]'(by omega)=x at gu
     generalize Y[N - 1 - cc - (P.length+X.length)]'(by omega)=y at gv
     have hbxy:=hb x (List.mem_of_getElem? gu) y (List.mem_of_getElem? gv)
     dsimp only
     rw [emm,epc]
     refine rs_rd h0 hru.drew (i:=N - 1 - cc) (x:=y) (get_in (P:=P ++ X) (X:=Y) (R:=S) (j:=N - 1 - cc - (P.length+X.length)) (by simp; omega) gv) rfl (rs_rd h0 hru.drew (i:=cc) (x:=x) (by
      have:P ++ X ++ Y ++ S=P ++ X ++ (Y ++ S):=by simp
      rw [this]; exact get_in (j:=cc - P.length) (by omega) gu) rfl ((h0.call y.1 x.1 u.drew).mono ?_))
     rintro q u2 ⟨rfl,f2⟩
     have hf2:Fr (fun _=>False) w u2:=(hf.trans1 (Fr.drew _ _)).trans1 f2
     refine ⟨_,rfl,vIf_mk (fun hc=>jnC_mk (hC _ _ ⟨hf2,cc+1,r,by omega,by omega,p3,fun d d1 d2 u v hu hv=>?_,hhi,by rw [ep _ (by omega)]⟩ ?_)) (fun hc=>jnC_mk (hC _ _ ⟨hf2,st,cc,p1,by omega,by omega,hlo,fun d d1 d2 u v hu hv=>?_,rfl⟩ ?_))⟩
     ·have hc:¬ cmp y.1 x.1 < 0:=by simpa using hc
      exact le_lt_le h0.ord sX sY hu gu (by omega) hv gv (by omega) (bef_no h0.ord hbxy hc)
     ·show ((r:Int) - IntKind.wrap .i64 ((cc:Int)+1)).toNat < ((r:Int) - (st:Int)).toNat
      rw [ep _ (by omega)]; omega
     ·have hc:cmp y.1 x.1 < 0:=by simpa using hc
      exact le_lt_le h0.ord sY sX hv gv (by omega) hu gu (by omega) (bef_yes h0.ord hbxy hc)
     ·show ((cc:Int) - (st:Int)).toNat < ((r:Int) - (st:Int)).toNat
      omega
    ·have hge2:¬ (st:Int) < (r:Int):=of_decide_eq_false hge
     have hst:r=st:=by omega
     subst hst
     clear hC
     have eE:IntKind.wrap .i64 ((N:Int) - (r:Int))=((N - r:Nat):Int):=es _ _ (by omega) (by omega)
     dsimp only
     rw [eE]
     have hXs:=List.take_append_drop (r - P.length) X
     have hYs:=List.take_append_drop (N - r - (P.length+X.length)) Y
     have lX1:(X.take (r - P.length)).length=r - P.length:=take_len (by omega)
     have lX2:(X.drop (r - P.length)).length=P.length+X.length - r:=by rw [List.length_drop]; omega
     have lY1:(Y.take (N - r - (P.length+X.length))).length=N - r - (P.length+X.length):=take_len (by omega)
     have lY2:(Y.drop (N - r - (P.length+X.length))).length=P.length+X.length+Y.length - (N - r):=by rw [List.length_drop]; omega
     have D1:∀ x ∈ X.take (r - P.length),∀ y ∈ Y.drop (N - r - (P.length+X.length)),lt cmp x y:=fun x hx y hy=>by
      obtain ⟨k,hk,hx⟩:=mem_take_at hx
      obtain ⟨l,hl,hy⟩:=mem_drop_at hy
      have hl2:=(List.getElem?_eq_some_iff.1 hy).1
      have hr0:s0 < r:=by
       rcases q6 with q6 | q6 <;> omega
      have gu:X[r - 1 - P.length]?=some (X[r - 1 - P.length]'(by omega)):=List.getElem?_eq_getElem (by omega)
      have gv:Y[N - 1 - (r - 1) - (P.length+X.length)]?=some (Y[N - 1 - (r - 1) - (P.length+X.length)]'(by omega)):=List.getElem?_eq_getElem (by omega)
      exact le_lt_le h0.ord sX sY hx gu (by omega) hy gv (by omega) (hlo (r - 1) (by omega) (by omega) _ _ gu gv)
     have D2:∀ y ∈ Y.take (N - r - (P.length+X.length)),∀ x ∈ X.drop (r - P.length),lt cmp y x:=fun y hy x hx=>by
      obtain ⟨k,hk,hx⟩:=mem_drop_at hx
      obtain ⟨l,hl,hy⟩:=mem_take_at hy
      have hk2:=(List.getElem?_eq_some_iff.1 hx).1
      have hr0:r < r0:=by
       rcases q7 with q7 | q7 <;> omega
      have gu:X[r - P.length]?=some (X[r - P.length]'(by omega)):=List.getElem?_eq_getElem (by omega)
      have gv:Y[N - 1 - r - (P.length+X.length)]?=some (Y[N - 1 - r - (P.length+X.length)]'(by omega)):=List.getElem?_eq_getElem (by omega)
      exact le_lt_le h0.ord sY sX hy gv (by omega) hx gu (by omega) (hhi r (by omega) (by omega) _ _ gu gv)
     have sX2:=sX
     have sY2:=sY
     rw [<- hXs] at sX2
     rw [<- hYs] at sY2
     obtain ⟨sA1,sA2,sA⟩:=sorted_of_app sX2
     obtain ⟨sB1,sB2,sB⟩:=sorted_of_app sY2
     have hb11:befC (X.take (r - P.length)) (Y.take (N - r - (P.length+X.length))):=fun x hx y hy=>hb x (List.mem_of_mem_take hx) y (List.mem_of_mem_take hy)
     have hb22:befC (X.drop (r - P.length)) (Y.drop (N - r - (P.length+X.length))):=fun x hx y hy=>hb x (List.mem_of_mem_drop hx) y (List.mem_of_mem_drop hy)
     have hru2:RS enc u B A n c (P ++ X.take (r - P.length) ++ X.drop (r - P.length) ++ Y.take (N - r - (P.length+X.length)) ++ (Y.drop (N - r - (P.length+X.length)) ++ S)):=by
      have:P ++ X.take (r - P.length) ++ X.drop (r - P.length) ++ Y.take (N - r - (P.length+X.length)) ++ (Y.drop (N - r - (P.length+X.length)) ++ S)=P ++ X ++ Y ++ S:=by
       simp only [List.append_assoc]
       rw [<- List.append_assoc (X.take (r - P.length)),hXs,<- List.append_assoc (Y.take (N - r - (P.length+X.length))),hYs]
      rw [this]; exact hru
     have hperm:(X.take (r - P.length) ++ Y.take (N - r - (P.length+X.length)) ++ (X.drop (r - P.length) ++ Y.drop (N - r - (P.length+X.length)))).Perm (X ++ Y):=by
      conv=>rhs; rw [<- hXs,<- hYs]
      simp only [List.append_assoc]
      exact (List.perm_append_comm_assoc _ _ _).append_left _
     generalize X.take (r - P.length)=A1 at lX1 D1 sA1 sA hb11 hru2 hperm hXs
     generalize X.drop (r - P.length)=A2 at lX2 D2 sA2 sA hb22 hru2 hperm hXs
     generalize Y.take (N - r - (P.length+X.length))=B1 at lY1 D2 sB1 sB hb11 hru2 hperm hYs
     generalize Y.drop (N - r - (P.length+X.length))=B2 at lY2 D1 sB2 sB hb22 hru2 hperm hYs
     have last:∀ (v:World) (M1 M2:List (β×Nat)),Fr (fun k=>blkOf A=some k) w v->M1.Perm (A1 ++ B1)->Sorted cmp M1->M2.Perm (A2 ++ B2)->Sorted cmp M2->RS enc v B A n c (P ++ M1 ++ M2 ++ S)->Value.tuple #[]=Value.tuple #[]/\Mrg enc cmp w v B A n c P X Y S:=by
      intro v M1 M2 fv m1 s1 m2 s2 hv
      refine ⟨rfl,fv,M1 ++ M2,(m1.append m2).trans hperm,sorted_app s1 s2 (fun x hx y hy=>?_),by simpa using hv⟩
      rcases List.mem_append.1 (m1.mem_iff.1 hx) with hx | hx <;> rcases List.mem_append.1 (m2.mem_iff.1 hy) with hy | hy
      ·exact sA x hx y hy
      ·exact D1 x hx y hy
      ·exact D2 x hx y hy
      ·exact sB x hx y hy
     have right:∀ (v:World) (M1:List (β×Nat)),Fr (fun k=>blkOf A=some k) w v->M1.Perm (A1 ++ B1)->Sorted cmp M1->RS enc v B A n c (P ++ M1 ++ (A2 ++ B2) ++ S) ->
       jnC (F188s.k43 (fun v w'=>v=.tuple #[]/\Mrg enc cmp w w' B A n c P X Y S)) ((A,n,c),((P.length+X.length+Y.length:Nat):Int),(),(mid:Int),((N - r:Nat):Int),()) v:=by
      intro v M1 fv m1 s1 hv
      have lM1:M1.length=mid - P.length:=by rw [m1.length_eq,List.length_append]; omega
      have k44:∀ bb:Bool,bb=decide (mid < N - r/\N - r < P.length+X.length+Y.length)->jnC (F188s.k44 (fun v w'=>v=.tuple #[]/\Mrg enc cmp w w' B A n c P X Y S)) ((A,n,c),((P.length+X.length+Y.length:Nat):Int),(),(mid:Int),((N - r:Nat):Int),bb,()) v:=by
       intro bb hbb
       refine jnC_mk (fun _=>vIf_mk (fun h1=>?_) (fun h1=>?_))
       ·have h1:bb=true:=h1
        rw [h1] at hbb
        have hh:=of_decide_eq_true hbb.symm
        refine (ih (P ++ M1) A2 B2 S v (by omega) (by simpa using hv) sA2 sB2 hb22 (fun h=>by rw [h] at lX2; simp at lX2; omega) (fun h=>by rw [h] at lY2; simp at lY2; omega) (mid:Int) ((N - r:Nat):Int) ((P.length+X.length+Y.length:Nat):Int) (by rw [List.length_append]; omega) (by rw [List.length_append]; omega) (by rw [List.length_append]; omega)).mono ?_
        rintro q v2 ⟨rfl,f2,M2,m2,s2,hv2⟩
        exact ⟨rfl,last v2 M1 M2 (fv.trans1 f2) m1 s1 m2 s2 (by simpa using hv2)⟩
       ·have h1:bb=false:=h1
        rw [h1] at hbb
        have hh:=of_decide_eq_false hbb.symm
        refine last v M1 (A2 ++ B2) fv m1 s1 (List.Perm.refl _) ?_ (by simpa using hv)
        rcases Nat.lt_or_ge mid (N - r) with hh2 | hh2
        ·have:B2=[]:=List.length_eq_zero_iff.1 (by omega)
         rw [this,List.append_nil]; exact sA2
        ·have:A2=[]:=List.length_eq_zero_iff.1 (by omega)
         rw [this,List.nil_append]; exact sB2
      refine jnC_mk (fun _=>vIf_mk (fun h1=>k44 _ ?_) (fun h1=>k44 _ ?_))
      ·have h1:(mid:Int) < ((N - r:Nat):Int):=of_decide_eq_true h1
       apply decide_eq_decide.2
       show ((N - r:Nat):Int) < ((P.length+X.length+Y.length:Nat):Int) ↔ _
       omega
      ·have h1:¬ (mid:Int) < ((N - r:Nat):Int):=of_decide_eq_false h1
       rw [decide_eq_false (fun h=>h1 (by omega))]
     have left:∀ (v:World),Fr (fun k=>blkOf A=some k) w v->RS enc v B A n c (P ++ (A1 ++ B1) ++ (A2 ++ B2) ++ S) ->
       jnC (F188s.k41 (fun v w'=>v=.tuple #[]/\Mrg enc cmp w w' B A n c P X Y S)) ((A,n,c),((P.length:Nat):Int),((P.length+X.length+Y.length:Nat):Int),(),(mid:Int),(r:Int),((N - r:Nat):Int),()) v:=by
      intro v fv hv
      have k42:∀ bb:Bool,bb=decide (P.length < r/\r < mid)->jnC (F188s.k42 (fun v w'=>v=.tuple #[]/\Mrg enc cmp w w' B A n c P X Y S)) ((A,n,c),((P.length:Nat):Int),((P.length+X.length+Y.length:Nat):Int),(),(mid:Int),(r:Int),((N - r:Nat):Int),bb,()) v:=by
       intro bb hbb
       refine jnC_mk (fun _=>vIf_mk (fun h1=>?_) (fun h1=>?_))
       ·have h1:bb=true:=h1
        rw [h1] at hbb
        have hh:=of_decide_eq_true hbb.symm
        refine (ih P A1 B1 (A2 ++ B2 ++ S) v (by omega) (by simpa using hv) sA1 sB1 hb11 (fun h=>by rw [h] at lX1; simp at lX1; omega) (fun h=>by rw [h] at lY1; simp at lY1; omega) ((P.length:Nat):Int) (r:Int) (mid:Int) rfl (by omega) (by omega)).mono ?_
        rintro q v2 ⟨rfl,f2,M1,m1,s1,hv2⟩
        exact ⟨rfl,right v2 M1 (fv.trans1 f2) m1 s1 (by simpa using hv2)⟩
       ·have h1:bb=false:=h1
        rw [h1] at hbb
        have hh:=of_decide_eq_false hbb.symm
        refine right v (A1 ++ B1) fv (List.Perm.refl _) ?_ hv
        rcases Nat.lt_or_ge P.length r with hh2 | hh2
        ·have:B1=[]:=List.length_eq_zero_iff.1 (by omega)
         rw [this,List.append_nil]; exact sA1
        ·have:A1=[]:=List.length_eq_zero_iff.1 (by omega)
         rw [this,List.nil_append]; exact sB1
      refine jnC_mk (fun _=>vIf_mk (fun h1=>k42 _ ?_) (fun h1=>k42 _ ?_))
      ·have h1:((P.length:Nat):Int) < (r:Int):=of_decide_eq_true h1
       apply decide_eq_decide.2
       show (r:Int) < (mid:Int) ↔ _
       omega
      ·have h1:¬ ((P.length:Nat):Int) < (r:Int):=of_decide_eq_false h1
       rw [decide_eq_false (fun h=>h1 (by omega))]
     have k40:∀ bb:Bool,bb=decide (r < P.length+X.length/\P.length+X.length < N - r)->jnC (F188s.k40 (fun v w'=>v=.tuple #[]/\Mrg enc cmp w w' B A n c P X Y S)) ((A,n,c),((P.length:Nat):Int),((P.length+X.length:Nat):Int),((P.length+X.length+Y.length:Nat):Int),(),(mid:Int),(r:Int),((N - r:Nat):Int),bb,()) u:=by
      intro bb hbb
      have fu:Fr (fun k=>blkOf A=some k) w u:=hf.mono (fun _ _ h=>h.elim)
      refine jnC_mk (fun _=>vIf_mk (fun h1=>?_) (fun h1=>?_))
      ·have h1:bb=true:=h1
       rw [h1] at hbb
       have hh:=of_decide_eq_true hbb.symm
       refine (rotate_calls (a:=(r:Int)) (m:=((P.length+X.length:Nat):Int)) (b:=((N - r:Nat):Int)) h0 B A n c (P ++ A1) A2 B1 (B2 ++ S) u hru2 (fun h=>by rw [h] at lX2; simp at lX2; omega) (fun h=>by rw [h] at lY1; simp at lY1; omega) hn (by rw [List.length_append]; omega) (by rw [List.length_append]; omega) (by rw [List.length_append]; omega)).mono ?_
       rintro q v ⟨rfl,f2,hv⟩
       exact ⟨rfl,left v (fu.trans1 f2) (by simpa using hv)⟩
      ·have h1:bb=false:=h1
       rw [h1] at hbb
       have hh:=of_decide_eq_false hbb.symm
       refine left u fu ?_
       rcases Nat.lt_or_ge r (P.length+X.length) with hh2 | hh2
       ·have:B1=[]:=List.length_eq_zero_iff.1 (by omega)
        rw [this] at hru2 ⊢
        simpa using hru2
       ·have:A2=[]:=List.length_eq_zero_iff.1 (by omega)
        rw [this] at hru2 ⊢
        simpa using hru2
     refine vIf_mk (fun h1=>k40 _ ?_) (fun h1=>k40 _ ?_)
     ·have h1:(r:Int) < ((P.length+X.length:Nat):Int):=of_decide_eq_true h1
      apply decide_eq_decide.2
      omega
     ·have h1:¬ (r:Int) < ((P.length+X.length:Nat):Int):=of_decide_eq_false h1
      rw [decide_eq_false (fun h=>h1 (by omega))]
   refine vIf_mk (fun h3=>?_) (fun h3=>?_)
   ·have h3:((P.length+X.length:Nat):Int) > (mid:Int):=of_decide_eq_true h3
    have eS:IntKind.wrap .i64 ((N:Int) - ((P.length+X.length+Y.length:Nat):Int))=((N - (P.length+X.length+Y.length):Nat):Int):=es _ _ (by omega) (by omega)
    rw [eS]
    exact fin _ _ (by omega) (by omega) (by omega) (by omega) (by omega) (.inr (by omega)) (.inr rfl)
   ·have h3:¬ ((P.length+X.length:Nat):Int) > (mid:Int):=of_decide_eq_false h3
    exact fin _ _ (by omega) (by omega) (by omega) (by omega) (by omega) (.inl rfl) (.inl rfl)
end
section
variable {β:Type} {enc:β->List Value} {cmp:β->β->Int}
def Srted (enc:β->List Value) (cmp:β->β->Int) (w w':World) (B:Nat) (A:Option Addr) (n c:Nat) (P X S:List (β×Nat)):Prop :=
 Fr (fun k=>blkOf A=some k) w w'/\∃ M,M.Perm X/\Sorted cmp M/\RS enc w' B A n c (P ++ M ++ S)
set_option maxHeartbeats 1000000 in
theorem insSort_calls (h0:Srt β enc cmp) (B:Nat) (A:Option Addr) (n c:Nat) (P X S:List (β×Nat)) (w:World) (h:RS enc w B A n c (P ++ X ++ S)) (hb:X.Pairwise bef) (hn:n < 549755813888) {a b:Int} (ha:a=((P.length:Nat):Int)) (hbb:b=((P.length+X.length:Nat):Int)) :
  Calls Tryz.prog 187 #[.slice A n c,.int .i64 a,.int .i64 b,cf] w fun e w'=>e=.returned (.tuple #[])/\Srted enc cmp w w' B A n c P X S:=by
 subst ha; subst hbb
 refine (F187s.of A n c _ _ w (Q:=fun v w'=>v=.tuple #[]/\Srted enc cmp w w' B A n c P X S) ?_).mono (fun e w' ⟨v,he,hv,h⟩=>⟨by rw [he,hv],h⟩)
 have hlen:=h.2
 simp only [List.length_append] at hlen
 by_cases hX0:X=[]
 ·subst hX0
  refine jnC_mk (loop_rule (fun s u=>u=w/\s=((A,n,c),((P.length:Nat):Int),((P.length+([]:List (β×Nat)).length:Nat):Int),(),((P.length+1:Nat):Int),())) (fun _ _=>0) ?_ _ _ ⟨rfl,by rw [ep _ (by omega)]⟩)
  rintro s u C ⟨rfl,rfl⟩ hC _
  refine vIf_f (decide_eq_false ?_) ⟨rfl,Fr.refl _ _,[],List.Perm.refl _,List.Pairwise.nil,h⟩
  show ¬ ((P.length+1:Nat):Int) < ((P.length+([]:List (β×Nat)).length:Nat):Int)
  simp only [List.length_nil]
  omega
 obtain ⟨x0,X0,rfl⟩:∃ x r,X=x :: r:=by
  cases X with
  | nil=>exact absurd rfl hX0
  | cons x r=>exact ⟨x,r,rfl⟩
 refine jnC_mk (loop_rule (fun s u=>Fr (fun k=>blkOf A=some k) w u/\∃ X1 M X2:List (β×Nat),X1 ++ X2=x0 :: X0/\M.Perm X1/\Sorted cmp M/\M ≠ []/\s=((A,n,c),((P.length:Nat):Int),((P.length+(x0 :: X0).length:Nat):Int),(),((P.length+M.length:Nat):Int),())/\RS enc u B A n c (P ++ M ++ X2 ++ S))
  (fun s _=>(P.length+(x0 :: X0).length - s.2.2.2.2.1).toNat) ?_ _ _ ⟨Fr.refl _ _,[x0],[x0],X0,rfl,List.Perm.refl _,List.pairwise_singleton _ _,by simp,by rw [ep _ (by omega)]; rfl,by simpa using h⟩)
 rintro s u C1 ⟨hf,X1,M,X2,hX,hM,sM,hM0,rfl,hr⟩ hC1 _
 have hXl:X1.length+X2.length=(x0 :: X0).length:=by rw [<- hX,List.length_append]
 have hMl:=hM.length_eq
 refine vIf_mk (fun hlt=>?_) (fun hge=>?_)
 ·have hlt2:((P.length+M.length:Nat):Int) < ((P.length+(x0 :: X0).length:Nat):Int):=of_decide_eq_true hlt
  obtain ⟨x,X2',rfl⟩:∃ x r,X2=x :: r:=by
   cases X2 with
   | nil=>simp at hXl hlt2; omega
   | cons x r=>exact ⟨x,r,rfl⟩
  simp only [List.length_cons] at hXl hlt2 hlen
  have hbx:∀ y ∈ M,bef y x:=fun y hy=>by
   rw [<- hX] at hb
   exact (List.pairwise_append.1 hb).2.2 y (hM.mem_iff.1 hy) x (List.mem_cons_self ..)
  have hM1:M.length ≠ 0:=fun h=>hM0 (List.length_eq_zero_iff.1 h)
  refine jnC_mk (loop_rule (fun s v=>Fr (fun k=>blkOf A=some k) w v/\∃ U V:List (β×Nat),U ++ V=M/\(∀ y ∈ V,lt cmp x y)/\s=((A,n,c),((P.length:Nat):Int),((P.length+(x0 :: X0).length:Nat):Int),(),((P.length+M.length:Nat):Int),((P.length+U.length:Nat):Int),())/\RS enc v B A n c (P ++ U ++ x :: V ++ X2' ++ S))
   (fun s _=>s.2.2.2.2.2.1.toNat) ?_ _ _ ⟨hf,M,[],by simp,by simp,rfl,by simpa using hr⟩)
  rintro s v C ⟨hfv,U,V,hUV,hVx,rfl,hrv⟩ hC _
  have hUVl:U.length+V.length=M.length:=by rw [<- hUV,List.length_append]
  have sUV:=sM
  rw [<- hUV] at sUV
  obtain ⟨sU,sV,sUV2⟩:=sorted_of_app sUV
  have next:∀ u2:World,Fr (fun k=>blkOf A=some k) w u2->RS enc u2 B A n c (P ++ U ++ x :: V ++ X2' ++ S)->(∀ y ∈ U,lt cmp y x)->C1 ((A,n,c),((P.length:Nat):Int),((P.length+(x0 :: X0).length:Nat):Int),(),IntKind.wrap .i64 (((P.length+M.length:Nat):Int)+1),()) u2:=by
   intro u2 f2 h2 hUx
   refine hC1 _ _ ⟨f2,X1 ++ [x],U ++ x :: V,X2',by rw [<- hX]; simp,?_,?_,by simp,?_,by simpa using h2⟩ ?_
   ·refine List.perm_middle.trans ?_
    rw [hUV]
    exact (hM.cons x).trans (List.perm_append_singleton _ _).symm
   ·refine sorted_app sU (List.pairwise_cons.2 ⟨hVx,sV⟩) (fun y hy z hz=>?_)
    rcases List.mem_cons.1 hz with rfl | hz
    ·exact hUx y hy
    ·exact sUV2 y hy z hz
   ·have:(U ++ x :: V).length=M.length+1:=by simp; omega
    rw [ep _ (by omega),this]; rfl
   ·show (((P.length:Nat):Int)+(((x0 :: X0).length:Nat):Int) - IntKind.wrap .i64 (((P.length+M.length:Nat):Int)+1)).toNat < (((P.length:Nat):Int)+(((x0 :: X0).length:Nat):Int) - ((P.length+M.length:Nat):Int)).toNat
    rw [ep _ (by omega),List.length_cons]; omega
  have hvd:=hrv.drew
  have fvd:Fr (fun k=>blkOf A=some k) w v.drew:=hfv.trans1 (Fr.drew _ _)
  refine vIf_mk (fun hj=>?_) (fun hj=>?_)
  ·have hj2:((P.length+U.length:Nat):Int) > ((P.length:Nat):Int):=of_decide_eq_true hj
   obtain ⟨U',z,rfl⟩:∃ U' z,U=U' ++ [z]:=by
    have hne:U ≠ []:=by intro h; subst h; simp at hj2
    exact ⟨U.dropLast,U.getLast hne,(List.dropLast_concat_getLast hne).symm⟩
   simp only [List.length_append,List.length_cons,List.length_nil] at hUVl hj2
   have l1:P ++ (U' ++ [z]) ++ x :: V ++ X2' ++ S=(P ++ U') ++ z :: (x :: V ++ X2' ++ S):=by simp
   have l2:P ++ (U' ++ [z]) ++ x :: V ++ X2' ++ S=(P ++ (U' ++ [z])) ++ x :: (V ++ X2' ++ S):=by simp
   have ek:IntKind.wrap .i64 (((P.length+(U' ++ [z]).length:Nat):Int) - 1)=((P.length+U'.length:Nat):Int):=by rw [e1 _ (by simp; omega) (by simp; omega)]; simp only [List.length_append,List.length_cons,List.length_nil]; omega
   have gx:=fun (t:World) (ht:RS enc t B A n c (P ++ (U' ++ [z]) ++ x :: V ++ X2' ++ S)) {K:List Value->Prop} (hK:K (enc x.1))=>rs_rd h0 ht (i:=P.length+(U' ++ [z]).length) (x:=x) (by rw [l2]; exact get_mid (by simp)) rfl hK
   have gz:=fun (t:World) (ht:RS enc t B A n c (P ++ (U' ++ [z]) ++ x :: V ++ X2' ++ S)) {K:List Value->Prop} (hK:K (enc z.1))=>rs_rd h0 ht (i:=P.length+U'.length) (x:=z) (by rw [l1]; exact get_mid (by simp)) ek hK
   refine gx _ hvd (gz _ hvd ((h0.call x.1 z.1 v.drew).mono ?_))
   rintro r v2 ⟨rfl,f2⟩
   have fv2:=fvd.trans1 (f2.mono (T:=fun k=>blkOf A=some k) (fun _ _ h=>h.elim))
   have hv2:=hvd.fr0 f2
   have hzM:z ∈ M:=by rw [<- hUV]; simp
   have hbz:=hbx z hzM
   refine ⟨_,rfl,vIf_mk (fun hc=>jnC_mk (fun _=>?_)) (fun hc=>jnC_mk (next v2 fv2 hv2 (fun y hy=>?_)))⟩
   ·have hxz:=bef_yes h0.ord hbz (of_decide_eq_true hc)
    have hv3:=hv2.drew
    refine gz _ hv3 (gx _ hv3 ?_)
    refine rs_swap h0 hv3 (i:=P.length+(U' ++ [z]).length) (j:=P.length+U'.length) (x:=x) (y:=z) (by simp; omega) (by omega) rfl ek (fun w' hr' f'=>jnC_mk (hC _ _ ⟨(fv2.trans1 (Fr.drew _ _)).trans1 f',U',z :: V,by rw [<- hUV]; simp,fun y hy=>?_,?_,?_⟩ ?_))
    ·rcases List.mem_cons.1 hy with rfl | hy
     ·exact hxz
     ·exact hVx y hy
    ·show (_,_,_,_,_,IntKind.wrap .i64 (((P.length+(U' ++ [z]).length:Nat):Int) - 1),())=_
     rw [ek]
    ·rw [l2,set_mid (by simp)] at hr'
     have l3:(P ++ (U' ++ [z])) ++ z :: (V ++ X2' ++ S)=(P ++ U') ++ z :: (z :: (V ++ X2' ++ S)):=by simp
     rw [l3,set_mid (by simp)] at hr'
     have l4:(P ++ U') ++ x :: (z :: (V ++ X2' ++ S))=P ++ U' ++ x :: (z :: V) ++ X2' ++ S:=by simp
     rw [l4] at hr'; exact hr'
    ·show (IntKind.wrap .i64 (((P.length+(U' ++ [z]).length:Nat):Int) - 1)).toNat < (((P.length+(U' ++ [z]).length:Nat):Int)).toNat
     rw [ek]; simp only [List.length_append,List.length_cons,List.length_nil]; omega
   ·have hzx:=bef_no h0.ord hbz (of_decide_eq_false hc)
    rcases List.mem_append.1 hy with hy | hy
    ·refine lt_trans h0.ord ?_ hzx
     exact (sorted_of_app sU).2.2 y hy z (by simp)
    ·simp at hy; subst hy; exact hzx
  ·have hj2:¬ ((P.length+U.length:Nat):Int) > ((P.length:Nat):Int):=of_decide_eq_false hj
   have hU:U=[]:=List.length_eq_zero_iff.1 (by omega)
   exact jnC_mk (next v.drew fvd hvd (fun y hy=>by rw [hU] at hy; cases hy))
 ·have hge2:¬ ((P.length+M.length:Nat):Int) < ((P.length+(x0 :: X0).length:Nat):Int):=of_decide_eq_false hge
  have hX2:X2=[]:=List.length_eq_zero_iff.1 (by omega)
  subst hX2
  rw [List.append_nil] at hX hr
  subst hX
  exact ⟨rfl,hf,M,hM,sM,hr⟩
structure Blk (cmp:β->β->Int) (k:Nat) (Fs:List (List (β×Nat))) (t:List (β×Nat)):Prop where
 len:∀ f ∈ Fs,f.length=k
 srt:∀ f ∈ Fs,Sorted cmp f
 tl:t.length < k
 ts:Sorted cmp t
 bf:(Fs ++ [t]).Pairwise befC
set_option maxHeartbeats 2000000 in
theorem stable_calls (h0:Srt β enc cmp) (B:Nat) (A:Option Addr) (n c:Nat) (X:List (β×Nat)) (w:World) (h:RS enc w B A n c X) (hb:X.Pairwise bef) (hn:n < 68719476736) :
  Calls Tryz.prog 178 #[.slice A n c,.int .i64 (n:Nat),cf] w fun e w'=>e=.returned (.tuple #[])/\Srted enc cmp w w' B A n c [] X []:=by
 refine (F178s.of A n c _ w (Q:=fun v w'=>v=.tuple #[]/\Srted enc cmp w w' B A n c [] X []) ?_).mono (fun e w' ⟨v,he,hv,h⟩=>⟨by rw [he,hv],h⟩)
 have hXl:=h.2
 have merges:∀ (u:World) (Fs:List (List (β×Nat))) (t:List (β×Nat)),Fr (fun k=>blkOf A=some k) w u->(Fs.flatten ++ t).Perm X->Blk cmp 20 Fs t->RS enc u B A n c (Fs.flatten ++ t) ->
   jnC (F178s.l7 (fun v w'=>v=.tuple #[]/\Srted enc cmp w w' B A n c [] X [])) ((A,n,c),(n:Int),(),20,()) u:=by
  intro u Fs t hf hp hB hr
  refine jnC_mk (loop_rule (fun s u=>Fr (fun k=>blkOf A=some k) w u/\∃ (k:Nat) (Fs:List (List (β×Nat))) (t:List (β×Nat)),20<=k/\k<=2 * n+20/\s=((A,n,c),(n:Int),(),(k:Int),())/\(Fs.flatten ++ t).Perm X/\Blk cmp k Fs t/\RS enc u B A n c (Fs.flatten ++ t))
   (fun s _=>(2 * (n:Int)+20 - s.2.2.2.1).toNat) ?_ _ _ ⟨hf,20,Fs,t,by omega,by omega,rfl,hp,hB,hr⟩)
  clear hr hB hp hf
  rintro s u C7 ⟨hf,k,Fs,t,hk1,hk2,rfl,hp,hB,hr⟩ hC7 _
  refine vIf_mk (fun hlt=>?_) (fun hge=>?_)
  ·have hlt2:(k:Int) < (n:Int):=of_decide_eq_true hlt
   have e2k:IntKind.wrap .i64 (2 * (k:Int))=((2 * k:Nat):Int):=by rw [i64_id (by omega) (by omega)]; omega
   have ek2:IntKind.wrap .i64 ((k:Int) * 2)=((2 * k:Nat):Int):=by rw [i64_id (by omega) (by omega)]; omega
   dsimp only
   rw [e2k]
   have done:∀ (v:World) (Ds:List (List (β×Nat))) (t':List (β×Nat)),Fr (fun k=>blkOf A=some k) w v->(Ds.flatten ++ t').Perm X->Blk cmp (2 * k) Ds t'->RS enc v B A n c (Ds.flatten ++ t')->C7 ((A,n,c),(n:Int),(),IntKind.wrap .i64 ((k:Int) * 2),()) v:=by
    intro v Ds t' fv hp' hB' hr'
    refine hC7 _ _ ⟨fv,2 * k,Ds,t',by omega,by omega,by rw [ek2],hp',hB',hr'⟩ ?_
    show (2 * (n:Int)+20 - IntKind.wrap .i64 ((k:Int) * 2)).toNat < (2 * (n:Int)+20 - (k:Int)).toNat
    rw [ek2]; omega
   refine jnC_mk (loop_rule (fun s v=>Fr (fun k=>blkOf A=some k) w v/\∃ (Ds Fs:List (List (β×Nat))),(Ds.flatten ++ (Fs.flatten ++ t)).Perm X/\(∀ d ∈ Ds,d.length=2 * k/\Sorted cmp d)/\(∀ f ∈ Fs,f.length=k/\Sorted cmp f)/\(Ds ++ (Fs ++ [t])).Pairwise befC/\s=((A,n,c),(n:Int),(),(k:Int),((Ds.flatten.length:Nat):Int),((Ds.flatten.length+2 * k:Nat):Int),())/\RS enc v B A n c (Ds.flatten ++ (Fs.flatten ++ t)))
    (fun s _=>((n:Int) - s.2.2.2.2.1).toNat) ?_ _ _ ⟨hf,[],Fs,by simpa using hp,by simp,fun f hf=>⟨hB.len f hf,hB.srt f hf⟩,hB.bf,by simp,by simpa using hr⟩)
   have ht:=hB.tl
   have hts:=hB.ts
   clear hr hB hp hf
   rintro s v C9 ⟨hf,Ds,Fs,hp,hD,hF,hbf,rfl,hr⟩ hC9 _
   have hl:=hr.2
   simp only [List.length_append] at hl
   have hFl:=flat_len (fun f hf=>(hF f hf).1)
   have eAk:IntKind.wrap .i64 (((Ds.flatten.length:Nat):Int)+(k:Int))=((Ds.flatten.length+k:Nat):Int):=ea _ _ (by omega) (by omega)
   refine vIf_mk (fun hlt=>?_) (fun hge=>?_)
   ·have hlt2:((Ds.flatten.length+2 * k:Nat):Int)<=(n:Int):=of_decide_eq_true hlt
    obtain ⟨f1,f2,Fs',rfl⟩:∃ f1 f2 r,Fs=f1 :: f2 :: r:=by
     match Fs,hFl with
     | [],hFl=>simp only [List.flatten_nil,List.length_nil] at hFl hl; omega
     | [f],hFl=>simp only [List.length_cons,List.length_nil] at hFl; omega
     | f1 :: f2 :: r,_=>exact ⟨f1,f2,r,rfl⟩
    have q1:=hF f1 (List.mem_cons_self ..)
    have q2:=hF f2 (List.mem_cons_of_mem _ (List.mem_cons_self ..))
    have hfl:Ds.flatten ++ ((f1 :: f2 :: Fs').flatten ++ t)=Ds.flatten ++ f1 ++ f2 ++ (Fs'.flatten ++ t):=by simp
    rw [hfl] at hr hp
    dsimp only
    rw [eAk]
    refine (symMerge_calls h0 B A n c (by omega) _ Ds.flatten f1 f2 (Fs'.flatten ++ t) v (Nat.le_refl _) hr q1.2 q2.2 (befC_two (Ds:=Ds) (R:=Fs' ++ [t]) (by simpa using hbf)) (fun h=>by rw [h] at q1; have:=q1.1; simp only [List.length_nil] at this; omega) (fun h=>by rw [h] at q2; have:=q2.1; simp only [List.length_nil] at this; omega) ((Ds.flatten.length:Nat):Int) ((Ds.flatten.length+k:Nat):Int) ((Ds.flatten.length+2 * k:Nat):Int) rfl (by rw [q1.1]) (by rw [q1.1,q2.1]; omega)).mono ?_
    rintro r v2 ⟨rfl,f',M,mM,sM,hr'⟩
    have lM:M.length=2 * k:=by rw [mM.length_eq,List.length_append,q1.1,q2.1]; omega
    have hfl2:Ds.flatten ++ M ++ (Fs'.flatten ++ t)=(Ds ++ [M]).flatten ++ (Fs'.flatten ++ t):=by simp
    rw [hfl2] at hr'
    have lD2:(Ds ++ [M]).flatten.length=Ds.flatten.length+2 * k:=by rw [List.flatten_append,List.flatten_cons,List.flatten_nil,List.append_nil,List.length_append,lM]
    refine ⟨rfl,jnC_mk (hC9 _ _ ⟨hf.trans1 f',Ds ++ [M],Fs',?_,fun d hd=>?_,fun f hf=>hF f (List.mem_cons_of_mem _ (List.mem_cons_of_mem _ hf)),?_,?_,hr'⟩ ?_)⟩
    ·rw [<- hfl2]
     refine List.Perm.trans ?_ hp
     simp only [List.append_assoc]
     exact (((mM.append_right _).trans (by simp)).append_left _)
    ·rcases List.mem_append.1 hd with hd | hd
     ·exact hD d hd
     ·simp at hd; subst hd; exact ⟨lM,sM⟩
    ·have:=befC_merge (Ds:=Ds) (R:=Fs' ++ [t]) (by simpa using hbf) mM
     simpa using this
    ·show (_,_,_,_,((Ds.flatten.length+2 * k:Nat):Int),IntKind.wrap .i64 (((Ds.flatten.length+2 * k:Nat):Int)+IntKind.wrap .i64 (2 * (k:Int))),())=_
     rw [e2k,ea _ _ (by omega) (by omega),lD2]
    ·show ((n:Int) - ((Ds.flatten.length+2 * k:Nat):Int)).toNat < ((n:Int) - ((Ds.flatten.length:Nat):Int)).toNat
     omega
   ·have hge2:¬ ((Ds.flatten.length+2 * k:Nat):Int)<=(n:Int):=of_decide_eq_false hge
    clear hC9
    dsimp only
    rw [eAk]
    have hFs:Fs.length<=1:=by
     rcases Nat.lt_or_ge Fs.length 2 with h' | h'
     ·omega
     ·have:2 * k<=Fs.length * k:=Nat.mul_le_mul_right _ h'
      omega
    match Fs,hFs with
    | [],_ =>
     simp only [List.flatten_nil,List.nil_append,List.length_nil] at hr hp hl hbf
     refine vIf_f (decide_eq_false (by omega)) (jnC_mk (done v Ds t hf hp ⟨fun d hd=>(hD d hd).1,fun d hd=>(hD d hd).2,by omega,hts,hbf⟩ hr))
    | [f],_ =>
     have q1:=hF f (List.mem_cons_self ..)
     simp only [List.flatten_cons,List.flatten_nil,List.append_nil] at hr hp hl
     have hbf2:(Ds ++ f :: t :: []).Pairwise befC:=by simpa using hbf
     refine vIf_mk (fun hm=>?_) (fun hm=>?_)
     ·have hm2:((Ds.flatten.length+k:Nat):Int) < (n:Int):=of_decide_eq_true hm
      have hr2:RS enc v B A n c (Ds.flatten ++ f ++ t ++ []):=by simpa using hr
      refine (symMerge_calls h0 B A n c (by omega) _ Ds.flatten f t [] v (Nat.le_refl _) hr2 q1.2 hts (befC_two hbf2) (fun h=>by rw [h] at q1; have:=q1.1; simp only [List.length_nil] at this; omega) (fun h=>by rw [h] at hl; simp only [List.length_nil] at hl; omega) ((Ds.flatten.length:Nat):Int) ((Ds.flatten.length+k:Nat):Int) (n:Int) rfl (by rw [q1.1]) (by omega)).mono ?_
      rintro r v2 ⟨rfl,f',M,mM,sM,hr'⟩
      have lM:M.length=k+t.length:=by rw [mM.length_eq,List.length_append,q1.1]
      refine ⟨rfl,jnC_mk (done v2 Ds M (hf.trans1 f') ((mM.append_left _).trans hp) ⟨fun d hd=>(hD d hd).1,fun d hd=>(hD d hd).2,by omega,sM,?_⟩ (by simpa using hr'))⟩
      exact befC_merge hbf2 mM
     ·have hm2:¬ ((Ds.flatten.length+k:Nat):Int) < (n:Int):=of_decide_eq_false hm
      have ht0:t=[]:=List.length_eq_zero_iff.1 (by omega)
      rw [ht0,List.append_nil] at hr hp
      refine jnC_mk (done v Ds f hf hp ⟨fun d hd=>(hD d hd).1,fun d hd=>(hD d hd).2,by omega,q1.2,?_⟩ hr)
      exact befC_merge hbf2 (by rw [ht0,List.append_nil])
  ·have hge2:¬ (k:Int) < (n:Int):=of_decide_eq_false hge
   have hl:=hr.2
   simp only [List.length_append] at hl
   have hFl:=flat_len hB.len
   have hFs:Fs.length<=1:=by
    rcases Nat.lt_or_ge Fs.length 2 with h' | h'
    ·omega
    ·have:2 * k<=Fs.length * k:=Nat.mul_le_mul_right _ h'
     omega
   match Fs,hFs with
   | [],_ =>
    simp only [List.flatten_nil,List.nil_append] at hr hp
    exact ⟨rfl,hf,t,hp,hB.ts,by simpa using hr⟩
   | [f],_ =>
    have q1:=hB.len f (List.mem_cons_self ..)
    have q2:=hB.srt f (List.mem_cons_self ..)
    simp only [List.flatten_cons,List.flatten_nil,List.append_nil] at hr hp hl
    have ht0:t=[]:=List.length_eq_zero_iff.1 (by omega)
    rw [ht0,List.append_nil] at hr hp
    exact ⟨rfl,hf,f,hp,q2,by simpa using hr⟩
 refine jnC_mk (loop_rule (fun s u=>Fr (fun k=>blkOf A=some k) w u/\∃ (X1 X2:List (β×Nat)) (Fs:List (List (β×Nat))),X1 ++ X2=X/\Fs.flatten.Perm X1/\(∀ f ∈ Fs,f.length=20/\Sorted cmp f)/\Fs.Pairwise befC/\s=((A,n,c),(n:Int),(),20,((Fs.flatten.length:Nat):Int),((Fs.flatten.length+20:Nat):Int),())/\RS enc u B A n c (Fs.flatten ++ X2))
  (fun s _=>((n:Int) - s.2.2.2.2.1).toNat) ?_ _ _ ⟨Fr.refl _ _,[],X,[],rfl,List.Perm.refl _,by simp,List.Pairwise.nil,rfl,by simpa using h⟩)
 rintro s u C ⟨hf,X1,X2,Fs,hX,hp,hF,hbf,rfl,hr⟩ hC _
 have hl:=hr.2
 simp only [List.length_append] at hl
 rw [<- hX] at hb
 obtain ⟨b1,b2,b3⟩:=List.pairwise_append.1 hb
 refine vIf_mk (fun hlt=>?_) (fun hge=>?_)
 ·have hlt2:((Fs.flatten.length+20:Nat):Int)<=(n:Int):=of_decide_eq_true hlt
  have hX2:=List.take_append_drop 20 X2
  have lY:(X2.take 20).length=20:=take_len (by omega)
  have b4:=b2
  rw [<- hX2] at b4
  obtain ⟨b5,b6,b7⟩:=List.pairwise_append.1 b4
  have hr2:RS enc u B A n c (Fs.flatten ++ X2.take 20 ++ X2.drop 20):=by
   rw [List.append_assoc,hX2]; exact hr
  refine (insSort_calls h0 B A n c Fs.flatten (X2.take 20) (X2.drop 20) u hr2 b5 (by omega) rfl (by rw [lY])).mono ?_
  rintro r u2 ⟨rfl,f2,M,mM,sM,hr3⟩
  have lM:M.length=20:=by rw [mM.length_eq,lY]
  have lF:(Fs ++ [M]).flatten.length=Fs.flatten.length+20:=by rw [List.flatten_append,List.flatten_cons,List.flatten_nil,List.append_nil,List.length_append,lM]
  refine ⟨rfl,jnC_mk (hC _ _ ⟨hf.trans1 f2,X1 ++ X2.take 20,X2.drop 20,Fs ++ [M],by rw [List.append_assoc,hX2,hX],?_,fun f hf=>?_,?_,?_,by simpa using hr3⟩ ?_)⟩
  ·rw [List.flatten_append,List.flatten_cons,List.flatten_nil,List.append_nil]
   exact hp.append mM
  ·rcases List.mem_append.1 hf with hf | hf
   ·exact hF f hf
   ·simp at hf; subst hf; exact ⟨lM,sM⟩
  ·refine List.pairwise_append.2 ⟨hbf,List.pairwise_singleton _ _,fun f hf m hm x hx y hy=>?_⟩
   simp at hm; subst hm
   exact b3 x (hp.mem_iff.1 (List.mem_flatten.2 ⟨f,hf,hx⟩)) y (List.mem_of_mem_take (mM.mem_iff.1 hy))
  ·show (_,_,_,_,((Fs.flatten.length+20:Nat):Int),IntKind.wrap .i64 (((Fs.flatten.length+20:Nat):Int)+20),())=_
   rw [lF,i64_id (by omega) (by omega)]; congr 6
  ·show ((n:Int) - ((Fs.flatten.length+20:Nat):Int)).toNat < ((n:Int) - ((Fs.flatten.length:Nat):Int)).toNat
   omega
 ·have hge2:¬ ((Fs.flatten.length+20:Nat):Int)<=(n:Int):=of_decide_eq_false hge
  refine (insSort_calls h0 B A n c Fs.flatten X2 [] u (by simpa using hr) b2 (by omega) rfl (by show (n:Int)=_; omega)).mono ?_
  rintro r u2 ⟨rfl,f2,M,mM,sM,hr3⟩
  refine ⟨rfl,merges u2 Fs M (hf.trans1 f2) ?_ ⟨fun f hf=>(hF f hf).1,fun f hf=>(hF f hf).2,by rw [mM.length_eq]; omega,sM,?_⟩ (by simpa using hr3)⟩
  ·rw [<- hX]; exact hp.append mM
  ·refine List.pairwise_append.2 ⟨hbf,List.pairwise_singleton _ _,fun f hf m hm x hx y hy=>?_⟩
   simp at hm; subst hm
   exact b3 x (hp.mem_iff.1 (List.mem_flatten.2 ⟨f,hf,hx⟩)) y (mM.mem_iff.1 hy)
theorem sortStable_calls (h0:Srt β enc cmp) (B:Nat) (A:Option Addr) (n c:Nat) (X:List β) (w:World) (h:Row w B 160 2 A n c (flt enc X)) (hl:X.length=n) (hn:n < 68719476736) :
  Calls Tryz.prog 156 #[.slice A n c,cf] w fun e w'=>e=.returned (.tuple #[])/\Fr (fun k=>blkOf A=some k) w w'/\Row w' B 160 2 A n c (flt enc (stab cmp X)):=by
 refine (F156s.of A n c w (Q:=fun v w'=>v=.tuple #[]/\Fr (fun k=>blkOf A=some k) w w'/\Row w' B 160 2 A n c (flt enc (stab cmp X))) ?_).mono (fun e w' ⟨v,he,hv,h⟩=>⟨by rw [he,hv],h⟩)
 have hflt:∀ l:List (β×Nat),flt (encT enc) l=flt enc (l.map (·.1)):=fun l=>by
  unfold flt
  rw [List.map_map]
  rfl
 have hR:RS enc w B A n c (tagL X):=⟨by rw [hflt,tagL_fst]; exact h,by simp [tagL,hl]⟩
 have hb:(tagL X).Pairwise bef:=by
  unfold tagL bef
  rw [List.pairwise_iff_getElem]
  intro i j hi hj hij
  simp
  omega
 refine (stable_calls h0 B A n c (tagL X) w hR hb hn).mono ?_
 rintro r w2 ⟨rfl,f,M,mM,sM,hr⟩
 refine ⟨rfl,rfl,f,?_⟩
 have h1:=hr.1
 rw [List.nil_append,List.append_nil,hflt,stab_of h0.ord sM mM] at h1
 exact h1
end
end Go.Proofs.YtkfanhdicnjdlaaGreatDoor.StbNm
namespace Go.Proofs.YtkfanhdicnjdlaaGreatDoor
open Go.GV Go.RowKit Go.Lib Go.Stb
abbrev Nm:=ByteArray×Int
def encN (x:Nm):List Value:=[.string x.1,.int .i64 x.2]
theorem encN_o:EncO Nm encN 2:=⟨fun _=>rfl,fun x v hv=>by simp [encN] at hv; rcases hv with rfl | rfl <;> rfl⟩
def cmpM (a b:Nm):Int:=cmpN a.1 b.1
theorem cmpM_ord:OrdC cmpM:=⟨fun a b=>cmpN_anti _ _,fun a b c h1 h2=>by
 have:=cmp_trans a.1.data.toList b.1.data.toList c.1.data.toList h1 h2
 exact this⟩
def findN (s:ByteArray):List Nm->Option Int
 | []=>none
 | x :: r=>if x.1=s then some x.2 else findN s r
theorem findN_app (s:ByteArray):∀ a b:List Nm,findN s (a ++ b)=(findN s a).or (findN s b)
 | [],b=>by simp [findN]
 | x :: r,b=>by
  rw [List.cons_append,findN,findN,findN_app s r b]
  split <;> simp
theorem findN_none {s:ByteArray}:∀ {l:List Nm},(∀ x ∈ l,x.1 ≠ s)->findN s l=none
 | [],_=>rfl
 | x :: r,h=>by rw [findN,if_neg (h x (List.mem_cons_self ..)),findN_none (fun y hy=>h y (List.mem_cons_of_mem _ hy))]
theorem findN_mem {s:ByteArray} {i:Int}:∀ {l:List Nm},findN s l=some i->(s,i) ∈ l
 | [],h=>by simp [findN] at h
 | x :: r,h=>by
  rw [findN] at h
  split at h
  ·rename_i hx
   injection h with h
   rw [<- hx,<- h]; exact List.mem_cons_self ..
  ·exact List.mem_cons_of_mem _ (findN_mem h)
def AscN (l:List Nm):Prop:=l.Pairwise (fun a b=>cmpN a.1 b.1 < 0)
theorem cmp_ne {a b:ByteArray} (h:cmpN a b < 0):a ≠ b:=fun e=>by rw [e,cmpN_self] at h; omega
theorem cmp_gt {a b:ByteArray} (h:cmpN a b < 0):¬ cmpN b a < 0:=by have:=cmpN_anti a b; omega
theorem ascN_ext:∀ {a b:List Nm},AscN a->AscN b->(∀ s,findN s a=findN s b)->a=b
 | [],[],_,_,_=>rfl
 | [],y :: b,_,_,h=>by have:=h y.1; simp [findN] at this
 | x :: a,[],_,_,h=>by have:=h x.1; simp [findN] at this
 | x :: a,y :: b,ha,hb,h=>by
  have ca:=List.pairwise_cons.1 ha
  have cb:=List.pairwise_cons.1 hb
  have key:∀ {x y:Nm} {a b:List Nm},(∀ z ∈ b,cmpN y.1 z.1 < 0)->(findN x.1 (x :: a)=findN x.1 (y :: b))->x.1=y.1\/cmpN y.1 x.1 < 0:=by
   intro x y a b hy hf
   rw [findN,if_pos rfl] at hf
   rcases List.mem_cons.1 (findN_mem hf.symm) with h1 | h1
   ·left; rw [<- h1]
   ·right; exact hy _ h1
  have h1:=key cb.1 (h x.1)
  have h2:=key ca.1 (h y.1).symm
  have hxy:x.1=y.1:=by
   rcases h1 with h1 | h1
   ·exact h1
   ·rcases h2 with h2 | h2
    ·exact h2.symm
    ·exact absurd h2 (cmp_gt h1)
  have h3:=h x.1
  rw [findN,findN,if_pos rfl,if_pos hxy.symm] at h3
  injection h3 with h3
  have hx:x=y:=Prod.ext hxy h3
  subst hx
  rw [ascN_ext ca.2 cb.2 (fun s=>by
   have h4:=h s
   rw [findN,findN] at h4
   by_cases hs:x.1=s
   ·rw [findN_none (fun z hz=>fun e=>cmp_ne (ca.1 z hz) (by rw [hs,e])),findN_none (fun z hz=>fun e=>cmp_ne (cb.1 z hz) (by rw [hs,e]))]
   ·rw [if_neg hs,if_neg hs] at h4; exact h4)]
def putN (x:Nm):List Nm->List Nm
 | []=>[x]
 | y :: r=>if cmpN x.1 y.1 < 0 then x :: y :: r else if x.1=y.1 then x :: r else y :: putN x r
theorem putN_find (s:ByteArray) (x:Nm):∀ l,findN s (putN x l)=if x.1=s then some x.2 else findN s l
 | []=>by simp [putN,findN]
 | y :: r=>by
  have ih:=putN_find s x r
  rw [putN]
  split
  ·rw [findN]
  ·split
   ·rename_i h1 h2
    rw [findN]
    by_cases h3:x.1=s
    ·rw [if_pos h3,if_pos h3]
    ·rw [if_neg h3,if_neg h3,findN,if_neg (by rw [<- h2]; exact h3)]
   ·rename_i h1 h2
    rw [findN,ih,findN]
    by_cases h3:x.1=s
    ·rw [if_pos h3,if_neg (by rw [<- h3]; exact fun e=>h2 e.symm),if_pos h3]
    ·rw [if_neg h3,if_neg h3]
theorem putN_mem {x z:Nm}:∀ {l},z ∈ putN x l->z=x\/z ∈ l
 | [],h=>by simp [putN] at h; exact .inl h
 | y :: r,h=>by
  rw [putN] at h
  split at h
  ·exact List.mem_cons.1 h
  ·split at h
   ·rcases List.mem_cons.1 h with h | h
    ·exact .inl h
    ·exact .inr (List.mem_cons_of_mem _ h)
   ·rcases List.mem_cons.1 h with h | h
    ·exact .inr (by rw [h]; exact List.mem_cons_self ..)
    ·rcases putN_mem h with h | h
     ·exact .inl h
     ·exact .inr (List.mem_cons_of_mem _ h)
theorem putN_asc (x:Nm):∀ {l},AscN l->AscN (putN x l)
 | [],_=>List.pairwise_singleton _ _
 | y :: r,h=>by
  have c:=List.pairwise_cons.1 h
  rw [putN]
  split
  ·rename_i h1
   refine List.pairwise_cons.2 ⟨fun z hz=>?_,h⟩
   rcases List.mem_cons.1 hz with rfl | hz
   ·exact h1
   ·exact cmpN_trans h1 (c.1 z hz)
  ·split
   ·rename_i h1 h2
    refine List.pairwise_cons.2 ⟨fun z hz=>?_,c.2⟩
    rw [h2]; exact c.1 z hz
   ·rename_i h1 h2
    refine List.pairwise_cons.2 ⟨fun z hz=>?_,putN_asc x c.2⟩
    rcases putN_mem hz with rfl | hz
    ·have:=cmpN_anti z.1 y.1
     have h3:cmpN z.1 y.1 ≠ 0:=fun e=>h2 ((cmpN_zero _ _).1 e)
     omega
    ·exact c.1 z hz
theorem putN_len (x:Nm):∀ l,(putN x l).length<=l.length+1
 | []=>by simp [putN]
 | y :: r=>by
  have:=putN_len x r
  rw [putN]
  split
  ·simp
  ·split <;> simp <;> omega
theorem putN_lt {x:Nm}:∀ {l:List Nm},(∀ z ∈ l,cmpN x.1 z.1 < 0)->putN x l=x :: l
 | [],_=>rfl
 | y :: r,h=>by rw [putN,if_pos (h y (List.mem_cons_self ..))]
theorem putN_app {x:Nm}:∀ {U:List Nm} (V:List Nm),(∀ z ∈ U,cmpN z.1 x.1 < 0)->putN x (U ++ V)=U ++ putN x V
 | [],V,_=>rfl
 | y :: r,V,h=>by
  have h1:=h y (List.mem_cons_self ..)
  rw [List.cons_append,putN,if_neg (cmp_gt h1),if_neg (fun e=>cmp_ne h1 e.symm),putN_app V (fun z hz=>h z (List.mem_cons_of_mem _ hz))]
  rfl
def woN (s:ByteArray) (l:List Nm):List Nm:=l.filter (fun y=>decide (y.1 ≠ s))
theorem woN_asc (s:ByteArray) {l:List Nm} (h:AscN l):AscN (woN s l):=h.sublist (List.filter_sublist ..)
theorem woN_len (s:ByteArray) (l:List Nm):(woN s l).length<=l.length:=List.length_filter_le _ _
theorem woN_id {s:ByteArray} {l:List Nm} (h:∀ x ∈ l,x.1 ≠ s):woN s l=l:=List.filter_eq_self.2 (fun x hx=>by simpa using h x hx)
def PlN (s:ByteArray) (i:Nat) (l:List Nm):Prop:=i<=l.length/\(∀ x ∈ l.take i,cmpN x.1 s < 0)/\∀ x ∈ l.drop i,¬ cmpN x.1 s < 0
def isN (s:ByteArray) (i:Nat) (l:List Nm):Bool:=match l[i]? with | some x=>decide (x.1=s) | none=>false
theorem isN_at {s:ByteArray} {i:Nat} {l:List Nm} (h:isN s i l=true):∃ x,l[i]?=some x/\x.1=s:=by
 unfold isN at h
 split at h
 ·rename_i x hx; exact ⟨x,hx,of_decide_eq_true h⟩
 ·cases h
theorem drop_at {α:Type} {l:List α} {i:Nat} {x:α} (h:l[i]?=some x):l.drop i=x :: l.drop (i+1):=by
 obtain ⟨h1,rfl⟩:=List.getElem?_eq_some_iff.1 h
 exact List.drop_eq_getElem_cons h1
theorem pl_gt {s:ByteArray} {i:Nat} {l:List Nm} (hp:PlN s i l) (ha:AscN l) (hi:isN s i l=false):∀ x ∈ l.drop i,cmpN s x.1 < 0:=by
 intro x hx
 have h1:=hp.2.2 x hx
 cases hd:l.drop i with
 | nil=>rw [hd] at hx; cases hx
 | cons y r =>
  have hy:l[i]?=some y:=by
   have:=congrArg (·[0]?) hd
   simpa using this
  have hne:y.1 ≠ s:=by
   unfold isN at hi
   rw [hy] at hi
   exact of_decide_eq_false hi
  have hyl:=hp.2.2 y (by rw [hd]; exact List.mem_cons_self ..)
  have h0:cmpN y.1 s ≠ 0:=fun e=>hne ((cmpN_zero _ _).1 e)
  have hsy:cmpN s y.1 < 0:=by have:=cmpN_anti y.1 s; omega
  rw [hd] at hx
  rcases List.mem_cons.1 hx with rfl | hx
  ·exact hsy
  ·have hsub:AscN (y :: r):=by rw [<- hd]; exact ha.sublist (List.drop_sublist _ _)
   exact cmpN_trans hsy ((List.pairwise_cons.1 hsub).1 x hx)
theorem put_in {s:ByteArray} {v:Int} {i:Nat} {l:List Nm} {x:Nm} (hp:PlN s i l) (hx:l[i]?=some x) (hs:x.1=s):putN (s,v) l=l.set i (s,v):=by
 have hi:=(List.getElem?_eq_some_iff.1 hx).1
 conv=>lhs; rw [<- List.take_append_drop i l]
 rw [putN_app _ hp.2.1,drop_at hx,putN,if_neg (by show ¬ cmpN s x.1 < 0; rw [hs,cmpN_self]; omega),if_pos hs.symm,List.set_eq_take_append_cons_drop,if_pos hi]
theorem put_out {s:ByteArray} {v:Int} {i:Nat} {l:List Nm} (hp:PlN s i l) (ha:AscN l) (hi:isN s i l=false):putN (s,v) l=l.take i ++ (s,v) :: l.drop i:=by
 conv=>lhs; rw [<- List.take_append_drop i l]
 rw [putN_app _ hp.2.1,putN_lt (pl_gt hp ha hi)]
theorem wo_in {s:ByteArray} {i:Nat} {l:List Nm} {x:Nm} (hp:PlN s i l) (ha:AscN l) (hx:l[i]?=some x) (hs:x.1=s):woN s l=l.take i ++ l.drop (i+1):=by
 have hd:=drop_at hx
 conv=>lhs; rw [<- List.take_append_drop i l,hd]
 unfold woN
 rw [List.filter_append,List.filter_cons_of_neg (by simpa using hs)]
 have hsub:AscN (x :: l.drop (i+1)):=by rw [<- hd]; exact ha.sublist (List.drop_sublist _ _)
 congr 1
 ·exact woN_id (fun z hz=>cmp_ne (hp.2.1 z hz))
 ·exact woN_id (fun z hz e=>cmp_ne ((List.pairwise_cons.1 hsub).1 z hz) (by rw [hs,e]))
theorem wo_out {s:ByteArray} {i:Nat} {l:List Nm} (hp:PlN s i l) (ha:AscN l) (hi:isN s i l=false):woN s l=l/\findN s l=none:=by
 have h:∀ z ∈ l,z.1 ≠ s:=by
  intro z hz
  rw [<- List.take_append_drop i l] at hz
  rcases List.mem_append.1 hz with hz | hz
  ·exact cmp_ne (hp.2.1 z hz)
  ·exact fun e=>cmp_ne (pl_gt hp ha hi z hz) e.symm
 exact ⟨woN_id h,findN_none h⟩
theorem find_in {s:ByteArray} {i:Nat} {l:List Nm} {x:Nm} (hp:PlN s i l) (hx:l[i]?=some x) (hs:x.1=s):findN s l=some x.2:=by
 rw [<- List.take_append_drop i l,drop_at hx,findN_app,findN_none (fun z hz=>cmp_ne (hp.2.1 z hz)),findN,if_pos hs]
 rfl
def lastN (l:List Nm):List Nm:=l.foldr putN []
theorem lastN_asc:∀ l,AscN (lastN l)
 | []=>List.Pairwise.nil
 | x :: r=>putN_asc x (lastN_asc r)
theorem lastN_find (s:ByteArray):∀ l,findN s (lastN l)=findN s l
 | []=>rfl
 | x :: r=>by
  show findN s (putN x (lastN r))=_
  rw [putN_find,lastN_find s r,findN]
theorem lastN_len:∀ l,(lastN l).length<=l.length
 | []=>Nat.le_refl _
 | x :: r=>by
  have:=lastN_len r
  have h2:=putN_len x (lastN r)
  show (putN x (lastN r)).length<=_
  rw [List.length_cons]; omega
def cptN (r:List Nm):Nat->List Nm
 | 0=>[]
 | n+1=>cptN r n ++ (if n ≠ 0/\(r[n]?).map (·.1)=(r[n - 1]?).map (·.1) then [] else r[n]?.toList)
theorem cptN_sub (r:List Nm):∀ n d,d ∈ cptN r n->d ∈ r.take n
 | 0,d,h=>by simp [cptN] at h
 | n+1,d,h=>by
  rw [cptN] at h
  rw [List.take_add_one]
  rcases List.mem_append.1 h with h | h
  ·exact List.mem_append_left _ (cptN_sub r n d h)
  ·split at h
   ·cases h
   ·exact List.mem_append_right _ h
theorem cptN_find (s:ByteArray) (r:List Nm):∀ n,findN s (cptN r n)=findN s (r.take n)
 | 0=>by simp [cptN]
 | n+1=>by
  rw [cptN,List.take_add_one,findN_app,findN_app,cptN_find s r n]
  split
  ·rename_i h
   obtain ⟨h0,h⟩:=h
   cases hn:r[n]? with
   | none=>rfl
   | some x =>
    rw [hn] at h
    cases hp:r[n - 1]? with
    | none=>rw [hp] at h; cases h
    | some y =>
     rw [hp] at h
     simp at h
     rw [Option.toList_some]
     by_cases hs:x.1=s
     ·cases hf:findN s (r.take n) with
      | some v=>rfl
      | none =>
       exfalso
       have:r.take n=r.take (n - 1) ++ [y]:=by
        conv=>lhs; rw [show n=(n - 1)+1 by omega,List.take_add_one,hp]
        rfl
       rw [this,findN_app,findN,if_pos (by rw [<- h]; exact hs)] at hf
       cases h5:findN s (r.take (n - 1)) <;> rw [h5] at hf <;> cases hf
     ·have:findN s [x]=none:=by rw [findN,if_neg hs]; rfl
      rw [this]; rfl
  ·rfl
theorem cptN_asc {r:List Nm} (h:r.Pairwise (fun a b=>cmpM a b<=0)):∀ n,n<=r.length->AscN (cptN r n)
 | 0,_=>List.Pairwise.nil
 | n+1,hn=>by
  have ih:=cptN_asc h n (by omega)
  rw [cptN]
  by_cases hc:n ≠ 0/\(r[n]?).map (·.1)=(r[n - 1]?).map (·.1)
  ·rw [if_pos hc,List.append_nil]; exact ih
  ·rw [if_neg hc,List.getElem?_eq_getElem (by omega)]
   refine List.pairwise_append.2 ⟨ih,by simp,fun a ha b hb=>?_⟩
   simp at hb
   subst hb
   have ha':=cptN_sub r n a ha
   obtain ⟨i,hi,hai⟩:=List.mem_iff_getElem.1 ha'
   rw [List.length_take] at hi
   rw [List.getElem_take] at hai
   have hn0:n ≠ 0:=by omega
   have hprev:(r[n - 1]'(by omega)).1 ≠ (r[n]'(by omega)).1:=by
    intro he
    apply hc
    refine ⟨hn0,?_⟩
    rw [List.getElem?_eq_getElem (by omega),List.getElem?_eq_getElem (by omega),Option.map_some,Option.map_some,he]
   have hp:=List.pairwise_iff_getElem.1 h
   have h2:=hp (n - 1) n (by omega) (by omega) (by omega)
   have h2':cmpN (r[n - 1]'(by omega)).1 (r[n]'(by omega)).1 < 0:=by
    have h3:cmpN (r[n - 1]'(by omega)).1 (r[n]'(by omega)).1<=0:=h2
    have h4:cmpN (r[n - 1]'(by omega)).1 (r[n]'(by omega)).1 ≠ 0:=fun e=>hprev ((cmpN_zero _ _).1 e)
    omega
   subst hai
   by_cases hin:i=n - 1
   ·subst hin; exact h2'
   ·have h3:cmpM (r[i]'(by omega)) (r[n - 1]'(by omega))<=0:=hp i (n - 1) (by omega) (by omega) (by omega)
    exact cmpM_ord.le_lt (b:=r[n - 1]'(by omega)) h3 h2'
theorem ins_find (s:ByteArray) (x:Nm):∀ {a:List Nm},a.Pairwise (fun a b=>cmpM a b<=0)->findN s (ins cmpM x a)=(findN s a).or (if x.1=s then some x.2 else none)
 | [],_=>by simp [ins,findN]
 | y :: r,h=>by
  have c:=List.pairwise_cons.1 h
  rw [ins]
  split
  ·rename_i h1
   rw [findN]
   by_cases hs:x.1=s
   ·rw [if_pos hs,if_pos hs,findN_none (l:=y :: r)]
    ·rfl
    ·intro z hz
     have hxz:cmpM x z < 0:=by
      rcases List.mem_cons.1 hz with rfl | hz
      ·exact h1
      ·exact cmpM_ord.lt_le h1 (c.1 z hz)
     rw [<- hs]
     exact fun e=>cmp_ne (a:=x.1) (b:=z.1) hxz e.symm
   ·rw [if_neg hs,if_neg hs]; simp
  ·rw [findN,ins_find s x c.2,findN]
   split <;> simp
theorem stab_weak (l:List Nm):(stab cmpM l).Pairwise (fun a b=>cmpM a b<=0):=by
 obtain ⟨m,h1,h2,h3⟩:=stab_spec cmpM_ord l
 rw [<- h3,List.pairwise_map]
 exact h1.imp (fun h=>by rcases h with h | h <;> omega)
theorem stab_find (s:ByteArray) (l:List Nm):findN s (stab cmpM l)=findN s l :=
 snoc_ind (P:=fun l=>findN s (stab cmpM l)=findN s l) rfl (fun l x ih=>by rw [stab_snoc,ins_find s x (stab_weak l),ih,findN_app]; rfl) l
theorem last_eq (l:List Nm):cptN (stab cmpM l) l.length=lastN l:=by
 refine ascN_ext (cptN_asc (stab_weak l) _ (by rw [stab_len]; exact Nat.le_refl _)) (lastN_asc l) (fun s=>?_)
 rw [cptN_find,List.take_of_length_le (by rw [stab_len]; exact Nat.le_refl _),stab_find,lastN_find]
structure Ch where
 k:Int
 nm:ByteArray
 to:ByteArray
 id:Int
def encC (c:Ch):List Value:=[.int .i64 c.k,.string c.nm,.string c.to,.int .i64 c.id]
theorem encC_o:EncO Ch encC 4:=⟨fun _=>rfl,fun x v hv=>by simp [encC] at hv; rcases hv with rfl | rfl | rfl | rfl <;> rfl⟩
def stepN (l:List Nm) (c:Ch):List Nm :=
 if c.k=1 then putN (c.nm,c.id) l
 else if c.k=2 then (match findN c.nm l with | some id=>putN (c.to,id) (woN c.nm l) | none=>l)
 else if c.k=3 then woN c.nm l else l
theorem stepN_asc (c:Ch) {l:List Nm} (h:AscN l):AscN (stepN l c):=by
 unfold stepN
 split
 ·exact putN_asc _ h
 ·split
  ·split
   ·exact putN_asc _ (woN_asc _ h)
   ·exact h
  ·split
   ·exact woN_asc _ h
   ·exact h
theorem stepN_len (c:Ch) (l:List Nm):(stepN l c).length<=l.length+1:=by
 unfold stepN
 split
 ·exact putN_len _ _
 ·split
  ·split
   ·have:=putN_len (c.to,‹Int›) (woN c.nm l)
    have:=woN_len c.nm l
    omega
   ·omega
  ·split
   ·have:=woN_len c.nm l; omega
   ·omega
def behN (L:List Nm) (P:List Ch):List Nm:=P.foldl stepN (lastN L)
theorem behN_snoc (L:List Nm) (P:List Ch) (c:Ch):behN L (P ++ [c])=stepN (behN L P) c:=by unfold behN; rw [List.foldl_append]; rfl
theorem behN_step {L:List Nm} {P:List Ch} {i:Nat} {c:Ch} (h:P[i]?=some c):behN L (P.take (i+1))=stepN (behN L (P.take i)) c:=by
 rw [List.take_add_one,h,Option.toList_some,behN_snoc]
theorem behN_asc (L:List Nm) (P:List Ch):AscN (behN L P):=snoc_ind (P:=fun P=>AscN (behN L P)) (lastN_asc L) (fun l x ih=>by rw [behN_snoc]; exact stepN_asc _ ih) P
theorem behN_len (L:List Nm) (P:List Ch):(behN L P).length<=L.length+P.length:=snoc_ind (P:=fun P=>(behN L P).length<=L.length+P.length) (lastN_len L) (fun l x ih=>by
 have:=stepN_len x (behN L l)
 rw [behN_snoc,List.length_append,List.length_singleton]; omega) P
def NRow (w:World) (B:Nat) (A:Option Addr) (n c:Nat) (l:List Nm):Prop:=Row w B 160 2 A n c (flt encN l)/\l.length=n
def NSl (w:World) (A:Option Addr) (n:Nat) (l:List Nm):Prop:=Sl w 2 A n (flt encN l)/\l.length=n
theorem NRow.sl {w:World} {B:Nat} {A:Option Addr} {n c:Nat} {l:List Nm} (h:NRow w B A n c l):NSl w A n l:=⟨h.1.sl,h.2⟩
theorem NRow.fr0 {w w':World} {B:Nat} {A:Option Addr} {n c:Nat} {l:List Nm} (h:NRow w B A n c l) (f:Fr (fun _=>False) w w'):NRow w' B A n c l:=⟨f.row h.1 (fun _ _ h=>h),h.2⟩
theorem NSl.fr0 {w w':World} {A:Option Addr} {n:Nat} {l:List Nm} (h:NSl w A n l) (f:Fr (fun _=>False) w w'):NSl w' A n l:=⟨f.sl h.1 (fun _ _ _ h=>h),h.2⟩
theorem n_rd {w:World} {A:Option Addr} {n:Nat} {l:List Nm} (h:NSl w A n l) {i:Nat} {x:Nm} (hi:l[i]?=some x) {ii:Int} (hii:ii=(i:Int)) {K:List Value->Prop} (hK:K (encN x)) :
  dr A fun b o=>gd (decide (0<=ii)) (gd (decide (ii < ((n:Nat):Int))) (ldA 2 w b (o+ii.toNat * 2) K)) :=
 el_rd h.1 (fun x _=>rfl) hi hii h.2 (fun b o hA hc=>⟨encN x,rfl,hc,hK⟩)
theorem n_rdI {w:World} {A:Option Addr} {n:Nat} {l:List Nm} (h:NSl w A n l) {i:Nat} {x:Nm} (hi:l[i]?=some x) {ii:Int} (hii:ii=(i:Int)) {K:Int->Prop} (hK:K x.2) :
  dr A fun b o=>gd (decide (0<=ii)) (gd (decide (ii < ((n:Nat):Int))) (ldI .i64 w b ((o+ii.toNat * 2)+1) K)) :=
 el_rd h.1 (fun x _=>rfl) hi hii h.2 (fun b o hA hc=>⟨x.2,hc 1 _ rfl,hK⟩)
theorem byName_calls (x:Nm) (s:ByteArray) (w:World) :
  Calls Tryz.prog 90 #[ofL (encN x),.string s] w fun e w'=>e=.returned (.int .i64 (cmpN x.1 s))/\Fr (fun _=>False) w w':=by
 refine (F90.of _ s w (Q:=fun v w'=>v=.int .i64 (cmpN x.1 s)/\Fr (fun _=>False) w w') ?_).mono (fun e w' ⟨v,he,hv,h⟩=>⟨by rw [he,hv],h⟩)
 refine nw_mk ?_
 have f1:Fr (fun _=>False) w (w.alloc (.cells (encN x).toArray 160)):=Fr.alloc _ _ _
 have r1:=RecAt.new w (encN x) 160
 generalize w.alloc (.cells (encN x).toArray 160)=w1 at f1 r1 ⊢
 refine ⟨x.1,r1.cell rfl,(strcmp_calls x.1 s w1).mono ?_⟩
 rintro r w2 ⟨rfl,rfl⟩
 exact ⟨_,rfl,rfl,f1⟩
theorem two_new (x y:Nm) (w:World) {K:Nat->Nat->World->Prop} (hK:∀ b1 b2 w',Fr (fun _=>False) w w'->RecAt w' b1 160 (encN x)->RecAt w' b2 160 (encN y)->K b1 b2 w'):nw w (encN x) 160 fun b1 w1=>nw w1 (encN y) 160 fun b2 w2=>K b1 b2 w2:=by
 refine nw_mk (nw_mk ?_)
 have f1:Fr (fun _=>False) w (w.alloc (.cells (encN x).toArray 160)):=Fr.alloc _ _ _
 have r1:=RecAt.new w (encN x) 160
 generalize w.alloc (.cells (encN x).toArray 160)=w1 at f1 r1 ⊢
 have f2:Fr (fun _=>False) w1 (w1.alloc (.cells (encN y).toArray 160)):=Fr.alloc _ _ _
 exact hK _ _ _ (f1.trans1 f2) (r1.fr f2 (fun h=>h)) (RecAt.new w1 (encN y) 160)
theorem lcmp_calls (x y:Nm) (w:World) :
  Calls Tryz.prog 157 #[ofL (encN x),ofL (encN y)] w fun e w'=>e=.returned (.int .i64 (cmpM x y))/\Fr (fun _=>False) w w':=by
 refine (F157.of _ _ w (Q:=fun v w'=>v=.int .i64 (cmpM x y)/\Fr (fun _=>False) w w') ?_).mono (fun e w' ⟨v,he,hv,h⟩=>⟨by rw [he,hv],h⟩)
 refine two_new x y w (fun b1 b2 w1 f r1 r2=>⟨x.1,r1.cell rfl,y.1,r2.cell rfl,(strcmp_calls x.1 y.1 w1).mono ?_⟩)
 rintro r w2 ⟨rfl,rfl⟩
 exact ⟨_,rfl,rfl,f⟩
theorem leq_calls (x y:Nm) (w:World) :
  Calls Tryz.prog 159 #[ofL (encN x),ofL (encN y)] w fun e w'=>e=.returned (.bool (decide (x.1=y.1)))/\Fr (fun _=>False) w w':=by
 refine (F159.of _ _ w (Q:=fun v w'=>v=.bool (decide (x.1=y.1))/\Fr (fun _=>False) w w') ?_).mono (fun e w' ⟨v,he,hv,h⟩=>⟨by rw [he,hv],h⟩)
 refine two_new x y w (fun b1 b2 w1 f r1 r2=>⟨x.1,r1.cell rfl,y.1,r2.cell rfl,?_,f⟩)
 rw [neq]
theorem lsrt:StbNm.Srt Nm encN cmpM:=⟨fun _=>rfl,encN_o.one,cmpM_ord,lcmp_calls⟩
theorem mem_take_lt {α:Type} {l:List α} {i:Nat} {x:α} (h:x ∈ l.take i):∃ j,j < i/\l[j]?=some x:=by
 obtain ⟨j,hj⟩:=List.mem_iff_getElem?.1 h
 rw [List.getElem?_take] at hj
 split at hj
 ·exact ⟨j,by assumption,hj⟩
 ·cases hj
theorem mem_drop_ge {α:Type} {l:List α} {i:Nat} {x:α} (h:x ∈ l.drop i):∃ j,i<=j/\l[j]?=some x:=by
 obtain ⟨j,hj⟩:=List.mem_iff_getElem?.1 h
 rw [List.getElem?_drop] at hj
 exact ⟨i+j,by omega,hj⟩
theorem asc_lt {l:List Nm} (h:AscN l) {i j:Nat} {x y:Nm} (hi:l[i]?=some x) (hj:l[j]?=some y) (hij:i < j):cmpN x.1 y.1 < 0:=by
 obtain ⟨h1,rfl⟩:=List.getElem?_eq_some_iff.1 hi
 obtain ⟨h2,rfl⟩:=List.getElem?_eq_some_iff.1 hj
 exact (List.pairwise_iff_getElem.1 h) i j h1 h2 hij
theorem bsN_calls (A:Option Addr) (n c:Nat) (l:List Nm) (nm:ByteArray) (w:World) (h:NSl w A n l) (ha:AscN l) (hn:n<=17179869184) :
  Calls Tryz.prog 89 #[.slice A n c,.string nm,.func (.func 90) #[] #[]] w fun e w'=>Fr (fun _=>False) w w'/\∃ i:Nat,e=.returned (.tuple #[.int .i64 i,.bool (isN nm i l)])/\PlN nm i l:=by
 refine (F89s.of A n c nm w (Q:=fun v w'=>Fr (fun _=>False) w w'/\∃ i:Nat,v=.tuple #[.int .i64 i,.bool (isN nm i l)]/\PlN nm i l) ?_).mono (fun e w' ⟨v,he,hf,i,hv,h⟩=>⟨hf,i,by rw [he,hv],h⟩)
 have hl:=h.2
 refine jnC_mk (loop_rule (fun s u=>Fr (fun _=>False) w u/\∃ i j:Nat,i<=j/\j<=n/\s=((A,n,c),nm,(),(n:Int),(i:Int),(j:Int),())/\(∀ x ∈ l.take i,cmpN x.1 nm < 0)/\∀ x ∈ l.drop j,¬ cmpN x.1 nm < 0)
  (fun s _=>(s.2.2.2.2.2.1 - s.2.2.2.2.1).toNat) ?_ _ _ ⟨Fr.refl _ _,0,n,by omega,by omega,rfl,by simp,by rw [List.drop_of_length_le (by omega)]; intro x hx; cases hx⟩)
 rintro s u C ⟨hf,i,j,hij,hjn,rfl,hlo,hhi⟩ hC _
 refine vIf_mk (fun hlt=>?_) (fun hge=>?_)
 ·have hlt2:(i:Int) < (j:Int):=of_decide_eq_true hlt
  have em:IntKind.wrap .i64 (Int.fdiv (IntKind.wrap .u64 (IntKind.wrap .i64 ((i:Int)+(j:Int)))) (2 ^ 1))=(((i+j) / 2:Nat):Int):=by
   rw [i64_id (n:=(i:Int)+(j:Int)) (by omega) (by omega),IntKind.wrap_u64,Int.fdiv_eq_ediv_of_nonneg _ (by decide),i64_id (by omega) (by omega)]; omega
  have gi:l[(i+j) / 2]?=some (l[(i+j) / 2]'(by omega)):=List.getElem?_eq_getElem (by omega)
  generalize l[(i+j) / 2]'(by omega)=x at gi
  dsimp only
  rw [em]
  refine n_rd (h.fr0 hf) gi rfl ((byName_calls x nm u).mono ?_)
  rintro r u2 ⟨rfl,f2⟩
  refine ⟨_,rfl,vIf_mk (fun h1=>jnC_mk (hC _ _ ⟨hf.trans1 f2,(i+j) / 2+1,j,by omega,hjn,by rw [ei _ (by omega)],fun y hy=>?_,hhi⟩ ?_)) (fun h1=>jnC_mk (hC _ _ ⟨hf.trans1 f2,i,(i+j) / 2,by omega,by omega,rfl,hlo,fun y hy=>?_⟩ ?_))⟩
  ·have h1:=of_decide_eq_true h1
   obtain ⟨q,hq,hy⟩:=mem_take_lt hy
   by_cases hqm:q=(i+j) / 2
   ·rw [hqm] at hy; rw [gi] at hy; injection hy with hy; subst hy; exact h1
   ·exact cmpN_trans (asc_lt ha hy gi (by omega)) h1
  ·show ((j:Int) - IntKind.wrap .i64 ((((i+j) / 2:Nat):Int)+1)).toNat < ((j:Int) - (i:Int)).toNat
   rw [ei _ (by omega)]; omega
  ·have h1:=of_decide_eq_false h1
   obtain ⟨q,hq,hy⟩:=mem_drop_ge hy
   by_cases hqm:q=(i+j) / 2
   ·rw [hqm] at hy; rw [gi] at hy; injection hy with hy; subst hy; exact h1
   ·intro h2
    exact h1 (cmpN_trans (asc_lt ha gi hy (by omega)) h2)
  ·show ((((i+j) / 2:Nat):Int) - (i:Int)).toNat < ((j:Int) - (i:Int)).toNat
   omega
 ·have hge2:¬ (i:Int) < (j:Int):=of_decide_eq_false hge
  have hij2:i=j:=by omega
  subst hij2
  have hpl:PlN nm i l:=⟨by omega,hlo,hhi⟩
  refine vIf_mk (fun h1=>?_) (fun h1=>?_)
  ·have h1:(i:Int) < (n:Int):=of_decide_eq_true h1
   have gi:l[i]?=some (l[i]'(by omega)):=List.getElem?_eq_getElem (by omega)
   generalize l[i]'(by omega)=x at gi
   refine n_rd (h.fr0 hf) gi rfl ((byName_calls x nm u).mono ?_)
   rintro r u2 ⟨rfl,f2⟩
   refine ⟨_,rfl,hf.trans1 f2,i,?_,hpl⟩
   have:isN nm i l=(cmpN x.1 nm == 0):=by
    unfold isN
    rw [gi,Bool.eq_iff_iff,decide_eq_true_iff,beq_iff_eq]
    exact (cmpN_zero _ _).symm
   rw [this]
  ·have h1:¬ (i:Int) < (n:Int):=of_decide_eq_false h1
   refine ⟨hf,i,?_,hpl⟩
   have:isN nm i l=false:=by
    unfold isN
    rw [List.getElem?_eq_none (by omega)]
   rw [this]
theorem row_clearN {w:World} {B:Nat} {b n c k:Nat} {P:List Nm} {K:World->Prop} (hr:NRow w B (some ⟨b,0,none⟩) n c P) (hk:k < n)
  (hK:∀ w',NRow w' B (some ⟨b,0,none⟩) k c (P.take k)->Fr (fun j=>j=b) w w'->K w'):dr (slA (some (⟨b,0,none⟩:Addr)) c k 2) fun b o=>st w b o (zeros (n - k) [.string (⟨#[]⟩:ByteArray),.int .i64 0]) K:=by
 have hle:=hr.1.le
 have hPl:=hr.2
 have hzl:(zeros (n - k) [Value.string (⟨#[]⟩:ByteArray),.int .i64 0]).length=(n - k) * 2:=by rw [zeros_length]; rfl
 have hpt:=row_putG (o':=k * 2) (us:=zeros (n - k) [Value.string (⟨#[]⟩:ByteArray),.int .i64 0]) (K:=K) hr.1 (by omega) (by rw [hzl]; omega) (zeros_one (by simp; exact ⟨rfl,rfl⟩)) (fun w6 hr6 f6=>hK w6 ⟨?_,by rw [List.length_take]; omega⟩ (f6.mono (fun j _ hj=>by simpa [blkOf] using hj.symm)))
 ·rw [slS (by omega),<- Nat.zero_add (k * 2)]
  exact hpt
 ·have h7:=row_cutG hr6 (k:=k) (by omega)
  have e:(splice (flt encN P) (k * 2) (zeros (n - k) [Value.string (⟨#[]⟩:ByteArray),.int .i64 0])).take (k * 2)=flt encN (P.take k):=by
   rw [<- encN_o.ft P (by omega)]
   unfold splice
   rw [List.append_assoc,List.take_append_of_le_length (by rw [List.length_take,encN_o.fl]; omega),List.take_take,Nat.min_self]
  rw [e] at h7
  exact h7
set_option maxHeartbeats 1000000 in
theorem compactN_calls (B:Nat) (A:Option Addr) (c:Nat) (r:List Nm) (n:Nat) (w:World) (h:NRow w B A n c r) (hn:n<=1099511627775) :
  Calls Tryz.prog 158 #[.slice A n c,.func (.func 159) #[] #[]] w fun e' w'=>e'=.returned (.slice A (cptN r n).length c)/\Fr (fun k=>blkOf A=some k) w w'/\NRow w' B A (cptN r n).length c (cptN r n):=by
 refine (F158s.of A n c w (Q:=fun v w'=>v=.slice A (cptN r n).length c/\Fr (fun k=>blkOf A=some k) w w'/\NRow w' B A (cptN r n).length c (cptN r n)) ?_).mono (fun e w' ⟨v,he,hv,h⟩=>⟨by rw [he,hv],h⟩)
 have hrl:=h.2
 have whole:∀ i,i<=n->cptN r i=r.take i->i=n->∀ u,Fr (fun k=>blkOf A=some k) w u->NRow u B A n c r->(Value.slice A n c=.slice A (cptN r n).length c/\Fr (fun k=>blkOf A=some k) w u/\NRow u B A (cptN r n).length c (cptN r n)):=by
  intro i hi hc he u hf hr
  subst he
  rw [hc,List.take_of_length_le (by omega),hrl]
  exact ⟨rfl,hf,hr⟩
 have one:1<=n->cptN r 1=r.take 1:=fun _=>by simp [cptN,List.take_one,List.head?_eq_getElem?]
 refine vIf_mk (fun h2=>?_) (fun h2=>jnC_mk ?_)
 ·have h2:(n:Int) < 2:=of_decide_eq_true h2
  refine whole n (Nat.le_refl _) ?_ rfl w (Fr.refl _ _) h
  match n,h2,one with
  | 0,_,_=>rfl
  | 1,_,one=>exact one (Nat.le_refl _)
  | n+2,h2,_=>omega
 have h2:¬ (n:Int) < 2:=of_decide_eq_false h2
 have hle:=h.1.le
 obtain ⟨b,hA⟩:∃ b,A=some ⟨b,0,none⟩:=by
  rcases h.1.at_ with ⟨_,h0,_⟩ | ⟨b,_,hA,_⟩
  ·omega
  ·exact ⟨b,hA⟩
 subst hA
 refine loop_rule (fun s u=>Fr (fun k=>blkOf (some (⟨b,0,none⟩:Addr))=some k) w u/\NRow u B (some ⟨b,0,none⟩) n c r/\∃ i:Nat,1<=i/\i<=n/\s=((some ⟨b,0,none⟩,n,c),(),(i:Int),())/\cptN r i=r.take i)
  (fun s _=>(n - s.2.2.1).toNat) ?_ _ _ ⟨Fr.refl _ _,h,1,by omega,by omega,rfl,one (by omega)⟩
 rintro s u C4 ⟨hf,hr,i,hi1,hi,rfl,hc⟩ hC4 _
 refine vIf_mk (fun hlt=>?_) (fun hge=>?_)
 ·have hlt2:(i:Int) < (n:Int):=of_decide_eq_true hlt
  have hrd:=hr.fr0 (Fr.drew (fun _=>False) u)
  have ei1:IntKind.wrap .i64 ((i:Int) - 1)=((i - 1:Nat):Int):=by rw [i64_id (by omega) (by omega)]; omega
  have gi:r[i]?=some (r[i]'(by omega)):=List.getElem?_eq_getElem (by omega)
  have gp:r[i - 1]?=some (r[i - 1]'(by omega)):=List.getElem?_eq_getElem (by omega)
  generalize r[i]'(by omega)=x at gi
  generalize r[i - 1]'(by omega)=y at gp
  dsimp only
  rw [ei1]
  refine n_rd hrd.sl gi rfl (n_rd hrd.sl gp rfl ((leq_calls x y u.drew).mono ?_))
  rintro e1 u1 ⟨rfl,f1⟩
  have hr1:=hrd.fr0 f1
  have hf1:Fr (fun k=>blkOf (some (⟨b,0,none⟩:Addr))=some k) w u1:=(hf.trans1 (Fr.drew _ _)).trans1 (f1.mono (fun _ _ h=>h.elim))
  refine ⟨_,rfl,vIf_mk (fun he=>?_) (fun hne=>?_)⟩
  ·have he:x.1=y.1:=of_decide_eq_true he
   have hsame:cptN r (i+1)=r.take i:=by
    rw [cptN,if_pos ⟨by omega,by rw [gi,gp,Option.map_some,Option.map_some,he]⟩,List.append_nil,hc]
   refine gd_mk (decide_eq_true (by omega)) (gd_mk (decide_eq_true (by omega)) (jnC_mk ?_))
   rw [Int.toNat_natCast]
   have hsl:slA (some (⟨b,0,none⟩:Addr)) c i 2=some ⟨b,i * 2,none⟩:=slS (by omega)
   rw [hsl]
   refine loop_rule (fun s u=>Fr (fun k=>blkOf (some (⟨b,0,none⟩:Addr))=some k) w u/\∃ (j:Nat) (P:List Nm),1<=j/\i+j<=n/\P.length=n/\NRow u B (some ⟨b,0,none⟩) n c P/\(cptN r (i+j)).length < i+j/\P.take (cptN r (i+j)).length=cptN r (i+j)/\P.drop (cptN r (i+j)).length=r.drop (cptN r (i+j)).length /\
     s=((some ⟨b,0,none⟩,n,c),(),(((cptN r (i+j)).length:Nat):Int),(some ⟨b,i * 2,none⟩,n - i,c - i),(j:Int),()))
    (fun s _=>(n - s.2.2.2.2.1).toNat) ?_ _ _ ⟨hf1,1,r,by omega,by omega,hrl,hr1,?_,?_,?_,?_⟩
   rotate_left
   ·rw [hsame,List.length_take]; omega
   ·rw [hsame,List.length_take,Nat.min_eq_left (by omega)]
   ·rfl
   ·rw [hsame,List.length_take,Nat.min_eq_left (by omega)]; rfl
   clear hC4 hf hr hrd hr1 hf1 f1 gi gp he hlt hlt2 ei1
   rintro s u C9 ⟨hf,j,P,hj1,hjn,hPl,hr,hk,htk,hdp,rfl⟩ hC9 _
   generalize hkk:(cptN r (i+j)).length=k at hk htk hdp
   have hrd:=hr.fr0 (Fr.drew (fun _=>False) u)
   have hget:∀ q,k<=q->P[q]?=r[q]?:=by
    intro q hq
    have h1:(P.drop k)[q - k]?=(r.drop k)[q - k]?:=by rw [hdp]
    rw [List.getElem?_drop,List.getElem?_drop,show k+(q - k)=q by omega] at h1
    exact h1
   have tail:∀ v,NRow v B (some ⟨b,0,none⟩) n c P->NSl v (some (⟨b,i * 2,none⟩:Addr)) (n - i) (P.drop i):=by
    intro v hv
    have:=hv.1.tailS (k:=i) (by omega)
    rw [hsl,encN_o.fd P (by omega)] at this
    exact ⟨this,by rw [List.length_drop]; omega⟩
   refine vIf_mk (fun hlt=>?_) (fun hge=>?_)
   ·have hlt3:(j:Int) < ((n - i:Nat):Int):=of_decide_eq_true hlt
    have ej:IntKind.wrap .i64 ((j:Int) - 1)=((j - 1:Nat):Int):=by rw [i64_id (by omega) (by omega)]; omega
    have gi:r[i+j]?=some (r[i+j]'(by omega)):=List.getElem?_eq_getElem (by omega)
    have gp:r[i+j - 1]?=some (r[i+j - 1]'(by omega)):=List.getElem?_eq_getElem (by omega)
    generalize r[i+j]'(by omega)=x at gi
    generalize r[i+j - 1]'(by omega)=y at gp
    have ti:(P.drop i)[j]?=some x:=by rw [List.getElem?_drop,hget _ (by omega),gi]
    have tp:(P.drop i)[j - 1]?=some y:=by rw [List.getElem?_drop,show i+(j - 1)=i+j - 1 by omega,hget _ (by omega),gp]
    dsimp only
    rw [ej]
    refine n_rd (tail _ hrd) ti rfl (n_rd (tail _ hrd) tp rfl ((leq_calls x y u.drew).mono ?_))
    rintro e1 u1 ⟨rfl,f1⟩
    have hr1:=hrd.fr0 f1
    have hf1:Fr (fun k=>blkOf (some (⟨b,0,none⟩:Addr))=some k) w u1:=(hf.trans1 (Fr.drew _ _)).trans1 (f1.mono (fun _ _ h=>h.elim))
    have enext:IntKind.wrap .i64 ((j:Int)+1)=((j+1:Nat):Int):=by rw [i64_id (by omega) (by omega)]; rfl
    have hmeas:((n:Int) - IntKind.wrap .i64 ((j:Int)+1)).toNat < ((n:Int) - (j:Int)).toNat:=by rw [enext]; omega
    refine ⟨_,rfl,vIf_mk (fun hne=>?_) (fun he=>?_)⟩
    ·have hne2:¬ x.1=y.1:=by simpa using hne
     have hnx:cptN r (i+(j+1))=cptN r (i+j) ++ [x]:=by
      rw [<- Nat.add_assoc,cptN,if_neg,gi,Option.toList_some]
      rintro ⟨_,h'⟩
      rw [gi,gp] at h'
      exact hne2 (Option.some.inj h')
     refine n_rd (tail _ hr1) ti rfl ?_
     refine el_put (enc:=encN) hr1.1 (fun _ _=>rfl) hr1.2 (i:=k) (by omega) rfl (y:=x) rfl (encN_o.one x) (fun u2 hr2 f2=>jnC_mk (hC9 _ _ ⟨hf1.trans1 f2,j+1,P.set k x,by omega,by omega,by simpa using hPl,⟨hr2,by simpa using hPl⟩,?_,?_,?_,?_⟩ hmeas))
     ·rw [hnx,List.length_append,hkk]; simp; omega
     ·rw [hnx,List.length_append,hkk]
      show (P.set k _).take (k+1)=_
      rw [List.take_add_one,List.getElem?_set_self (by omega),Option.toList_some,List.take_set_of_le (Nat.le_refl k),htk]
     ·rw [hnx,List.length_append,hkk]
      show (P.set k _).drop (k+1)=r.drop (k+1)
      rw [List.drop_set_of_lt (by omega)]
      have h3:=congrArg (List.drop 1) hdp
      rw [List.drop_drop,List.drop_drop] at h3
      exact h3
     ·rw [hnx,List.length_append,hkk,enext]
      show (_,_,IntKind.wrap .i64 ((k:Int)+1),_,_,())=_
      rw [i64_id (by omega) (by omega)]; rfl
    ·have he2:x.1=y.1:=by simpa using he
     have hnx:cptN r (i+(j+1))=cptN r (i+j):=by
      rw [<- Nat.add_assoc,cptN,if_pos ⟨by omega,by rw [gi,gp,Option.map_some,Option.map_some,he2]⟩,List.append_nil]
     exact jnC_mk (hC9 _ _ ⟨hf1,j+1,P,by omega,by omega,hPl,hr1,by rw [hnx,hkk]; omega,by rw [hnx,hkk]; exact htk,by rw [hnx,hkk]; exact hdp,by rw [hnx,hkk,enext]⟩ hmeas)
   ·have hge3:¬ (j:Int) < ((n - i:Nat):Int):=of_decide_eq_false hge
    have hij:i+j=n:=by omega
    rw [hij] at hkk htk
    dsimp only
    simp only [Int.toNat_natCast]
    refine gd_mk (decide_eq_true (by omega)) (gd_mk (decide_eq_true (by omega)) (vIf_f (by simp; omega) ?_))
    refine row_clearN hr (by omega) (fun u2 hr2 f2=>jnC_mk (fun _=>?_))
    refine gd_mk (decide_eq_true (by show (0:Int)<=(k:Int); omega)) (gd_mk (decide_eq_true (by show (k:Int)<=(c:Int); omega)) ⟨?_,hf.trans1 (f2.mono (fun q _ hq=>by subst hq; rfl)),?_⟩)
    ·show Value.slice (slA (some ⟨b,0,none⟩) c 0 2) ((k:Int).toNat) c=_
     rw [Int.toNat_natCast,hkk,sl0]
    ·rw [hkk]
     rw [htk] at hr2
     exact hr2
  ·have hne2:¬ x.1=y.1:=of_decide_eq_false hne
   refine jnC_mk (hC4 _ _ ⟨hf1,hr1,i+1,by omega,by omega,?_,?_⟩ ?_)
   ·show (_,_,IntKind.wrap .i64 ((i:Int)+1),())=_
    rw [i64_id (by omega) (by omega)]; rfl
   ·rw [cptN,if_neg,hc,List.take_add_one]
    rintro ⟨_,h'⟩
    rw [gi,gp] at h'
    exact hne2 (Option.some.inj h')
   ·show ((n:Int) - IntKind.wrap .i64 ((i:Int)+1)).toNat < ((n:Int) - (i:Int)).toNat
    rw [i64_id (by omega) (by omega)]; omega
 ·have hge2:¬ (i:Int) < (n:Int):=of_decide_eq_false hge
  exact whole i hi hc (by omega) u hf hr
theorem fr_own {S:Nat->Prop} {w u v:World} {A:Option Addr} {b:Nat} (f:Fr (fun _=>False) w u) (hb:∀ k,blkOf A=some k->b<=k) (hw:w.heap.size<=b) (g:Fr (fun k=>blkOf A=some k) u v):Fr S w v :=
 f.trans g (fun _ _ h=>h.elim) (fun k hk h=>by have:=hb k h; omega)
theorem lasts_calls (A:Option Addr) (n c:Nat) (L:List Nm) (p:Value) (w:World) (h:NSl w A n L) (hn:n<=1073741824) :
  Calls Tryz.prog 139 #[ofL [.slice A n c,p]] w fun e w'=>Fr (fun _=>False) w w'/\∃ A' c',e=.returned (.slice A' (lastN L).length c')/\NRow w' w.heap.size A' (lastN L).length c' (lastN L):=by
 refine (F139.of _ w (Q:=fun v w'=>Fr (fun _=>False) w w'/\∃ A' c',v=.slice A' (lastN L).length c'/\NRow w' w.heap.size A' (lastN L).length c' (lastN L)) ?_).mono (fun e w' ⟨v,he,hf,A',c',hv,h⟩=>⟨hf,A',c',by rw [he,hv],h⟩)
 refine nw_mk ?_
 have f1:Fr (fun _=>False) w (w.alloc (.cells [Value.slice A n c,p].toArray 81)):=Fr.alloc _ _ _
 have r1:=RecAt.new w [Value.slice A n c,p] 81
 generalize w.alloc (.cells [Value.slice A n c,p].toArray 81)=w1 at f1 r1 ⊢
 have hsz:=f1.size
 refine ⟨A,n,c,r1.cell rfl,(ClnNm.clone_calls A n c _ w1 (h.fr0 f1).1 (encN_o.fo L) hn).mono ?_⟩
 rintro r w2 ⟨f2,A2,c2,rfl,h2⟩
 refine ⟨_,_,_,rfl,(StbNm.sortStable_calls lsrt w1.heap.size A2 n c2 L w2 h2 h.2 (by omega)).mono ?_⟩
 rintro r w3 ⟨rfl,f3,h3⟩
 refine ⟨rfl,(compactN_calls w1.heap.size A2 c2 (stab cmpM L) n w3 ⟨h3,by rw [stab_len]; exact h.2⟩ (by omega)).mono ?_⟩
 have hc:cptN (stab cmpM L) n=lastN L:=by rw [<- h.2]; exact last_eq L
 rw [hc]
 rintro r w4 ⟨rfl,f4,h4⟩
 have hA2:∀ k,blkOf A2=some k->w1.heap.size<=k:=fun k hk=>(h2.blt hk).1
 refine ⟨_,_,_,rfl,fr_own (f1.trans1 f2) hA2 (by omega) (f3.trans1 f4),A2,c2,rfl,⟨?_,h4.2⟩⟩
 exact row_low hsz h4.1
theorem set_calls (B:Nat) (A:Option Addr) (n c:Nat) (l:List Nm) (s:ByteArray) (v:Int) (w:World) (h:NRow w B A n c l) (ha:AscN l) (hB:B<=w.heap.size) (hn:n<=1073741824) :
  Calls Tryz.prog 160 #[.slice A n c,.string s,.int .i64 v] w fun e w'=>Fr (fun k=>blkOf A=some k) w w'/\∃ A' c',e=.returned (.slice A' (putN (s,v) l).length c')/\NRow w' B A' (putN (s,v) l).length c' (putN (s,v) l):=by
 refine (F160.of A n c s v w (Q:=fun v' w'=>Fr (fun k=>blkOf A=some k) w w'/\∃ A' c',v'=.slice A' (putN (s,v) l).length c'/\NRow w' B A' (putN (s,v) l).length c' (putN (s,v) l)) ?_).mono (fun e w' ⟨v,he,hf,A',c',hv,h⟩=>⟨hf,A',c',by rw [he,hv],h⟩)
 refine (bsN_calls A n c l s w h.sl ha (by omega)).mono ?_
 rintro r w2 ⟨f2,i,rfl,hp⟩
 have h2:=h.fr0 f2
 have hin:=hp.1
 have hl:=h.2
 refine ⟨_,_,rfl,vIf_mk (fun hi=>?_) (fun hi=>?_)⟩
 ·obtain ⟨x,hx,hs⟩:=isN_at hi
  have hil:=(List.getElem?_eq_some_iff.1 hx).1
  have hpt:=row_putG (o':=i * 2+1) (us:=[Value.int .i64 v]) (K:=fun w'=>Fr (fun k=>blkOf A=some k) w w'/\∃ A' c',Value.slice A n c=.slice A' (putN (s,v) l).length c'/\NRow w' B A' (putN (s,v) l).length c' (putN (s,v) l)) h2.1 (by omega) (by simp; omega) (by simp; rfl) (fun w6 hr6 f6=>?_)
  ·rw [dr_iff] at hpt
   obtain ⟨b,o,hA,hpt⟩:=hpt
   rw [hA]
   refine dr_mk (gd_mk (decide_eq_true (by omega)) (gd_mk (decide_eq_true (by omega)) ?_))
   rw [Int.toNat_natCast,<- hA]
   exact hpt
  ·rw [put_in hp hx hs,List.length_set,hl]
   refine ⟨(f2.mono (fun _ _ h=>h.elim)).trans1 f6,A,c,rfl,?_,by rw [List.length_set,hl]⟩
   have e:splice (flt encN l) (i * 2+1) [Value.int .i64 v]=flt encN (l.set i (s,v)):=by
    rw [<- flt_set (enc:=encN) (sz:=2) (fun _ _=>rfl) (by omega) rfl]
    apply List.ext_getElem?
    intro j
    have hfl:=encN_o.fl l
    rw [splice_get (by simp; omega),splice_get (by show i * 2+2<=_; omega)]
    have g0:(flt encN l)[i * 2]?=some (.string s):=by
     have:=flt_get (enc:=encN) (sz:=2) (fun _ _=>rfl) hx 0 (by omega)
     rw [Nat.add_zero] at this
     rw [this,<- hs]; rfl
    by_cases h1:j < i * 2
    ·rw [if_pos (by omega),if_pos h1]
    ·by_cases h2:j=i * 2
     ·subst h2
      rw [if_pos (by omega),if_neg (by omega),if_pos (by show i * 2 < i * 2+2; omega),g0,Nat.sub_self]; rfl
     ·rw [if_neg (by omega),if_neg h1]
      by_cases h3:j=i * 2+1
      ·subst h3
       rw [if_pos (by simp),if_pos (by show i * 2+1 < i * 2+2; omega),Nat.sub_self,show i * 2+1 - i * 2=1 by omega]; rfl
      ·rw [if_neg (by simp; omega),if_neg (by show ¬ j < i * 2+2; omega)]
   rw [<- e]
   exact hr6
 ·refine gd_mk rfl (nw_mk ?_)
  have f3:Fr (fun _=>False) w2 (w2.alloc (.cells (encN (s,v)).toArray 160)):=Fr.alloc _ _ _
  have r3:=RecAt.new w2 (encN (s,v)) 160
  show Calls _ _ _ (w2.alloc (.cells (encN (s,v)).toArray 160)) _
  have hA2:blkOf A ≠ some w2.heap.size:=fun e=>by have:=(h2.1.blt e).2; omega
  generalize hb3:w2.heap.size=b3 at r3 hA2 ⊢
  generalize w2.alloc (.cells (encN (s,v)).toArray 160)=w3 at f3 r3 ⊢
  have h3:=h2.fr0 f3
  refine (InsNm.insert_calls encN_o B A n c i l (s,v) b3 w3 h3.1 hl (by omega) r3 hA2 (by have:=f2.size; have:=f3.size; omega) hn).mono ?_
  rintro r w4 ⟨A4,c4,rfl,f4,h4,_⟩
  have hi:isN s i l=false:=hi
  rw [<- put_out hp ha hi] at h4
  have hlen:(putN (s,v) l).length=n+1:=by rw [put_out hp ha hi]; simp; omega
  rw [hlen]
  exact ⟨_,_,_,rfl,((f2.trans1 f3).mono (fun _ _ h=>h.elim)).trans1 f4,A4,c4,rfl,h4,hlen⟩
theorem cut_calls (B:Nat) (A:Option Addr) (n c:Nat) (l:List Nm) (s:ByteArray) (w:World) (h:NRow w B A n c l) (ha:AscN l) (hn:n<=1073741824) :
  Calls Tryz.prog 161 #[.slice A n c,.string s] w fun e w'=>Fr (fun k=>blkOf A=some k) w w'/\e=.returned (.tuple #[.slice A (woN s l).length c,.int .i64 ((findN s l).getD 0),.bool (findN s l).isSome])/\NRow w' B A (woN s l).length c (woN s l)/\(findN s l=none->Fr (fun _=>False) w w'):=by
 refine (F161.of A n c s w (Q:=fun v' w'=>Fr (fun k=>blkOf A=some k) w w'/\v'=.tuple #[.slice A (woN s l).length c,.int .i64 ((findN s l).getD 0),.bool (findN s l).isSome]/\NRow w' B A (woN s l).length c (woN s l)/\(findN s l=none->Fr (fun _=>False) w w')) ?_).mono (fun e w' ⟨v,he,hf,hv,h⟩=>⟨hf,by rw [he,hv],h⟩)
 refine (bsN_calls A n c l s w h.sl ha (by omega)).mono ?_
 rintro r w2 ⟨f2,i,rfl,hp⟩
 have h2:=h.fr0 f2
 have hin:=hp.1
 have hl:=h.2
 refine ⟨_,_,rfl,vIf_mk (fun hi=>?_) (fun hi=>?_)⟩
 ·have hi:isN s i l=false:=by simpa using hi
  obtain ⟨e1,e2⟩:=wo_out hp ha hi
  rw [e1,e2,hl]
  exact ⟨f2.mono (fun _ _ h=>h.elim),rfl,h2,fun _=>f2⟩
 ·have hi:isN s i l=true:=by simpa using hi
  obtain ⟨x,hx,hs⟩:=isN_at hi
  have hil:=(List.getElem?_eq_some_iff.1 hx).1
  refine n_rdI h2.sl hx rfl ((DelNm.delete_calls encN_o B A n c i l w2 h2.1 hl (by omega) hn (ei i (by omega))).mono ?_)
  rintro r w3 ⟨rfl,f3,h3⟩
  have e1:=wo_in hp ha hx hs
  have e2:=find_in hp hx hs
  rw [<- e1] at h3
  have hlen:(woN s l).length=n - 1:=by rw [e1]; simp; omega
  rw [hlen,e2]
  exact ⟨_,_,_,rfl,(f2.mono (fun _ _ h=>h.elim)).trans1 f3,rfl,⟨h3,hlen⟩,fun h=>by cases h⟩
theorem step_calls (B:Nat) (A:Option Addr) (n c:Nat) (l:List Nm) (x:Ch) (w:World) (h:NRow w B A n c l) (ha:AscN l) (hB:B<=w.heap.size) (hn:n<=1073741823) :
  Calls Tryz.prog 140 #[.slice A n c,ofL (encC x)] w fun e w'=>Fr (fun k=>blkOf A=some k) w w'/\∃ A' c',e=.returned (.slice A' (stepN l x).length c')/\NRow w' B A' (stepN l x).length c' (stepN l x):=by
 refine (F140.of A n c _ w (Q:=fun v' w'=>Fr (fun k=>blkOf A=some k) w w'/\∃ A' c',v'=.slice A' (stepN l x).length c'/\NRow w' B A' (stepN l x).length c' (stepN l x)) ?_).mono (fun e w' ⟨v,he,hf,A',c',hv,h⟩=>⟨hf,A',c',by rw [he,hv],h⟩)
 refine nw_mk ?_
 have f1:Fr (fun _=>False) w (w.alloc (.cells (encC x).toArray 185)):=Fr.alloc _ _ _
 have r1:=RecAt.new w (encC x) 185
 have hb1:∀ k,blkOf A=some k->k ≠ w.heap.size:=fun k hk e=>by have:=(h.1.blt hk).2; omega
 generalize w.heap.size=b1 at r1 hb1 ⊢
 generalize w.alloc (.cells (encC x).toArray 185)=w1 at f1 r1 ⊢
 have f1':Fr (fun k=>blkOf A=some k) w w1:=f1.mono (fun _ _ h=>h.elim)
 have h1:=h.fr0 f1
 have hB1:B<=w1.heap.size:=by have:=f1.size; omega
 have hl:=h.2
 refine ⟨x.k,r1.cell rfl,vIf_mk (fun hk=>?_) (fun hk=>vIf_mk (fun hk3=>?_) (fun hk3=>vIf_mk (fun hk2=>?_) (fun hk2=>?_)))⟩
 ·have hk:x.k=1:=by simpa using hk
  have e:stepN l x=putN (x.nm,x.id) l:=if_pos hk
  rw [e]
  refine ⟨x.nm,r1.cell rfl,x.id,r1.cell rfl,(set_calls B A n c l x.nm x.id w1 h1 ha hB1 (by omega)).mono ?_⟩
  rintro r w2 ⟨f2,A2,c2,rfl,h2⟩
  exact ⟨_,_,_,rfl,f1'.trans1 f2,A2,c2,rfl,h2⟩
 ·have hk:¬ x.k=1:=by simpa using hk
  have hk3:x.k=3:=by simpa using hk3
  have e:stepN l x=woN x.nm l:=by unfold stepN; rw [if_neg hk,if_neg (by omega),if_pos hk3]
  rw [e]
  refine ⟨x.nm,r1.cell rfl,(cut_calls B A n c l x.nm w1 h1 ha (by omega)).mono ?_⟩
  rintro r w2 ⟨f2,rfl,h2,_⟩
  exact ⟨_,_,_,_,_,rfl,f1'.trans1 f2,A,c,rfl,h2⟩
 ·have hk:¬ x.k=1:=by simpa using hk
  have hk2:x.k=2:=by simpa using hk2
  refine ⟨x.nm,r1.cell rfl,(cut_calls B A n c l x.nm w1 h1 ha (by omega)).mono ?_⟩
  rintro r w2 ⟨f2,rfl,h2,hno⟩
  refine ⟨_,_,_,_,_,rfl,vIf_mk (fun hi=>?_) (fun hi=>?_)⟩
  ·cases hf:findN x.nm l with
   | none=>rw [hf] at hi; cases hi
   | some id =>
    have e:stepN l x=putN (x.to,id) (woN x.nm l):=by unfold stepN; rw [if_neg hk,if_pos hk2,hf]
    rw [e]
    have hwl:=woN_len x.nm l
    refine ⟨x.to,(r1.fr f2 (fun e=>hb1 _ e rfl)).cell rfl,(set_calls B A _ c _ x.to id w2 h2 (woN_asc _ ha) (by have:=f2.size; omega) (by omega)).mono ?_⟩
    rintro r w3 ⟨f3,A3,c3,rfl,h3⟩
    exact ⟨_,_,_,rfl,(f1'.trans1 f2).trans1 f3,A3,c3,rfl,h3⟩
  ·cases hf:findN x.nm l with
   | some id=>rw [hf] at hi; cases hi
   | none =>
    have e:stepN l x=l:=by unfold stepN; rw [if_neg hk,if_pos hk2,hf]
    rw [e,hl]
    exact ⟨f1'.trans1 f2,A,c,rfl,h1.fr0 (hno hf)⟩
 ·have hk:¬ x.k=1:=by simpa using hk
  have hk3:¬ x.k=3:=by simpa using hk3
  have hk2:¬ x.k=2:=by simpa using hk2
  have e:stepN l x=l:=by unfold stepN; rw [if_neg hk,if_neg hk2,if_neg hk3]
  rw [e,hl]
  exact ⟨f1',A,c,rfl,h1⟩
structure Fo where
 L:List Nm
 P:List Ch
def CSl (w:World) (A:Option Addr) (n:Nat) (l:List Ch):Prop:=Sl w 4 A n (flt encC l)/\l.length=n
theorem CSl.fr0 {w w':World} {A:Option Addr} {n:Nat} {l:List Ch} (h:CSl w A n l) (f:Fr (fun _=>False) w w'):CSl w' A n l:=⟨f.sl h.1 (fun _ _ _ h=>h),h.2⟩
theorem c_rd {w:World} {A:Option Addr} {n:Nat} {l:List Ch} (h:CSl w A n l) {i:Nat} {x:Ch} (hi:l[i]?=some x) {ii:Int} (hii:ii=(i:Int)) {K:List Value->Prop} (hK:K (encC x)) :
  dr A fun b o=>gd (decide (0<=ii)) (gd (decide (ii < ((n:Nat):Int))) (ldA 4 w b (o+ii.toNat * 4) K)) :=
 el_rd h.1 (fun x _=>rfl) hi hii h.2 (fun b o hA hc=>⟨encC x,rfl,hc,hK⟩)
class Ow where
 O:Nat->Prop
instance (priority:=low) owT:Ow:=⟨fun _=>True⟩
def OkA [Ow] (w:World) (A:Option Addr) (n:Nat):Prop:=(∀ k,w.heap.size<=k->Ow.O k)/\(n ≠ 0->∀ k,blkOf A=some k->Ow.O k)
theorem OkA.up [Ow] {w w':World} {A:Option Addr} {n:Nat} (h:OkA w A n) (hs:w.heap.size<=w'.heap.size):OkA w' A n:=⟨fun k hk=>h.1 k (Nat.le_trans hs hk),h.2⟩
theorem OkA.fr [Ow] {S:Nat->Prop} {w w':World} {A:Option Addr} {n:Nat} (h:OkA w A n) (f:Fr S w w'):OkA w' A n:=h.up f.size
theorem OkA.nil [Ow] {w:World} {A:Option Addr} {n:Nat} (h:OkA w A n) (B:Option Addr):OkA w B 0:=⟨h.1,fun h0=>absurd rfl h0⟩
theorem OkA.own [Ow] {w w':World} {A B:Option Addr} {n m:Nat} (h:OkA w A n) (hs:w.heap.size<=w'.heap.size) (hB:∀ k,blkOf B=some k->w.heap.size<=k):OkA w' B m:=⟨(h.up hs).1,fun _ k hk=>h.1 k (hB k hk)⟩
def FoAt [Ow] (w:World) (cs:List Value) (F:Fo):Prop:=∃ A n c A' n' c',cs=[.slice A n c,.slice A' n' c']/\NSl w A n F.L/\CSl w A' n' F.P/\n'<=c'/\OkA w A n/\OkA w A' n'
theorem FoAt.fr0 [Ow] {w w':World} {cs:List Value} {F:Fo} (h:FoAt w cs F) (f:Fr (fun _=>False) w w'):FoAt w' cs F:=by
 obtain ⟨A,n,c,A',n',c',e,h1,h2,h3⟩:=h
 exact ⟨A,n,c,A',n',c',e,h1.fr0 f,h2.fr0 f,h3.1,h3.2.1.fr f,h3.2.2.fr f⟩
theorem FoAt.len [Ow] {w:World} {cs:List Value} {F:Fo} (h:FoAt w cs F):cs.length=2:=by
 obtain ⟨A,n,c,A',n',c',e,h1,h2,h3⟩:=h
 rw [e]; rfl
theorem FoAt.one [Ow] {w:World} {cs:List Value} {F:Fo} (h:FoAt w cs F):∀ v ∈ cs,v.oneCell'=true:=by
 obtain ⟨A,n,c,A',n',c',e,h1,h2,h3⟩:=h
 subst e
 intro v hv
 simp at hv
 rcases hv with rfl | rfl <;> rfl
theorem ch_var {w:World} {x:Ch} {K:Nat->World->Prop} (hK:∀ b w',Fr (fun _=>False) w w'->RecAt w' b 185 (encC x)->K b w') :
  nw w Z185 185 fun b w1=>gd ((encC x).length == 4) (st w1 b 0 (encC x) fun w2=>K b w2):=by
 refine nw_mk (gd_mk rfl ?_)
 have f1:Fr (fun _=>False) w (w.alloc (.cells Z185.toArray 185)):=Fr.alloc _ _ _
 have r1:=RecAt.new w Z185 185
 generalize hb:w.heap.size=b at r1 ⊢
 generalize w.alloc (.cells Z185.toArray 185)=w1 at f1 r1 ⊢
 refine r1.st_mk (o:=0) (by show 0+4<=4; omega) (encC_o.one x) (fun r2 f2=>hK _ _ (f1.trans f2 (fun _ _ h=>h) (fun k hk h=>by omega)) ?_)
 have e:splice Z185 0 (encC x)=encC x:=splice_full rfl
 rw [e] at r2
 exact r2
def cnt (n:Int) (P:List Ch):Nat:=if n < 0 then 0 else min n.toNat P.length
theorem cnt_le (n:Int) (P:List Ch):cnt n P<=P.length:=by unfold cnt; split <;> omega
theorem cnt_eq (n:Int) (P:List Ch) (m:Nat) (hm:P.length=m):(if 0 < (if ((m:Nat):Int) < n then ((m:Nat):Int) else n) then (if ((m:Nat):Int) < n then ((m:Nat):Int) else n) else 0)=((cnt n P:Nat):Int):=by
 subst hm
 unfold cnt
 (repeat' split) <;> omega
def behF (F:Fo) (n:Int):List Nm:=behN F.L (F.P.take (cnt n F.P))
theorem behF_asc (F:Fo) (n:Int):AscN (behF F n):=behN_asc _ _
theorem behF_len (F:Fo) (n:Int):(behF F n).length<=F.L.length+F.P.length:=by
 have:=behN_len F.L (F.P.take (cnt n F.P))
 have h2:(F.P.take (cnt n F.P)).length<=F.P.length:=by rw [List.length_take]; omega
 unfold behF; omega
theorem sl_cut0 {w:World} {sz:Nat} {A:Option Addr} {n k c:Nat} {vs:List Value} (h:Sl w sz A n vs) (hk:k<=n):Sl w sz (slA A c 0 sz) k (vs.take (k * sz)):=by
 have h2:=h.headS hk
 refine ⟨h2.1,fun h0=>?_⟩
 obtain ⟨b,o,hA,hc⟩:=h2.2 h0
 refine ⟨b,o,?_,hc⟩
 rw [hA]
 unfold slA
 split
 ·rfl
 ·rw [Option.map_some,add_none,Nat.zero_mul]; rfl
def FoB (F:Fo):Prop:=F.L.length+F.P.length<=349525
set_option maxHeartbeats 1000000 in
theorem beh_calls [Ow] (cs:List Value) (F:Fo) (n:Int) (w:World) (h:FoAt w cs F) (hb:FoB F) :
  Calls Tryz.prog 120 #[ofL cs,.int .i64 n] w fun e w'=>Fr (fun _=>False) w w'/\∃ A' c',e=.returned (.slice A' (behF F n).length c')/\NRow w' w.heap.size A' (behF F n).length c' (behF F n):=by
 refine (F120.of cs n w (Q:=fun v' w'=>Fr (fun _=>False) w w'/\∃ A' c',v'=.slice A' (behF F n).length c'/\NRow w' w.heap.size A' (behF F n).length c' (behF F n)) ?_).mono (fun e w' ⟨v,he,hf,A',c',hv,h⟩=>⟨hf,A',c',by rw [he,hv],h⟩)
 obtain ⟨A,m,c,A',m',c',rfl,hL,hP,hPc⟩:=h
 have hb:F.L.length+F.P.length<=349525:=hb
 have hLl:=hL.2
 have hPl:=hP.2
 refine nw_mk ?_
 have f1:Fr (fun _=>False) w (w.alloc (.cells [Value.slice A m c,.slice A' m' c'].toArray 81)):=Fr.alloc _ _ _
 have r1:=RecAt.new w [Value.slice A m c,.slice A' m' c'] 81
 generalize w.alloc (.cells [Value.slice A m c,.slice A' m' c'].toArray 81)=w1 at f1 r1 ⊢
 refine ⟨[Value.slice A m c,.slice A' m' c'],rfl,r1.cells (fun j v hj=>by simpa using hj),(lasts_calls A m c F.L _ w1 (hL.fr0 f1) (by omega)).mono ?_⟩
 rintro r w2 ⟨f2,A2,c2,rfl,h2⟩
 have r2:=r1.fr f2 (fun h=>h)
 refine ⟨_,_,_,rfl,A',m',c',r2.cell rfl,A',m',c',r2.cell rfl,?_⟩
 have hk:=cnt_le n F.P
 dsimp only
 simp only [cnt_eq n F.P m' hPl]
 generalize hkk:cnt n F.P=k at hk ⊢
 refine gd_mk (decide_eq_true (by omega)) (gd_mk (decide_eq_true (by omega)) (jnC_mk ?_))
 simp only [Int.toNat_natCast]
 have hPk:CSl w1 (slA A' c' 0 4) k (F.P.take k):=by
  have:=sl_cut0 (c:=c') (hP.fr0 f1).1 (k:=k) (by omega)
  rw [encC_o.ft F.P hk] at this
  exact ⟨this,by rw [List.length_take]; omega⟩
 refine loop_rule (fun s u=>Fr (fun _=>False) w1 u/\∃ (i:Nat) (A2:Option Addr) (c2:Nat),i<=k/\s=((A2,(behN F.L (F.P.take i)).length,c2),(slA A' c' 0 4,k,c'),(k:Int),(i:Int),())/\NRow u w1.heap.size A2 (behN F.L (F.P.take i)).length c2 (behN F.L (F.P.take i)))
  (fun s _=>(k - s.2.2.2.1).toNat) ?_ _ _ ⟨f2,0,A2,c2,by omega,rfl,h2⟩
 rintro s u C ⟨hf,i,A3,c3,hi,rfl,h3⟩ hC _
 refine vIf_mk (fun hlt=>?_) (fun hge=>?_)
 ·have hlt2:(i:Int) < (k:Int):=of_decide_eq_true hlt
  have gi:F.P[i]?=some (F.P[i]'(by omega)):=List.getElem?_eq_getElem (by omega)
  generalize F.P[i]'(by omega)=x at gi
  have hst:=behN_step (L:=F.L) gi
  have hbl:=behN_len F.L (F.P.take i)
  have htl:(F.P.take i).length<=F.P.length:=by rw [List.length_take]; omega
  refine c_rd (hPk.fr0 hf) (x:=x) (by rw [List.getElem?_take,if_pos (by omega)]; exact gi) rfl (ch_var (fun b u2 g2 r2=>⟨encC x,rfl,r2.cells (fun j v hj=>by simpa using hj),?_⟩))
  refine (step_calls w1.heap.size A3 _ c3 _ x u2 (h3.fr0 g2) (behN_asc _ _) (by have:=hf.size; have:=g2.size; omega) (by omega)).mono ?_
  rintro r u3 ⟨g3,A4,c4,rfl,h4⟩
  rw [<- hst] at h4 ⊢
  refine ⟨_,_,_,rfl,jnC_mk (hC _ _ ⟨fr_own (hf.trans1 g2) (fun q hq=>(h3.1.blt hq).1) (Nat.le_refl _) g3,i+1,A4,c4,by omega,by rw [ei i (by omega)],h4⟩ ?_)⟩
  show ((k:Int) - IntKind.wrap .i64 ((i:Int)+1)).toNat < ((k:Int) - (i:Int)).toNat
  rw [ei i (by omega)]; omega
 ·have hge2:¬ (i:Int) < (k:Int):=of_decide_eq_false hge
  have hik:i=k:=by omega
  subst hik
  have e:behF F n=behN F.L (F.P.take i):=by unfold behF; rw [hkk]
  rw [e]
  exact ⟨f1.trans1 hf,A3,c3,rfl,row_low f1.size h3.1,h3.2⟩
end Go.Proofs.YtkfanhdicnjdlaaGreatDoor
namespace Go.Proofs.YtkfanhdicnjdlaaGreatDoor
open Go.GV Go.RowKit Go.Lib
theorem nil_iff (s:ByteArray):(s.toList == (⟨#[]⟩:ByteArray).toList)=decide (s.size=0):=by
 rw [ByteArray.toList_eq,ByteArray.toList_eq]
 have h:s.size=s.data.toList.length:=by rw [Array.length_toList]; rfl
 rw [h]
 cases hl:s.data.toList with
 | nil=>rfl
 | cons a r=>simp
def DiskP (s:ByteArray):Prop:=(∀ i,i < s.size->33<=byteAt s i/\byteAt s i<=126/\byteAt s i ≠ 47)/\1<=s.size/\s.size<=32
theorem disk_calls (s:ByteArray) (w:World) (hs:s.size<=1099511627775) :
  Calls Tryz.prog 176 #[.string s] w fun e w'=>(∃ t,e=.returned (.bool t)/\(t=true ↔ DiskP s))/\w'=w:=by
 refine (F176.of s w (Q:=fun v w'=>(∃ t,v=.bool t/\(t=true ↔ DiskP s))/\w'=w) ?_).mono (fun e w' ⟨v,he,⟨t,hv,h⟩,h'⟩=>⟨⟨t,by rw [he,hv],h⟩,h'⟩)
 have no:∀ u:World,u=w->¬ DiskP s->(∃ t,Value.bool false=.bool t/\(t=true ↔ DiskP s))/\u=w:=fun u hu h=>⟨⟨false,rfl,⟨(fun h=>by cases h),fun h'=>absurd h' h⟩⟩,hu⟩
 refine vIf_mk (fun h0=>no w rfl ?_) (fun h0=>vIf_mk (fun h32=>no w rfl ?_) (fun h32=>jnC_mk (fun _=>jnC_mk ?_)))
 ·rw [nil_iff] at h0
  have:=of_decide_eq_true h0
  intro h
  have:=h.2.1
  omega
 ·have h32:=of_decide_eq_true h32
  intro h
  have:=h.2.2
  omega
 ·rw [nil_iff] at h0
  have h0:=of_decide_eq_false h0
  have h32:=of_decide_eq_false h32
  refine loop_rule (fun p v=>v=w/\∃ i:Nat,i<=s.size/\p=(s,(s.size:Int),(i:Int),())/\∀ j,j < i->33<=byteAt s j/\byteAt s j<=126/\byteAt s j ≠ 47) (fun p _=>(s.size - p.2.2.1).toNat) ?_ _ _ ⟨rfl,0,by omega,rfl,fun j hj=>by omega⟩
  rintro p v C ⟨rfl,i,hi,rfl,hall⟩ hC _
  refine vIf_mk (fun hlt=>?_) (fun hge=>?_)
  ·have hlt2:(i:Int) < (s.size:Int):=of_decide_eq_true hlt
   refine gd_mk (decide_eq_true (by show (0:Int)<=(i:Int); omega)) (gd_mk hlt (vIf_mk (fun h1=>no v rfl ?_) (fun h1=>vIf_mk (fun h2=>no v rfl ?_) (fun h2=>vIf_mk (fun h3=>no v rfl ?_) (fun h3=>?_)))))
   ·have h1:byteAt s i < 33:=of_decide_eq_true h1
    intro h; have:=h.1 i (by omega); omega
   ·have h2:byteAt s i > 126:=of_decide_eq_true h2
    intro h; have:=h.1 i (by omega); omega
   ·have h3:byteAt s i=47:=by simpa using h3
    intro h; have:=h.1 i (by omega); omega
   ·have h1:¬ byteAt s i < 33:=of_decide_eq_false h1
    have h2:¬ byteAt s i > 126:=of_decide_eq_false h2
    have h3:byteAt s i ≠ 47:=by simpa using h3
    refine jnC_mk (hC _ _ ⟨rfl,i+1,by omega,by rw [ei i (by omega)],fun j hj=>?_⟩ ?_)
    ·by_cases hji:j=i
     ·subst hji; exact ⟨by omega,by omega,h3⟩
     ·exact hall j (by omega)
    ·show ((s.size:Int) - IntKind.wrap .i64 ((i:Int)+1)).toNat < ((s.size:Int) - (i:Int)).toNat
     rw [ei i (by omega)]; omega
  ·have hge2:¬ (i:Int) < (s.size:Int):=of_decide_eq_false hge
   exact ⟨⟨true,rfl,⟨fun _=>⟨fun j hj=>hall j (by omega),by omega,by omega⟩,fun _=>rfl⟩⟩,rfl⟩
end Go.Proofs.YtkfanhdicnjdlaaGreatDoor
namespace Go.Proofs.YtkfanhdicnjdlaaGreatDoor
open Go.GV Go.RowKit Go.Lib Go.Stb
def nowF (F:Fo):List Nm:=behF F (F.P.length:Nat)
theorem nowF_asc (F:Fo):AscN (nowF F):=behF_asc _ _
theorem nowF_len (F:Fo):(nowF F).length<=F.L.length+F.P.length:=behF_len _ _
theorem fo_new {w:World} {cs:List Value} {K:Nat->World->Prop} (hK:∀ b w',Fr (fun _=>False) w w'->w.heap.size<=b->RecAt w' b 81 cs->K b w'):nw w cs 81 K :=
 nw_mk (hK _ _ (Fr.alloc _ _ _) (Nat.le_refl _) (RecAt.new w cs 81))
theorem rec_rd {w:World} {b:Nat} {e:TypeId} {cs:List Value} (h:RecAt w b e cs):cellsAt w b 0 cs:=h.cells (fun j v hj=>by simpa using hj)
theorem fo_st {w:World} {b:Nat} {e:TypeId} {cs y:List Value} (h:RecAt w b e cs) (hy:y.length=cs.length) (ho:∀ v ∈ y,v.oneCell'=true) {K:World->Prop} (hK:∀ w',Fr (fun k=>k=b) w w'->RecAt w' b e y->K w'):st w b 0 y K :=
 h.st_mk (o:=0) (by omega) ho (fun r2 f2=>hK _ f2 (by rw [splice_full hy] at r2; exact r2))
theorem now_calls [Ow] (cs:List Value) (F:Fo) (w:World) (h:FoAt w cs F) (hb:FoB F) :
  Calls Tryz.prog 88 #[ofL cs] w fun e w'=>Fr (fun _=>False) w w'/\∃ A' c',e=.returned (.slice A' (nowF F).length c')/\NRow w' w.heap.size A' (nowF F).length c' (nowF F):=by
 refine (F88.of cs w (Q:=fun v w'=>Fr (fun _=>False) w w'/\∃ A' c',v=.slice A' (nowF F).length c'/\NRow w' w.heap.size A' (nowF F).length c' (nowF F)) ?_).mono (fun e w' ⟨v,he,hf,A',c',hv,h⟩=>⟨hf,A',c',by rw [he,hv],h⟩)
 refine fo_new (fun b w1 f1 _ r1=>⟨cs,h.len,rec_rd r1,?_⟩)
 have h1:=h.fr0 f1
 obtain ⟨A,m,c,A',m',c',rfl,hL,hP,hPc⟩:=h
 refine ⟨A',m',c',r1.cell rfl,(beh_calls _ F _ w1 h1 hb).mono ?_⟩
 rintro r w2 ⟨f2,A2,c2,rfl,h2⟩
 have e:behF F ((m':Nat):Int)=nowF F:=by unfold nowF; rw [hP.2]
 rw [e] at h2 ⊢
 exact ⟨_,_,_,rfl,f1.trans1 f2,A2,c2,rfl,row_low f1.size h2.1,h2.2⟩
theorem find_calls [Ow] (cs:List Value) (F:Fo) (s:ByteArray) (w:World) (h:FoAt w cs F) (hb:FoB F) :
  Calls Tryz.prog 55 #[ofL cs,.string s] w fun e w'=>e=.returned (.tuple #[.int .i64 ((findN s (nowF F)).getD 0),.bool (findN s (nowF F)).isSome])/\Fr (fun _=>False) w w':=by
 refine (F55.of cs s w (Q:=fun v w'=>v=.tuple #[.int .i64 ((findN s (nowF F)).getD 0),.bool (findN s (nowF F)).isSome]/\Fr (fun _=>False) w w') ?_).mono (fun e w' ⟨v,he,hv,h⟩=>⟨by rw [he,hv],h⟩)
 have hnl:=nowF_len F
 have hb':F.L.length+F.P.length<=349525:=hb
 refine fo_new (fun b w1 f1 _ r1=>⟨cs,h.len,rec_rd r1,(now_calls cs F w1 (h.fr0 f1) hb).mono ?_⟩)
 rintro r w2 ⟨f2,A2,c2,rfl,h2⟩
 refine ⟨_,_,_,rfl,(bsN_calls A2 _ c2 _ s w2 h2.sl (nowF_asc F) (by omega)).mono ?_⟩
 rintro r w3 ⟨f3,i,rfl,hp⟩
 have f:=(f1.trans1 f2).trans1 f3
 refine ⟨_,_,rfl,vIf_mk (fun hi=>?_) (fun hi=>?_)⟩
 ·have hi:isN s i (nowF F)=false:=by simpa using hi
  rw [(wo_out hp (nowF_asc F) hi).2]
  exact ⟨rfl,f⟩
 ·have hi:isN s i (nowF F)=true:=by simpa using hi
  obtain ⟨x,hx,hs⟩:=isN_at hi
  refine n_rdI (h2.sl.fr0 f3) hx rfl ?_
  rw [find_in hp hx hs]
  exact ⟨rfl,f⟩
theorem oneP {A A':Option Addr} {n c n' c':Nat}:∀ v ∈ [Value.slice A n c] ++ ([Value.slice A' n' c'] ++ []),v.oneCell'=true:=by
 intro v hv
 simp at hv
 rcases hv with rfl | rfl <;> rfl
theorem FoAt.ok [Ow] {w:World} {cs:List Value} {F:Fo} (h:FoAt w cs F):OkA w none 0:=by
 obtain ⟨A,n,c,A',n',c',e,h1,h2,h3,h4,h5⟩:=h
 exact h4.nil none
theorem fo_of [Ow] {w0 w:World} {B:Nat} {A:Option Addr} {c:Nat} {l:List Nm} (ho:OkA w0 none 0) (hs:w0.heap.size<=w.heap.size) (hB:w0.heap.size<=B) (h:NRow w B A l.length c l):FoAt w [.slice A l.length c,.slice none 0 0] ⟨l,[]⟩ :=
 ⟨A,_,c,none,0,0,rfl,h.sl,⟨Sl.nil _ _ _,rfl⟩,Nat.le_refl _,ho.own hs (fun k hk=>Nat.le_trans hB (h.1.blt hk).1),(ho.up hs).nil none⟩
theorem sync_calls [Ow] (cs:List Value) (F:Fo) (w:World) (h:FoAt w cs F) (hb:FoB F) :
  Calls Tryz.prog 118 #[ofL cs] w fun e w'=>Fr (fun _=>False) w w'/\∃ cs',e=.returned (ofL cs')/\FoAt w' cs' ⟨nowF F,[]⟩:=by
 refine (F118.of cs w (Q:=fun v w'=>Fr (fun _=>False) w w'/\∃ cs',v=ofL cs'/\FoAt w' cs' ⟨nowF F,[]⟩) ?_).mono (fun e w' ⟨v,he,hf,cs',hv,h⟩=>⟨hf,cs',by rw [he,hv],h⟩)
 refine fo_new (fun b w1 f1 _ r1=>fo_new (fun b3 w2 f2 hb3 r3=>⟨cs,h.len,rec_rd (r1.fr f2 (fun h=>h)),(now_calls cs F w2 (h.fr0 (f1.trans1 f2)) hb).mono ?_⟩))
 rintro r w3 ⟨f3,A3,c3,rfl,h3⟩
 have hs1:=f1.size
 have hs2:=f2.size
 have hlt:=r3.lt
 refine ⟨_,_,_,rfl,gd_mk rfl (fo_st (r3.fr f3 (fun h=>h)) (by rfl) oneP (fun w4 f4 r4=>⟨_,rfl,rec_rd r4,?_,_,rfl,?_⟩))⟩
 ·exact ((f1.trans1 f2).trans1 f3).trans f4 (fun _ _ h=>h) (fun k hk h=>by omega)
 ·exact fo_of (B:=w2.heap.size) h.ok (by have:=f3.size; have:=f4.size; omega) (by omega) ⟨f4.row h3.1 (fun k hk h=>by have:=(h3.1.blt hk).1; omega),h3.2⟩
open Classical in
noncomputable def wrongF (F:Fo) (c:Ch):Int :=
 if c.k=1 then (if ¬ DiskP c.nm then 12 else if (findN c.nm (nowF F)).isSome=true then 7 else 0)
 else if c.k=2 then (if (findN c.nm (nowF F)).isSome=true then (if ¬ DiskP c.to then 12 else 0) else 6)
 else if c.k=3 then (if (findN c.nm (nowF F)).isSome=true then 0 else 6) else 2
noncomputable def doF (F:Fo) (c:Ch):Fo:=if wrongF F c=0 then ⟨F.L,F.P ++ [c]⟩ else F
def ChB (c:Ch):Prop:=c.nm.size<=1099511627775/\c.to.size<=1099511627775
theorem ch_new {w:World} {cs:List Value} {K:Nat->World->Prop} (hK:∀ b w',Fr (fun _=>False) w w'->w.heap.size<=b->RecAt w' b 185 cs->K b w'):nw w cs 185 K :=
 nw_mk (hK _ _ (Fr.alloc _ _ _) (Nat.le_refl _) (RecAt.new w cs 185))
theorem wrong_calls [Ow] (cs:List Value) (F:Fo) (x:Ch) (w:World) (h:FoAt w cs F) (hb:FoB F) (hx:ChB x) :
  Calls Tryz.prog 151 #[ofL cs,ofL (encC x)] w fun e w'=>e=.returned (.int .i64 (wrongF F x))/\Fr (fun _=>False) w w':=by
 refine (F151.of cs _ w (Q:=fun v w'=>v=.int .i64 (wrongF F x)/\Fr (fun _=>False) w w') ?_).mono (fun e w' ⟨v,he,hv,h⟩=>⟨by rw [he,hv],h⟩)
 refine fo_new (fun b w1 f1 _ r1=>ch_new (fun b3 w2 f2 hb3 r3=>⟨cs,h.len,rec_rd (r1.fr f2 (fun h=>h)),x.nm,r3.cell rfl,(find_calls cs F x.nm w2 (h.fr0 (f1.trans1 f2)) hb).mono ?_⟩))
 rintro r w3 ⟨rfl,f3⟩
 have f:=(f1.trans1 f2).trans1 f3
 have r3:=r3.fr f3 (fun h=>h)
 have fin:∀ (t:Bool) (w':World),Fr (fun _=>False) w w'->t=(findN x.nm (nowF F)).isSome->(wrongF F x=if t=true then 0 else 6)->jnC (F151.k13 (fun v w'=>v=.int .i64 (wrongF F x)/\Fr (fun _=>False) w w')) (t,()) w':=by
  intro t w' f' ht he
  refine jnC_mk (fun _=>vIf_mk (fun h1=>⟨?_,f'⟩) (fun h1=>⟨?_,f'⟩))
  ·have h1:t=false:=by simpa using h1
   rw [he,h1]; rfl
  ·have h1:t=true:=by simpa using h1
   rw [he,h1]; rfl
 refine ⟨_,_,rfl,x.k,r3.cell rfl,vIf_mk (fun hk=>?_) (fun hk=>vIf_mk (fun hk2=>vIf_mk (fun hin=>?_) (fun hin=>?_)) (fun hk2=>vIf_mk (fun hk3=>?_) (fun hk3=>?_)))⟩
 ·have hk:x.k=1:=by simpa using hk
  refine ⟨x.nm,r3.cell rfl,(disk_calls x.nm w3 hx.1).mono ?_⟩
  rintro r w4 ⟨⟨t,rfl,ht⟩,rfl⟩
  refine ⟨_,rfl,vIf_mk (fun h1=>⟨?_,f⟩) (fun h1=>vIf_mk (fun h2=>⟨?_,f⟩) (fun h2=>⟨?_,f⟩))⟩
  ·have h1:t=false:=by simpa using h1
   unfold wrongF
   rw [if_pos hk,if_pos (fun h=>by rw [ht.2 h] at h1; cases h1)]
  ·have h1:t=true:=by simpa using h1
   unfold wrongF
   rw [if_pos hk,if_neg (not_not_intro (ht.1 h1)),if_pos h2]
  ·have h1:t=true:=by simpa using h1
   unfold wrongF
   rw [if_pos hk,if_neg (not_not_intro (ht.1 h1)),if_neg (by rw [h2]; decide)]
 ·have hk:¬ x.k=1:=by simpa using hk
  have hk2:x.k=2:=by simpa using hk2
  refine ⟨x.to,r3.cell rfl,(disk_calls x.to w3 hx.2).mono ?_⟩
  rintro r w4 ⟨⟨t,rfl,ht⟩,rfl⟩
  refine ⟨_,rfl,vIf_mk (fun h1=>⟨?_,f⟩) (fun h1=>fin _ _ f rfl ?_)⟩
  ·have h1:t=false:=by simpa using h1
   unfold wrongF
   rw [if_neg hk,if_pos hk2,if_pos hin,if_pos (fun h=>by rw [ht.2 h] at h1; cases h1)]
  ·have h1:t=true:=by simpa using h1
   unfold wrongF
   rw [if_neg hk,if_pos hk2,if_pos hin,if_neg (not_not_intro (ht.1 h1)),if_pos hin]
 ·have hk:¬ x.k=1:=by simpa using hk
  have hk2:x.k=2:=by simpa using hk2
  refine fin _ _ f rfl ?_
  unfold wrongF
  rw [if_neg hk,if_pos hk2,if_neg (by rw [hin]; decide),if_neg (by rw [hin]; decide)]
 ·have hk:¬ x.k=1:=by simpa using hk
  have hk2:¬ x.k=2:=by simpa using hk2
  have hk3:x.k=3:=by simpa using hk3
  refine fin _ _ f rfl ?_
  unfold wrongF
  rw [if_neg hk,if_neg hk2,if_pos hk3]
 ·have hk:¬ x.k=1:=by simpa using hk
  have hk2:¬ x.k=2:=by simpa using hk2
  have hk3:¬ x.k=3:=by simpa using hk3
  refine ⟨?_,f⟩
  unfold wrongF
  rw [if_neg hk,if_neg hk2,if_neg hk3]
theorem push_c {w:World} {B:Nat} {A:Option Addr} {n c b:Nat} {P:List Ch} {x:Ch} {K:Option Addr->Nat->Nat->World->Prop} (hr:Row w B 185 4 A n c (flt encC P)) (hl:P.length=n) (rb:RecAt w b 185 (encC x)) (hB:B<=w.heap.size) (hn:n<=1073741824)
  (hK:∀ A' c' w',n+1<=c'->CSl w' A' (n+1) (P ++ [x])->Fr (fun k=>blkOf A=some k) w w'->(∀ k,blkOf A'=some k->B<=k)->K A' (n+1) c' w'):app w 4 48 Z185 185 A n c (.slice (some ⟨b,0,none⟩) 1 1) K:=by
 refine app_row (us:=encC x) (m:=1) hr ⟨rfl,rfl,fun _=>dr_mk (rec_rd rb)⟩ (encC_o.one x) rfl (by omega) (by omega) hB (fun A' c' w' hr' f'=>hK A' c' w' hr'.le ⟨?_,by rw [List.length_append,hl]; rfl⟩ f' (fun k hk=>(hr'.blt hk).1))
 rw [flt_app,flt_one]; exact hr'.sl
set_option maxHeartbeats 1000000 in
theorem do_calls [Ow] (cs:List Value) (F:Fo) (x:Ch) (w:World) (h:FoAt w cs F) (hb:FoB F) (hx:ChB x) :
  Calls Tryz.prog 135 #[ofL cs,ofL (encC x)] w fun e w'=>Fr (fun _=>False) w w'/\∃ cs',e=.returned (.tuple #[ofL cs',.int .i64 (wrongF F x)])/\FoAt w' cs' (doF F x):=by
 refine (F135.of cs _ w (Q:=fun v w'=>Fr (fun _=>False) w w'/\∃ cs',v=.tuple #[ofL cs',.int .i64 (wrongF F x)]/\FoAt w' cs' (doF F x)) ?_).mono (fun e w' ⟨v,he,hf,cs',hv,h⟩=>⟨hf,cs',by rw [he,hv],h⟩)
 have hb':F.L.length+F.P.length<=349525:=hb
 refine fo_new (fun b1 w1 f1 _ r1=>ch_new (fun b3 w2 f2 hb3 r3=>fo_new (fun b5 w3 f3 hb5 r5=>⟨cs,h.len,rec_rd ((r1.fr f2 (fun h=>h)).fr f3 (fun h=>h)),encC x,rfl,rec_rd (r3.fr f3 (fun h=>h)),?_⟩)))
 have g:=(f1.trans1 f2).trans1 f3
 have r1:=(r1.fr f2 (fun h=>h)).fr f3 (fun h=>h)
 have r3:=r3.fr f3 (fun h=>h)
 have hw5:w.heap.size<=b5:=Nat.le_trans (Nat.le_trans f1.size f2.size) hb5
 have hlt3:=(r3.lt)
 refine (wrong_calls cs F x w3 (h.fr0 g) hb hx).mono ?_
 rintro r w4 ⟨rfl,f4⟩
 have g:=g.trans1 f4
 have r1:=r1.fr f4 (fun h=>h)
 have r3:=r3.fr f4 (fun h=>h)
 have r5:=r5.fr f4 (fun h=>h)
 have hs4:=f4.size
 refine ⟨_,rfl,vIf_mk (fun h0=>?_) (fun h0=>?_)⟩
 ·have h0:¬ wrongF F x=0:=by simpa using h0
  have e:doF F x=F:=if_neg h0
  rw [e]
  refine ⟨cs,h.len,rec_rd r1,gd_mk (by rw [h.len]; rfl) (fo_st r5 h.len h.one (fun w5 f5 r5'=>⟨cs,h.len,rec_rd r5',?_,cs,rfl,?_⟩))⟩
  ·exact g.trans f5 (fun _ _ h=>h) (fun k hk h=>by omega)
  ·exact h.fr0 (g.trans f5 (fun _ _ h=>h) (fun k hk h=>by omega))
 ·have h0:wrongF F x=0:=by simpa using h0
  have e:doF F x=⟨F.L,F.P ++ [x]⟩:=if_pos h0
  rw [e,h0]
  obtain ⟨A,n,c,A',n',c',rfl,hL,hP,hPc⟩:=h
  have hPl:=hP.2
  have fd:=Fr.drew (fun _=>False) w4
  have g:=g.trans1 fd
  have r1:=r1.fr fd (fun h=>h)
  have r3:=r3.fr fd (fun h=>h)
  have r5:=r5.fr fd (fun h=>h)
  have hsd:w4.drew.heap.size=w4.heap.size:=rfl
  have b1l:=r1.lt
  have b3l:=r3.lt
  have b5l:=r5.lt
  have fin:∀ (u:World) (A2:Option Addr) (n2 c2:Nat),Fr (fun _=>False) w4.drew u->n2<=c2->CSl u A2 n2 (F.P ++ [x])->(∀ k,blkOf A2=some k->k ≠ b5/\w.heap.size<=k) ->
    kp w4.drew b1 0 1 u (gd (([Value.slice A n c] ++ ([Value.slice A2 n2 c2] ++ [])).length == 2) (st u b5 0 ([Value.slice A n c] ++ ([Value.slice A2 n2 c2] ++ [])) fun w46=>ldA 2 w46 b5 0 fun a47=>Fr (fun _=>False) w w46/\∃ cs',Value.tuple #[ofL a47,Value.int .i64 0]=.tuple #[ofL cs',.int .i64 0]/\FoAt w46 cs' ⟨F.L,F.P ++ [x]⟩)):=by
   intro u A2 n2 c2 fu hle hs hne
   refine kp_mk fu b1l (fun h=>h) (gd_mk rfl (fo_st (r5.fr fu (fun h=>h)) (by rfl) oneP (fun w5 f5 r5'=>⟨_,rfl,rec_rd r5',?_,_,rfl,A,n,c,A2,n2,c2,rfl,?_,?_,hle,?_,?_⟩)))
   ·exact (g.trans1 fu).trans f5 (fun _ _ h=>h) (fun k hk h=>by omega)
   ·exact hL.fr0 ((g.trans1 fu).trans f5 (fun _ _ h=>h) (fun k hk h=>by omega))
   ·exact ⟨f5.sl hs.1 (fun _ k hk h=>(hne k hk).1 h),hs.2⟩
   ·exact hPc.2.1.up (Nat.le_trans (g.trans1 fu).size f5.size)
   ·exact hPc.2.1.own (Nat.le_trans (g.trans1 fu).size f5.size) (fun k hk=>(hne k hk).2)
  refine ⟨A,n,c,r1.cell rfl,A',n',c',r1.cell rfl,encC x,rfl,rec_rd r3,?_,?_⟩
  ·refine (ClnCh.clone_calls A' n' c' _ w4.drew (hP.fr0 g).1 (encC_o.fo _) (by omega)).mono ?_
   rintro r u1 ⟨q1,A2,c2,rfl,h2⟩
   refine ⟨_,_,_,rfl,kp_mk q1 b3l (fun h=>h) (kp_mk q1 b1l (fun h=>h) (gd_mk rfl (nw_mk ?_)))⟩
   rw [List.append_nil]
   have q2:Fr (fun _=>False) u1 (u1.alloc (.cells (encC x).toArray 185)):=Fr.alloc _ _ _
   have s2:=RecAt.new u1 (encC x) 185
   generalize u1.heap.size=b27 at s2 ⊢
   generalize u1.alloc (.cells (encC x).toArray 185)=u2 at q2 s2 ⊢
   have q12:=q1.trans1 q2
   refine kp_mk q12 b1l (fun h=>h) (kp_mk q12 b1l (fun h=>h) (push_c (q2.row h2 (fun _ _ h=>h)) hPl s2 (by have:=q12.size; omega) (by omega) (fun A3 c3 u3 hle3 h3 q3 hB3=>?_)))
   exact fin u3 A3 _ c3 (fr_own q12 (fun k hk=>(h2.blt hk).1) (Nat.le_refl _) q3) hle3 h3 (fun k hk=>by have:=hB3 k hk; have:=g.size; omega)
  ·refine gd_mk rfl (nw_mk ?_)
   rw [List.append_nil]
   have q1:Fr (fun _=>False) w4.drew (w4.drew.alloc (.cells (encC x).toArray 185)):=Fr.alloc _ _ _
   have s1:=RecAt.new w4.drew (encC x) 185
   have hq1:w4.drew.heap.size < (w4.drew.alloc (.cells (encC x).toArray 185)).heap.size:=by rw [alloc_size]; omega
   generalize hb35:w4.drew.heap.size=b35 at s1 hq1 ⊢
   generalize w4.drew.alloc (.cells (encC x).toArray 185)=u1 at q1 s1 hq1 ⊢
   refine kp_mk q1 b1l (fun h=>h) (kp_mk q1 b1l (fun h=>h) ((ClnCh.clone_calls A' n' c' _ u1 ((hP.fr0 g).fr0 q1).1 (encC_o.fo _) (by omega)).mono ?_))
   rintro r u2 ⟨q2,A2,c2,rfl,h2⟩
   have q12:=q1.trans1 q2
   refine ⟨_,_,_,rfl,kp_mk q12 b3l (fun h=>h) (kp_mk q12 b1l (fun h=>h) (push_c h2 hPl (s1.fr q2 (fun h=>h)) q2.size (by omega) (fun A3 c3 u3 hle3 h3 q3 hB3=>?_)))⟩
   exact fin u3 A3 _ c3 (fr_own q12 (fun k hk=>(h2.blt hk).1) (by omega) q3) hle3 h3 (fun k hk=>by have:=hB3 k hk; have:=g.size; omega)
end Go.Proofs.YtkfanhdicnjdlaaGreatDoor
namespace Go.Proofs
open Go.Shelf
def Tryz.sortI_ren:Go.Shelf.Ren:=⟨fun | 189=>133 | 125=>150 | 257=>149 | 128=>175 | 129=>144 | 294=>166 | 295=>167 | 296=>168 | 297=>169 | 298=>170 | 299=>171 | 216=>172 | 300=>173 | 301=>174 | 328=>181 | 329=>182 | 330=>183 | 331=>184 | 332=>185 | 215=>186 | 343=>191 | n=>n,fun | 28=>29 | 3=>3 | 46=>117 | 0=>0 | 51=>115 | 53=>22 | 4=>4 | 183=>241 | 182=>240 | 131=>118 | 5=>5 | 9=>9 | 218=>253 | 222=>257 | 228=>263 | 229=>264 | n=>n,fun | n=>n⟩
theorem Tryz.sortI:Go.Proofs.Lays.n189 Tryz.prog Tryz.sortI_ren:={
 mixed:=by kernel_rfl
 f125:=Tryz.func150.trans (congrArg some (by kernel_rfl))
 f128:=Tryz.func175.trans (congrArg some (by kernel_rfl))
 f129:=Tryz.func144.trans (congrArg some (by kernel_rfl))
 f189:=Tryz.func133.trans (congrArg some (by kernel_rfl))
 f215:=Tryz.func186.trans (congrArg some (by kernel_rfl))
 f216:=Tryz.func172.trans (congrArg some (by kernel_rfl))
 f257:=Tryz.func149.trans (congrArg some (by kernel_rfl))
 f294:=Tryz.func166.trans (congrArg some (by kernel_rfl))
 f295:=Tryz.func167.trans (congrArg some (by kernel_rfl))
 f296:=Tryz.func168.trans (congrArg some (by kernel_rfl))
 f297:=Tryz.func169.trans (congrArg some (by kernel_rfl))
 f298:=Tryz.func170.trans (congrArg some (by kernel_rfl))
 f299:=Tryz.func171.trans (congrArg some (by kernel_rfl))
 f300:=Tryz.func173.trans (congrArg some (by kernel_rfl))
 f301:=Tryz.func174.trans (congrArg some (by kernel_rfl))
 f328:=Tryz.func181.trans (congrArg some (by kernel_rfl))
 f329:=Tryz.func182.trans (congrArg some (by kernel_rfl))
 f330:=Tryz.func183.trans (congrArg some (by kernel_rfl))
 f331:=Tryz.func184.trans (congrArg some (by kernel_rfl))
 f332:=Tryz.func185.trans (congrArg some (by kernel_rfl))
 f343:=Tryz.func191.trans (congrArg some (by kernel_rfl))
 t0:=Tryz.underlying0
 a0:=Tryz.isAgg0
 z0:=Tryz.sizeOf0
 v0:=Tryz.zeroValue0
 t3:=Tryz.underlying3
 a3:=Tryz.isAgg3
 z3:=Tryz.sizeOf3
 v3:=Tryz.zeroValue3
 t4:=Tryz.underlying4
 a4:=Tryz.isAgg4
 z4:=Tryz.sizeOf4
 v4:=Tryz.zeroValue4
 t5:=Tryz.underlying5
 a5:=Tryz.isAgg5
 z5:=Tryz.sizeOf5
 v5:=Tryz.zeroValue5
 t9:=Tryz.underlying9
 a9:=Tryz.isAgg9
 z9:=Tryz.sizeOf9
 v9:=Tryz.zeroValue9
 t28:=Tryz.underlying29
 a28:=Tryz.isAgg29
 z28:=Tryz.sizeOf29
 v28:=Tryz.zeroValue29
 t46:=Tryz.underlying117
 a46:=Tryz.isAgg117
 z46:=Tryz.sizeOf117
 v46:=Tryz.zeroValue117
 t51:=Tryz.underlying115
 a51:=Tryz.isAgg115
 z51:=Tryz.sizeOf115
 v51:=Tryz.zeroValue115
 t53:=Tryz.underlying22
 a53:=Tryz.isAgg22
 z53:=Tryz.sizeOf22
 v53:=Tryz.zeroValue22
 t131:=Tryz.underlying118
 a131:=Tryz.isAgg118
 z131:=Tryz.sizeOf118
 v131:=Tryz.zeroValue118
 t182:=Tryz.underlying240
 a182:=Tryz.isAgg240
 z182:=Tryz.sizeOf240
 v182:=Tryz.zeroValue240
 t183:=Tryz.underlying241
 a183:=Tryz.isAgg241
 z183:=Tryz.sizeOf241
 v183:=Tryz.zeroValue241
 t218:=Tryz.underlying253
 a218:=Tryz.isAgg253
 z218:=Tryz.sizeOf253
 v218:=Tryz.zeroValue253
 t222:=Tryz.underlying257
 a222:=Tryz.isAgg257
 z222:=Tryz.sizeOf257
 v222:=Tryz.zeroValue257
 t228:=Tryz.underlying263
 a228:=Tryz.isAgg263
 z228:=Tryz.sizeOf263
 v228:=Tryz.zeroValue263
 t229:=Tryz.underlying264
 a229:=Tryz.isAgg264
 z229:=Tryz.sizeOf264
 v229:=Tryz.zeroValue264 }
end Go.Proofs
namespace Go.Proofs.YtkfanhdicnjdlaaGreatDoor
open Go.GV Go.RowKit Go.Lib
def addS (n:Int) (s:List Int×Bool) (x:Int):List Int×Bool :=
 if !s.2 && decide (n<=x) then ((if n < x then s.1 ++ [n] else s.1) ++ [x],true) else (s.1 ++ [x],s.2)
def addI (l:List Int) (n:Int):List Int :=
 if (l.foldl (addS n) ([],false)).2 then (l.foldl (addS n) ([],false)).1 else (l.foldl (addS n) ([],false)).1 ++ [n]
def addR (n:Int):List Int->List Int
 | []=>[n]
 | x :: xs=>if n<=x then (if n < x then n :: x :: xs else x :: xs) else x :: addR n xs
theorem addS_done (n:Int):∀ (l o:List Int),l.foldl (addS n) (o,true)=(o ++ l,true)
 | [],o=>by simp
 | x :: xs,o=>by
  show xs.foldl (addS n) (addS n (o,true) x)=_
  have:addS n (o,true) x=(o ++ [x],true):=by simp [addS]
  rw [this,addS_done n xs (o ++ [x])]
  simp
theorem addS_fold (n:Int):∀ (l o:List Int),(if (l.foldl (addS n) (o,false)).2 then (l.foldl (addS n) (o,false)).1 else (l.foldl (addS n) (o,false)).1 ++ [n])=o ++ addR n l
 | [],o=>by simp [addR]
 | x :: xs,o=>by
  show (if (xs.foldl (addS n) (addS n (o,false) x)).2 then (xs.foldl (addS n) (addS n (o,false) x)).1 else (xs.foldl (addS n) (addS n (o,false) x)).1 ++ [n])=_
  unfold addR
  by_cases h:n<=x
  ·have e:addS n (o,false) x=((if n < x then o ++ [n] else o) ++ [x],true):=by simp [addS,h]
   rw [e,addS_done]
   rw [if_pos rfl,if_pos h]
   by_cases h2:n < x
   ·rw [if_pos h2,if_pos h2]; simp
   ·rw [if_neg h2,if_neg h2]; simp
  ·have e:addS n (o,false) x=(o ++ [x],false):=by simp [addS,h]
   rw [e,addS_fold n xs (o ++ [x]),if_neg h]
   simp
theorem addI_eq (l:List Int) (n:Int):addI l n=addR n l:=addS_fold n l []
theorem addR_mem (n:Int):∀ (l:List Int) (y:Int),y ∈ addR n l ↔ y=n\/y ∈ l
 | [],y=>by simp [addR]
 | x :: xs,y=>by
  unfold addR
  by_cases h:n<=x
  ·rw [if_pos h]
   by_cases h2:n < x
   ·rw [if_pos h2]; simp
   ·rw [if_neg h2]
    have:n=x:=by omega
    subst this
    simp
  ·rw [if_neg h]
   simp only [List.mem_cons,addR_mem n xs y]
   constructor
   ·rintro (h1 | h1 | h1)
    ·exact .inr (.inl h1)
    ·exact .inl h1
    ·exact .inr (.inr h1)
   ·rintro (h1 | h1 | h1)
    ·exact .inr (.inl h1)
    ·exact .inl h1
    ·exact .inr (.inr h1)
def AscI (l:List Int):Prop:=l.Pairwise (· < ·)
theorem addR_asc (n:Int):∀ {l:List Int},AscI l->AscI (addR n l)
 | [],_=>List.pairwise_singleton _ _
 | x :: xs,h=>by
  unfold addR
  have hc:=List.pairwise_cons.1 h
  by_cases h1:n<=x
  ·rw [if_pos h1]
   by_cases h2:n < x
   ·rw [if_pos h2]
    refine List.pairwise_cons.2 ⟨fun y hy=>?_,h⟩
    rcases List.mem_cons.1 hy with rfl | hy
    ·exact h2
    ·have:=hc.1 y hy; omega
   ·rw [if_neg h2]; exact h
  ·rw [if_neg h1]
   refine List.pairwise_cons.2 ⟨fun y hy=>?_,addR_asc n hc.2⟩
   rcases (addR_mem n xs y).1 hy with rfl | hy
   ·omega
   ·exact hc.1 y hy
theorem AscI.unique:∀ {a b:List Int},AscI a->AscI b->(∀ x,x ∈ a ↔ x ∈ b)->a=b
 | [],[],_,_,_=>rfl
 | [],y :: ys,_,_,h=>absurd ((h y).2 (List.mem_cons_self ..)) (by simp)
 | x :: xs,[],_,_,h=>absurd ((h x).1 (List.mem_cons_self ..)) (by simp)
 | x :: xs,y :: ys,ha,hb,h=>by
  have ha':=List.pairwise_cons.1 ha
  have hb':=List.pairwise_cons.1 hb
  have hxy:x=y:=by
   rcases List.mem_cons.1 ((h x).1 (List.mem_cons_self ..)) with e | e
   ·exact e
   ·rcases List.mem_cons.1 ((h y).2 (List.mem_cons_self ..)) with e' | e'
    ·exact e'.symm
    ·have:=hb'.1 x e; have:=ha'.1 y e'; omega
  subst hxy
  congr 1
  refine AscI.unique ha'.2 hb'.2 (fun z=>?_)
  constructor
  ·intro hz
   rcases List.mem_cons.1 ((h z).1 (List.mem_cons_of_mem _ hz)) with e | e
   ·subst e; have:=ha'.1 z hz; omega
   ·exact e
  ·intro hz
   rcases List.mem_cons.1 ((h z).2 (List.mem_cons_of_mem _ hz)) with e | e
   ·subst e; have:=hb'.1 z hz; omega
   ·exact e
def norm (l:List Int):List Int:=l.foldl addI []
theorem norm_both:∀ (l:List Int) (acc:List Int),AscI acc->AscI (l.foldl addI acc)/\∀ y,y ∈ l.foldl addI acc ↔ y ∈ acc\/y ∈ l
 | [],acc,h=>⟨h,by simp⟩
 | x :: xs,acc,h=>by
  obtain ⟨h1,h2⟩:=norm_both xs (addI acc x) (by rw [addI_eq]; exact addR_asc x h)
  refine ⟨h1,fun y=>?_⟩
  show y ∈ xs.foldl addI (addI acc x) ↔ _
  rw [h2,addI_eq,addR_mem,List.mem_cons]
  constructor
  ·rintro ((h3 | h3) | h3)
   ·exact .inr (.inl h3)
   ·exact .inl h3
   ·exact .inr (.inr h3)
  ·rintro (h3 | h3 | h3)
   ·exact .inl (.inr h3)
   ·exact .inl (.inl h3)
   ·exact .inr h3
theorem norm_asc (l:List Int):AscI (norm l):=(norm_both l [] List.Pairwise.nil).1
theorem norm_mem (l:List Int) (y:Int):y ∈ norm l ↔ y ∈ l:=by rw [norm,(norm_both l [] List.Pairwise.nil).2]; simp
theorem norm_eq {l r:List Int} (h:AscI r) (hm:∀ y,y ∈ r ↔ y ∈ l):r=norm l:=h.unique (norm_asc l) (fun y=>by rw [hm,norm_mem])
theorem addR_len (n:Int):∀ l:List Int,(addR n l).length<=l.length+1
 | []=>by simp [addR]
 | x :: xs=>by
  unfold addR
  split
  ·split <;> simp
  ·have:=addR_len n xs; simp; omega
theorem norm_len (l:List Int):(norm l).length<=l.length:=by
 have h:∀ (l acc:List Int),(l.foldl addI acc).length<=acc.length+l.length:=by
  intro l
  induction l with
  | nil=>intro acc; simp
  | cons x xs ih =>
   intro acc
   have h1:=ih (addI acc x)
   have h2:=addR_len x acc
   rw [<- addI_eq] at h2
   show (xs.foldl addI (addI acc x)).length<=_
   simp; omega
 have:=h l []
 simp only [List.length_nil,Nat.zero_add] at this
 exact this
theorem sort_nil (c:Nat) (w:World):Calls Tryz.prog 133 #[.slice none 0 c] w fun e w'=>e=.returned (.tuple #[])/\w'=w :=
 Any.slices_Sort_int_none Tryz.sortI none c w
open Go.Sort in
theorem sort_int (B:Nat) (e:TypeId) (b c:Nat) (l:List Int) (n:Nat) (w:World) (h:Row w B e 1 (some ⟨b,0,none⟩) n c (ivs l)) (hn:n < 4611686018427387904) :
  Calls Tryz.prog 133 #[.slice (some ⟨b,0,none⟩) n c] w fun e' w'=>e'=.returned (.tuple #[])/\Fr (fun k=>k=b) w w'/\∃ r,Row w' B e 1 (some ⟨b,0,none⟩) n c (ivs r)/\r.Perm l/\r.Pairwise (·<=·):=by
 have hrl:=sl_n h.sl
 have hlen:=h.len
 rcases h.at_ with ⟨h',_⟩ | ⟨b',cs,hA,hB,hh,hs,ht⟩
 ·cases h'
 injection hA with hA
 injection hA with hA
 subst hA
 have hH:Holds (Value.int .i64) w b 0 l.toArray:=by
  intro j hj
  have hj2:j < l.length:=by simpa using hj
  have e1:l.toArray[j]! = l[j]'hj2:=by
   rw [getElem!_pos l.toArray j hj]; simp
  rw [e1]
  constructor
  ·exact cellsAt_take hh ht j _ (ivs_at (at_lt hj2))
  ·simp [World.frozen?,hh]
 have hcon:=Any.slices_Sort_int Tryz.sortI b 0 c l w hH (heap_lt hh) (by omega)
 rw [hrl] at hcon
 refine Calls.mono hcon ?_
 rintro e' w' ⟨rfl,q,os,rfl⟩
 generalize hd:l.mergeSort (fun x y=>decide (x<=y))=d
 have hperm:d.Perm l:=by rw [<- hd]; exact List.mergeSort_perm _ _
 have hsrt:d.Pairwise (·<=·):=by
  have h1:=List.pairwise_mergeSort (le:=fun x y:Int=>decide (x<=y)) (fun a b c h1 h2=>by simp at *; omega) (fun a b=>by simp; omega) l
  rw [hd] at h1
  exact h1.imp (fun h=>of_decide_eq_true h)
 have hdl:d.length=n:=by rw [hperm.length_eq,hrl]
 have hle:=h.le
 have heap:∀ k,k < w.heap.size->(grow (putRow (Value.int .i64) (Go.Sort.ahead w q) b 0 d.toArray) os).heap[k]?=if k=b then some (.cells (putCells (Value.int .i64) 0 d.toArray cs) e) else w.heap[k]?:=by
  intro k hk
  show ((putRow (Value.int .i64) (Go.Sort.ahead w q) b 0 d.toArray).heap ++ os)[k]?=_
  have hsz:k < (putRow (Value.int .i64) (Go.Sort.ahead w q) b 0 d.toArray).heap.size:=by
   show k < ((Go.Sort.ahead w q).heap.modify b _).size
   rw [Array.size_modify]; exact hk
  rw [Array.getElem?_append_left hsz]
  show ((Go.Sort.ahead w q).heap.modify b (onCells (putCells (Value.int .i64) 0 d.toArray)))[k]?=_
  rw [Array.getElem?_modify]
  by_cases hkb:k=b
  ·subst hkb
   rw [if_pos rfl,if_pos rfl]
   show Option.map _ w.heap[k]?=_
   rw [hh]; rfl
  ·rw [if_neg (fun h=>hkb h.symm),if_neg hkb]; rfl
 refine ⟨rfl,⟨rfl,rfl,rfl,?_,fun k hk hn'=>?_⟩,d,⟨?_,hle,.inr ⟨b,putCells (Value.int .i64) 0 d.toArray cs,rfl,hB,?_,?_,?_⟩⟩,hperm,hsrt⟩
 ·show w.heap.size<=((putRow (Value.int .i64) (Go.Sort.ahead w q) b 0 d.toArray).heap ++ os).size
  have:(putRow (Value.int .i64) (Go.Sort.ahead w q) b 0 d.toArray).heap.size=w.heap.size:=by
   show ((Go.Sort.ahead w q).heap.modify b _).size=_
   rw [Array.size_modify]; rfl
  rw [Array.size_append]; omega
 ·rw [heap k hk,if_neg hn']
 ·rw [ivs_len,hdl]; omega
 ·rw [heap b (heap_lt hh),if_pos rfl]
 ·simp [putCells,hs]
 ·apply List.ext_getElem?
  intro j
  have hcsz:n<=cs.size:=by rw [hs]; omega
  by_cases hj:j < n
  ·rw [List.getElem?_take,if_pos (by omega),Array.getElem?_toList]
   unfold putCells
   rw [Array.getElem?_mapIdx,Array.getElem?_eq_getElem (show j < cs.size by omega),Option.map_some,if_pos ⟨Nat.zero_le _,by simp; omega⟩]
   rw [Nat.sub_zero,getElem!_pos d.toArray j (by simp; omega),ivs_at (at_lt (by omega))]
   simp
  ·rw [List.getElem?_take,if_neg (by omega),List.getElem?_eq_none (by rw [ivs_len,hdl]; omega)]
theorem row_put {w:World} {B:Nat} {e:TypeId} {sz:Nat} {A:Option Addr} {n c:Nat} {vs us:List Value} {o':Nat} {K:World->Prop} (hr:Row w B e sz A n c vs) (hn:n ≠ 0) (hfit:o'+us.length<=n * sz) (h1:∀ v ∈ us,v.oneCell'=true)
  (hK:∀ w',Row w' B e sz A n c (splice vs o' us)->Fr (fun k=>blkOf A=some k) w w'->K w'):dr A fun b o=>st w b (o+o') us K:=by
 rcases hr.at_ with ⟨_,h0,_⟩ | ⟨b,cs,rfl,hB,hh,hs,ht⟩
 ·exact absurd h0 hn
 ·have hle:=hr.le
  have hl:=hr.len
  have hmul:n * sz<=c * sz:=Nat.mul_le_mul_right _ hle
  show st w b (0+o') us K
  rw [Nat.zero_add]
  have hfit2:o'+us.length<=cs.toList.length:=by simp; omega
  refine ⟨⟨cs,e,0,0,hh,by simpa using hfit2,.inl (Nat.zero_le _)⟩,h1,hK _ ⟨by rw [splice_length (by omega)]; exact hl,hle,.inr ⟨b,_,rfl,hB,stB_heap hh,?_,?_⟩⟩ (Fr.st (fun _=>rfl))⟩
  ·simp only [List.size_toArray]; rw [splice_length hfit2]; simpa using hs
  ·apply List.ext_getElem?
   intro j
   simp only [List.getElem?_take]
   by_cases hj:j < n * sz
   ·rw [if_pos hj,splice_get hfit2,splice_get (by omega),<- ht]
    simp only [List.getElem?_take]
    by_cases h2:j < o'
    ·rw [if_pos h2,if_pos h2,if_pos hj]
    ·rw [if_neg h2,if_neg h2]
     split
     ·rfl
     ·first | rfl | rw [if_pos hj]
   ·rw [if_neg hj,List.getElem?_eq_none (by rw [splice_length (by omega)]; omega)]
theorem row_cut {w:World} {B:Nat} {e:TypeId} {sz:Nat} {A:Option Addr} {n c k:Nat} {vs:List Value} (hr:Row w B e sz A n c vs) (hk:k<=n):Row w B e sz A k c (vs.take (k * sz)):=by
 have hl:=hr.len
 have hle:=hr.le
 have hmul:k * sz<=n * sz:=Nat.mul_le_mul_right _ hk
 refine ⟨by rw [List.length_take]; omega,by omega,?_⟩
 rcases hr.at_ with ⟨h1,h2,h3⟩ | ⟨b,cs,h1,h2,h3,h4,h5⟩
 ·exact .inl ⟨h1,by omega,h3⟩
 ·refine .inr ⟨b,cs,h1,h2,h3,h4,?_⟩
  rw [<- h5,List.take_take,Nat.min_eq_left hmul]
theorem ivs_set {P:List Int} {k:Nat} {x:Int} (hk:k < P.length):ivs (P.set k x)=splice (ivs P) (k * 1) [.int .i64 x]:=by
 have hfit:k * 1+[Value.int .i64 x].length<=(ivs P).length:=by rw [ivs_len]; simp; omega
 apply List.ext_getElem?
 intro t
 rw [splice_get hfit]
 simp only [Nat.mul_one,List.length_singleton,ivs,List.map_set]
 by_cases h1:t < k
 ·rw [if_pos h1,List.getElem?_set_ne (by omega)]
 ·rw [if_neg h1]
  by_cases h2:t < k+1
  ·have:t=k:=by omega
   subst this
   rw [if_pos h2,List.getElem?_set_self (by simpa using hk)]
   simp
  ·rw [if_neg h2,List.getElem?_set_ne (by omega)]
theorem row_clear {w:World} {B:Nat} {e:TypeId} {b n c k:Nat} {P:List Int} {K:World->Prop} (hr:Row w B e 1 (some ⟨b,0,none⟩) n c (ivs P)) (hk:k < n)
  (hK:∀ w',Row w' B e 1 (some ⟨b,0,none⟩) k c (ivs (P.take k))->Fr (fun j=>j=b) w w'->K w'):dr (slA (some (⟨b,0,none⟩:Addr)) c k 1) fun b o=>st w b o (zeros (n - k) [Value.int .i64 0]) K:=by
 have hle:=hr.le
 have hPl:=sl_n hr.sl
 have hsk:slA (some (⟨b,0,none⟩:Addr)) c k 1=some ⟨b,0+k * 1,none⟩:=by
  unfold slA
  rw [if_neg (by omega),Option.map_some,add_none]
 rw [hsk]
 refine row_put (A:=some ⟨b,0,none⟩) (o':=k * 1) hr (by omega) (by rw [zeros_length]; simp; omega) (fun v hv=>?_) (fun u2 hr2 f2=>hK u2 ?_ (f2.mono (fun j _ hj=>by simpa [blkOf] using hj.symm)))
 ·simp only [zeros,List.mem_flatten,List.mem_replicate] at hv
  obtain ⟨l,⟨_,rfl⟩,hv⟩:=hv
  simp at hv; subst hv; rfl
 ·have hcut:=row_cut hr2 (k:=k) (by omega)
  have e:(splice (ivs P) (k * 1) (zeros (n - k) [Value.int .i64 0])).take (k * 1)=ivs (P.take k):=by
   unfold splice
   rw [List.append_assoc,List.take_append_of_le_length (by rw [List.length_take,ivs_len]; omega),List.take_take,Nat.min_self,Nat.mul_one,ivs_take]
  rw [e] at hcut
  exact hcut
theorem slA_zero (b c:Nat):slA (some (⟨b,0,none⟩:Addr)) c 0 1=some ⟨b,0,none⟩:=by
 unfold slA
 split
 ·rfl
 ·simp [Addr.add]
def cpt (r:List Int):Nat->List Int
 | 0=>[]
 | n+1=>cpt r n ++ (if n ≠ 0/\r[n]?=r[n - 1]? then [] else r[n]?.toList)
theorem cpt_mem (r:List Int):∀ n d,d ∈ cpt r n ↔ d ∈ r.take n
 | 0,d=>by simp [cpt]
 | n+1,d=>by
  have ih:=cpt_mem r n d
  rw [cpt,List.take_add_one,List.mem_append,List.mem_append,ih]
  by_cases h:n ≠ 0/\r[n]?=r[n - 1]?
  ·rw [if_pos h]
   constructor
   ·intro h'; exact h'.elim .inl (fun h=>by cases h)
   ·rintro (h' | h')
    ·exact .inl h'
    ·left
     rw [h.2] at h'
     cases hr:r[n - 1]? with
     | none=>rw [hr] at h'; cases h'
     | some x =>
      rw [hr] at h'
      simp at h'
      subst h'
      exact List.mem_of_getElem? (i:=n - 1) (by rw [List.getElem?_take,if_pos (by omega)]; exact hr)
  ·rw [if_neg h]
theorem cpt_asc {r:List Int} (h:r.Pairwise (·<=·)):∀ n,n<=r.length->AscI (cpt r n)
 | 0,_=>List.Pairwise.nil
 | n+1,hn=>by
  have ih:=cpt_asc h n (by omega)
  rw [cpt]
  by_cases hc:n ≠ 0/\r[n]?=r[n - 1]?
  ·rw [if_pos hc,List.append_nil]; exact ih
  ·rw [if_neg hc,List.getElem?_eq_getElem (by omega)]
   refine List.pairwise_append.2 ⟨ih,by simp,fun a ha b hb=>?_⟩
   simp at hb
   subst hb
   have ha':=(cpt_mem r n a).1 ha
   obtain ⟨i,hi,hai⟩:=List.mem_iff_getElem.1 ha'
   rw [List.length_take] at hi
   rw [List.getElem_take] at hai
   have hn0:n ≠ 0:=by omega
   have hprev:r[n - 1]'(by omega) ≠ r[n]'(by omega):=by
    intro he
    apply hc
    refine ⟨hn0,?_⟩
    rw [List.getElem?_eq_getElem (by omega),List.getElem?_eq_getElem (by omega),he]
   have hp:=List.pairwise_iff_getElem.1 h
   have h2:=hp (n - 1) n (by omega) (by omega) (by omega)
   subst hai
   by_cases hin:i=n - 1
   ·subst hin; omega
   ·have h3:=hp i (n - 1) (by omega) (by omega) (by omega)
    omega
theorem compact_int (B:Nat) (e:TypeId) (A:Option Addr) (c:Nat) (r:List Int) (n:Nat) (w:World) (h:Row w B e 1 A n c (ivs r)) (hn:n<=1099511627776) :
  Calls Tryz.prog 134 #[.slice A n c] w fun e' w'=>e'=.returned (.slice A (cpt r n).length c)/\Fr (fun k=>blkOf A=some k) w w'/\Row w' B e 1 A (cpt r n).length c (ivs (cpt r n)):=by
 refine (F134.of A n c w (Q:=fun v w'=>v=.slice A (cpt r n).length c/\Fr (fun k=>blkOf A=some k) w w'/\Row w' B e 1 A (cpt r n).length c (ivs (cpt r n))) ?_).mono (fun e w' ⟨v,he,hv,h⟩=>⟨by rw [he,hv],h⟩)
 have hrl:=sl_n h.sl
 have whole:∀ i,i<=n->cpt r i=r.take i->i=n->∀ u,Fr (fun k=>blkOf A=some k) w u->Row u B e 1 A n c (ivs r)->(Value.slice A n c=.slice A (cpt r n).length c/\Fr (fun k=>blkOf A=some k) w u/\Row u B e 1 A (cpt r n).length c (ivs (cpt r n))):=by
  intro i hi hc he u hf hr
  subst he
  rw [hc,List.take_of_length_le (by omega),hrl]
  exact ⟨rfl,hf,hr⟩
 refine vIf_mk (fun h2=>?_) (fun h2=>jnC_mk ?_)
 ·have h2:(n:Int) < 2:=of_decide_eq_true h2
  refine whole n (Nat.le_refl _) ?_ rfl w (Fr.refl _ _) h
  match n,h2 with
  | 0,_=>rfl
  | 1,_=>simp [cpt,List.take_one,List.head?_eq_getElem?]
  | n+2,h2=>omega
 have h2:¬ (n:Int) < 2:=of_decide_eq_false h2
 have hle:=h.le
 obtain ⟨b,hA⟩:∃ b,A=some ⟨b,0,none⟩:=by
  rcases h.at_ with ⟨_,h0,_⟩ | ⟨b,_,hA,_⟩
  ·omega
  ·exact ⟨b,hA⟩
 subst hA
 refine loop_rule (fun s u=>Fr (fun k=>blkOf (some (⟨b,0,none⟩:Addr))=some k) w u/\Row u B e 1 (some ⟨b,0,none⟩) n c (ivs r)/\∃ i:Nat,1<=i/\i<=n/\s=((some ⟨b,0,none⟩,n,c),(i:Int),())/\cpt r i=r.take i)
  (fun s _=>(n - s.2.1).toNat) ?_ _ _ ⟨Fr.refl _ _,h,1,by omega,by omega,rfl,by simp [cpt,List.take_one,List.head?_eq_getElem?]⟩
 rintro s u C4 ⟨hf,hr,i,hi1,hi,rfl,hc⟩ hC4 _
 refine vIf_mk (fun hlt=>?_) (fun hge=>?_)
 ·have hlt2:(i:Int) < (n:Int):=of_decide_eq_true hlt
  have hrd:=(Fr.drew (fun _=>False) u).row hr (fun _ _ h=>h)
  have ei1:IntKind.wrap .i64 ((i:Int) - 1)=((i - 1:Nat):Int):=by rw [i64_id (by omega) (by omega)]; omega
  have gi:=at_lt (l:=r) (i:=i) (by omega)
  have gp:=at_lt (l:=r) (i:=i - 1) (by omega)
  dsimp only
  rw [ei1]
  refine sl_rd hrd.sl (by omega) gi (sl_rd hrd.sl (by omega) gp ?_)
  refine vIf_mk (fun he=>?_) (fun hne=>?_)
  ·have he:r[i]'(by omega)=r[i - 1]'(by omega):=by simpa using he
   have hsame:cpt r (i+1)=r.take i:=by
    rw [cpt,if_pos ⟨by omega,by rw [gi,gp,he]⟩,List.append_nil,hc]
   refine gd_mk (decide_eq_true (by omega)) (gd_mk (decide_eq_true (by omega)) (jnC_mk ?_))
   rw [Int.toNat_natCast]
   have hsl:slA (some (⟨b,0,none⟩:Addr)) c i 1=some ⟨b,0+i * 1,none⟩:=by
    unfold slA
    rw [if_neg (by omega),Option.map_some,add_none]
   rw [hsl]
   refine loop_rule (fun s u=>Fr (fun k=>blkOf (some (⟨b,0,none⟩:Addr))=some k) w u/\∃ (j:Nat) (P:List Int),1<=j/\i+j<=n/\P.length=n/\Row u B e 1 (some ⟨b,0,none⟩) n c (ivs P)/\(cpt r (i+j)).length < i+j/\P.take (cpt r (i+j)).length=cpt r (i+j)/\P.drop (cpt r (i+j)).length=r.drop (cpt r (i+j)).length /\
     s=((some ⟨b,0,none⟩,n,c),(((cpt r (i+j)).length:Nat):Int),(some ⟨b,0+i * 1,none⟩,n - i,c - i),(j:Int),()))
    (fun s _=>(n - s.2.2.2.1).toNat) ?_ _ _ ⟨hf.trans (Fr.drew (fun _=>False) u) (fun _ _ h=>h) (fun _ _ h=>h.elim),1,r,by omega,by omega,hrl,hrd,?_,?_,?_,?_⟩
   rotate_left
   ·rw [hsame,List.length_take]; omega
   ·rw [hsame,List.length_take,Nat.min_eq_left (by omega)]
   ·rfl
   ·rw [hsame,List.length_take,Nat.min_eq_left (by omega)]; rfl
   clear hC4 hf hr hrd
   rintro s u C9 ⟨hf,j,P,hj1,hjn,hPl,hr,hk,htk,hdp,rfl⟩ hC9 _
   generalize hkk:(cpt r (i+j)).length=k at hk htk hdp
   have hrd:=(Fr.drew (fun _=>False) u).row hr (fun _ _ h=>h)
   have hget:∀ q,k<=q->P[q]?=r[q]?:=by
    intro q hq
    have h1:(P.drop k)[q - k]?=(r.drop k)[q - k]?:=by rw [hdp]
    rw [List.getElem?_drop,List.getElem?_drop,show k+(q - k)=q by omega] at h1
    exact h1
   have tail:Sl u.drew 1 (some (⟨b,0+i * 1,none⟩:Addr)) (n - i) (ivs (P.drop i)):=by
    refine ⟨by rw [ivs_len,List.length_drop]; omega,fun _=>⟨b,0+i * 1,rfl,fun q v hq=>?_⟩⟩
    obtain ⟨b',o',hA,hcell⟩:=hrd.sl.2 (by omega)
    cases hA
    have:=hcell (i+q) v (by
     unfold ivs at hq ⊢
     rw [List.getElem?_map,List.getElem?_drop] at hq
     rw [List.getElem?_map]; exact hq)
    rw [show 0+i * 1+q=0+(i+q) by omega]; exact this
   refine vIf_mk (fun hlt=>?_) (fun hge=>?_)
   ·have hlt3:(j:Int) < ((n - i:Nat):Int):=of_decide_eq_true hlt
    have ej:IntKind.wrap .i64 ((j:Int) - 1)=((j - 1:Nat):Int):=by rw [i64_id (by omega) (by omega)]; omega
    have gi:=at_lt (l:=r) (i:=i+j) (by omega)
    have gp:=at_lt (l:=r) (i:=i+j - 1) (by omega)
    have ti:(P.drop i)[j]?=some (r[i+j]'(by omega)):=by rw [List.getElem?_drop,hget _ (by omega),gi]
    have tp:(P.drop i)[j - 1]?=some (r[i+j - 1]'(by omega)):=by rw [List.getElem?_drop,show i+(j - 1)=i+j - 1 by omega,hget _ (by omega),gp]
    dsimp only
    rw [ej]
    refine sl_rd tail (by omega) ti (sl_rd tail (by omega) tp ?_)
    have enext:IntKind.wrap .i64 ((j:Int)+1)=((j+1:Nat):Int):=by rw [i64_id (by omega) (by omega)]; rfl
    refine vIf_mk (fun hne=>?_) (fun he=>?_)
    ·have hne2:r[i+j]'(by omega) ≠ r[i+j - 1]'(by omega):=by simpa using hne
     have hnx:cpt r (i+(j+1))=cpt r (i+j) ++ [r[i+j]'(by omega)]:=by
      rw [<- Nat.add_assoc,cpt,if_neg,gi,Option.toList_some]
      rintro ⟨_,h'⟩
      rw [gi,gp] at h'
      exact hne2 (Option.some.inj h')
     refine sl_rd tail (by omega) ti (dr_mk (gd_mk (decide_eq_true (by omega)) (gd_mk (decide_eq_true (by omega)) ?_)))
     simp only [Int.toNat_natCast]
     refine row_put (A:=some ⟨b,0,none⟩) (o':=k * 1) hrd (by omega) (by simp; omega) (fun v hv=>by simp at hv; subst hv; rfl) (fun u2 hr2 f2=>jnC_mk (hC9 _ _ ⟨?_,j+1,P.set k (r[i+j]'(by omega)),by omega,by omega,by simpa using hPl,?_,?_,?_,?_,?_⟩ ?_))
     ·exact (hf.trans (Fr.drew (fun _=>False) u) (fun _ _ h=>h) (fun _ _ h=>h.elim)).trans1 f2
     ·rw [ivs_set (by omega)]; exact hr2
     ·rw [hnx,List.length_append,hkk]; simp; omega
     ·rw [hnx,List.length_append,hkk]
      show (P.set k _).take (k+1)=_
      rw [List.take_add_one,List.getElem?_set_self (by omega),Option.toList_some,List.take_set_of_le (Nat.le_refl k),htk]
     ·rw [hnx,List.length_append,hkk]
      show (P.set k _).drop (k+1)=r.drop (k+1)
      rw [List.drop_set_of_lt (by omega)]
      have h3:=congrArg (List.drop 1) hdp
      rw [List.drop_drop,List.drop_drop] at h3
      exact h3
     ·rw [hnx,List.length_append,hkk,enext]
      show (_,IntKind.wrap .i64 ((k:Int)+1),_,_,())=_
      rw [i64_id (by omega) (by omega)]; rfl
     ·show ((n:Int) - IntKind.wrap .i64 ((j:Int)+1)).toNat < ((n:Int) - (j:Int)).toNat
      rw [enext]; omega
    ·have he2:r[i+j]'(by omega)=r[i+j - 1]'(by omega):=by simpa using he
     have hnx:cpt r (i+(j+1))=cpt r (i+j):=by
      rw [<- Nat.add_assoc,cpt,if_pos ⟨by omega,by rw [gi,gp,he2]⟩,List.append_nil]
     refine jnC_mk (hC9 _ _ ⟨hf.trans (Fr.drew (fun _=>False) u) (fun _ _ h=>h) (fun _ _ h=>h.elim),j+1,P,by omega,by omega,hPl,hrd,by rw [hnx,hkk]; omega,by rw [hnx,hkk]; exact htk,by rw [hnx,hkk]; exact hdp,?_⟩ ?_)
     ·rw [hnx,hkk,enext]
     ·show ((n:Int) - IntKind.wrap .i64 ((j:Int)+1)).toNat < ((n:Int) - (j:Int)).toNat
      rw [enext]; omega
   ·have hge3:¬ (j:Int) < ((n - i:Nat):Int):=of_decide_eq_false hge
    have hij:i+j=n:=by omega
    rw [hij] at hkk htk
    dsimp only
    simp only [Int.toNat_natCast]
    refine gd_mk (decide_eq_true (by omega)) (gd_mk (decide_eq_true (by omega)) (vIf_f (by simp; omega) ?_))
    refine row_clear hr (by omega) (fun u2 hr2 f2=>jnC_mk (fun _=>?_))
    refine gd_mk (decide_eq_true (by show (0:Int)<=(k:Int); omega)) (gd_mk (decide_eq_true (by show (k:Int)<=(c:Int); omega)) ⟨?_,hf.trans1 (f2.mono (fun q _ hq=>by subst hq; rfl)),?_⟩)
    ·show Value.slice (slA (some ⟨b,0,none⟩) c 0 1) ((k:Int).toNat) c=_
     rw [Int.toNat_natCast,hkk,slA_zero]
    ·rw [hkk]
     rw [htk] at hr2
     exact hr2
  ·have hne2:r[i]'(by omega) ≠ r[i - 1]'(by omega):=by simpa using hne
   refine jnC_mk (hC4 _ _ ⟨hf.trans (Fr.drew (fun _=>False) u) (fun _ _ h=>h) (fun _ _ h=>h.elim),hrd,i+1,by omega,by omega,?_,?_⟩ ?_)
   ·show (_,IntKind.wrap .i64 ((i:Int)+1),())=_
    rw [i64_id (by omega) (by omega)]; rfl
   ·rw [cpt,if_neg,hc,List.take_add_one]
    rintro ⟨_,h'⟩
    rw [gi,gp] at h'
    exact hne2 (Option.some.inj h')
   ·show ((n:Int) - IntKind.wrap .i64 ((i:Int)+1)).toNat < ((n:Int) - (i:Int)).toNat
    rw [i64_id (by omega) (by omega)]; omega
 ·have hge2:¬ (i:Int) < (n:Int):=of_decide_eq_false hge
  exact whole i hi hc (by omega) u hf hr
end Go.Proofs.YtkfanhdicnjdlaaGreatDoor
namespace Go.Proofs.YtkfanhdicnjdlaaGreatDoor
open Go.GV Go.RowKit Go.Lib Go.Stb
theorem sc_calls (B:Nat) (A:Option Addr) (n c:Nat) (r:List Int) (w:World) (h:Row w B 3 1 A n c (ivs r)) (hn:n<=1099511627776) :
  Calls Tryz.prog 133 #[.slice A n c] w fun e w1=>e=.returned (.tuple #[])/\Calls Tryz.prog 134 #[.slice A n c] w1 fun e2 w2=>Fr (fun k=>blkOf A=some k) w w2/\e2=.returned (.slice A (norm r).length c)/\Row w2 B 3 1 A (norm r).length c (ivs (norm r)):=by
 have hrl:=sl_n h.sl
 have fin:∀ (u:World) (r1:List Int),Fr (fun k=>blkOf A=some k) w u->Row u B 3 1 A n c (ivs r1)->r1.Perm r->r1.Pairwise (·<=·) ->
   Calls Tryz.prog 134 #[.slice A n c] u fun e2 w2=>Fr (fun k=>blkOf A=some k) w w2/\e2=.returned (.slice A (norm r).length c)/\Row w2 B 3 1 A (norm r).length c (ivs (norm r)):=by
  intro u r1 fu hr1 hp hs
  have hl1:=sl_n hr1.sl
  refine (compact_int B _ A c r1 n u hr1 hn).mono ?_
  rintro e w8 ⟨rfl,f8,h8⟩
  have heq:cpt r1 n=norm r:=norm_eq (cpt_asc hs _ (by omega)) (fun y=>by rw [cpt_mem,List.take_of_length_le (by omega)]; exact hp.mem_iff)
  rw [heq] at h8 ⊢
  exact ⟨fu.trans1 f8,rfl,h8⟩
 cases A with
 | none =>
  have hn0:n=0/\c=0:=by
   rcases h.at_ with ⟨_,h',h''⟩ | ⟨_,_,h',_⟩
   ·exact ⟨h',h''⟩
   ·cases h'
  obtain ⟨rfl,rfl⟩:=hn0
  have:r=[]:=List.length_eq_zero_iff.1 hrl
  subst this
  refine (sort_nil 0 w).mono ?_
  rintro e w2 ⟨rfl,rfl⟩
  exact ⟨rfl,fin w2 [] (Fr.refl _ _) h (List.Perm.refl _) List.Pairwise.nil⟩
 | some a =>
  have ha:∃ b,a=⟨b,0,none⟩:=by
   rcases h.at_ with ⟨h',_⟩ | ⟨b,_,h',_⟩
   ·cases h'
   ·exact ⟨b,Option.some.inj h'⟩
  obtain ⟨b,rfl⟩:=ha
  refine (sort_int B _ b c r n w h (by omega)).mono ?_
  rintro e w2 ⟨rfl,f2,r2,hr2,hp,hs⟩
  exact ⟨rfl,fin w2 r2 (f2.mono (fun k _ hk=>by subst hk; rfl)) hr2 hp hs⟩
def idsU (F:Fo):Nat->List Int
 | 0=>[]
 | n+1=>idsU F n ++ (behF F (n:Nat)).map (·.2)
def idsF (F:Fo):List Int:=norm (idsU F (F.P.length+1))
theorem idsU_len {F:Fo} (hb:FoB F):∀ n,(idsU F n).length<=n * 349525
 | 0=>by simp [idsU]
 | n+1=>by
  have ih:=idsU_len hb n
  have h1:=behF_len F (n:Nat)
  have h2:F.L.length+F.P.length<=349525:=hb
  rw [idsU,List.length_append,List.length_map,Nat.add_mul]
  omega
theorem norm_len' (l:List Int):(norm l).length<=l.length:=norm_len l
theorem snd_step {l:List Nm} {j:Nat} {x:Nm} (h:l[j]?=some x):(l.take (j+1)).map (·.2)=(l.take j).map (·.2) ++ [x.2]:=by rw [List.take_add_one,h]; simp
theorem push_int2 {w:World} {B:Nat} {A:Option Addr} {n c:Nat} {out:List Int} {x:Int} {K:Option Addr->Nat->Nat->World->Prop} (hr:Row w B 3 1 A n c (ivs out)) (hB:B<=w.heap.size) (hn:n<=2199023255552)
  (hK:∀ A' c' w',Row w' B 3 1 A' (n+1) c' (ivs (out ++ [x]))->Fr (fun k=>blkOf A=some k) w w'->(∀ k,blkOf A'=some k->blkOf A=some k\/w.heap.size<=k)->K A' (n+1) c' w'):nw w ([Value.int .i64 x] ++ []) 3 fun b w'=>app w' 1 8 [Value.int .i64 0] 3 A n c (.slice (some ⟨b,0,none⟩) 1 1) K:=by
 refine nw_mk ?_
 rw [List.append_nil]
 have f1:Fr (fun _=>False) w (w.alloc (.cells [Value.int .i64 x].toArray 3)):=Fr.alloc _ _ _
 have r1:Row (w.alloc (.cells [Value.int .i64 x].toArray 3)) 0 3 1 (some ⟨w.heap.size,0,none⟩) 1 1 (ivs [x]):=Row.new (Nat.zero_le _) rfl
 have hs:(w.alloc (.cells [Value.int .i64 x].toArray 3)).heap.size=w.heap.size+1:=alloc_size _ _
 generalize w.alloc (.cells [Value.int .i64 x].toArray 3)=w1 at f1 r1 hs ⊢
 refine app_row2 (f1.row hr (fun _ _ h=>h)) r1.sl.src (ivs_one [x]) rfl (by omega) (by omega) (by omega) (fun A' c' w' hr' f' hb'=>hK A' c' w' (by rw [ivs_app]; exact hr') ?_ (fun k hk=>(hb' k hk).imp id (fun h=>by omega)))
 exact f1.trans f' (fun _ _ h=>h.elim) (fun _ _ h=>h)
set_option maxHeartbeats 1000000 in
theorem ids_calls [Ow] (cs:List Value) (F:Fo) (w:World) (h:FoAt w cs F) (hb:FoB F) :
  Calls Tryz.prog 108 #[ofL cs] w fun e w'=>Fr (fun _=>False) w w'/\∃ A' c',e=.returned (.slice A' (idsF F).length c')/\Row w' w.heap.size 3 1 A' (idsF F).length c' (ivs (idsF F)):=by
 refine (F108.of cs w (Q:=fun v w'=>Fr (fun _=>False) w w'/\∃ A' c',v=.slice A' (idsF F).length c'/\Row w' w.heap.size 3 1 A' (idsF F).length c' (ivs (idsF F))) ?_).mono (fun e w' ⟨v,he,hf,A',c',hv,h⟩=>⟨hf,A',c',by rw [he,hv],h⟩)
 have hb':F.L.length+F.P.length<=349525:=hb
 refine fo_new (fun b w1 f1 _ r1=>?_)
 have h1:=h.fr0 f1
 have hcl:=h.len
 obtain ⟨A,m,c,A',m',c',rfl,hL,hP,hPc⟩:=h
 have hPl:=hP.2
 refine ⟨A',m',c',r1.cell rfl,?_⟩
 have em:IntKind.wrap .i64 (((m':Nat):Int)+1)=((m'+1:Nat):Int):=ei m' (by omega)
 dsimp only
 rw [em]
 have hs1:=f1.size
 refine jnC_mk (loop_rule (fun s u=>Fr (fun _=>False) w1 u/\∃ (i:Nat) (A2:Option Addr) (c2:Nat),i<=m'+1/\s=((b,0),(A2,(idsU F i).length,c2),((m'+1:Nat):Int),(i:Int),())/\Row u w1.heap.size 3 1 A2 (idsU F i).length c2 (ivs (idsU F i)))
  (fun s _=>(m'+1 - s.2.2.2.1).toNat) ?_ _ _ ⟨Fr.refl _ _,0,none,0,by omega,rfl,Row.nil _ _ _ _⟩)
 rintro s u C3 ⟨hf,i,A2,c2,hi,rfl,h2⟩ hC3 _
 have hlen:=idsU_len hb i
 have hi2:i * 349525<=349526 * 349525:=Nat.mul_le_mul_right _ (by omega)
 refine vIf_mk (fun hlt=>?_) (fun hge=>?_)
 ·have hlt2:(i:Int) < ((m'+1:Nat):Int):=of_decide_eq_true hlt
  refine ⟨[.slice A m c,.slice A' m' c'],rfl,rec_rd (r1.fr hf (fun h=>h)),(beh_calls _ F (i:Int) u (h1.fr0 hf) hb).mono ?_⟩
  rintro r u2 ⟨f2,A3,c3,rfl,h3⟩
  have hbl:=behF_len F (i:Nat)
  have hU:idsU F (i+1)=idsU F i ++ (behF F (i:Nat)).map (·.2):=rfl
  generalize behF F ((i:Nat):Int)=l at h3 hbl hU ⊢
  have h2':=f2.row h2 (fun _ _ h=>h)
  refine ⟨_,_,_,rfl,jnC_mk (loop_rule (fun s v=>Fr (fun _=>False) w1 v/\NSl v A3 l.length l/\∃ (j:Nat) (A4:Option Addr) (c4:Nat),j<=l.length/\s=((b,0),(A4,(idsU F i).length+j,c4),((m'+1:Nat):Int),(i:Int),(A3,l.length,c3),((l.length:Nat):Int),(j:Int),())/\Row v w1.heap.size 3 1 A4 ((idsU F i).length+j) c4 (ivs (idsU F i ++ (l.take j).map (·.2)))/\(∀ k,blkOf A4=some k->blkOf A3 ≠ some k))
   (fun s _=>(l.length - s.2.2.2.2.2.2.1).toNat) ?_ _ _ ⟨hf.trans1 f2,h3.sl,0,A2,c2,by omega,rfl,by simpa using h2',fun k hk h=>by have:=(h2.blt hk).2; have:=(h3.1.blt h).1; omega⟩)⟩
  rintro s v C6 ⟨fv,hl,j,A4,c4,hj,rfl,h4,hne⟩ hC6 _
  refine vIf_mk (fun hlt=>?_) (fun hge=>?_)
  ·have hlt3:(j:Int) < (l.length:Int):=of_decide_eq_true hlt
   have gj:l[j]?=some (l[j]'(by omega)):=List.getElem?_eq_getElem (by omega)
   generalize l[j]'(by omega)=x at gj
   have hst:=snd_step gj
   refine n_rd hl gj rfl (nw_mk (gd_mk rfl ?_))
   have q1:Fr (fun _=>False) v (v.alloc (.cells [Value.string (⟨#[]⟩:ByteArray),Value.int .i64 0].toArray 160)):=Fr.alloc _ _ _
   have s1:=RecAt.new v [Value.string (⟨#[]⟩:ByteArray),Value.int .i64 0] 160
   have hb15:∀ k,k < v.heap.size->k ≠ v.heap.size:=fun k hk=>by omega
   have hA4b:∀ k,blkOf A4=some k->k ≠ v.heap.size:=fun k hk=>hb15 k (h4.blt hk).2
   have hA3b:l.length ≠ 0->∀ k,blkOf A3=some k->k ≠ v.heap.size:=fun h0 k hk=>hb15 k (hl.1.blt (by decide) h0 hk)
   generalize hbb:v.heap.size=b15 at s1 hA4b hA3b ⊢
   generalize v.alloc (.cells [Value.string (⟨#[]⟩:ByteArray),Value.int .i64 0].toArray 160)=v1 at q1 s1 ⊢
   refine fo_st s1 (by rfl) (encN_o.one x) (fun v2 q2 s2=>⟨x.2,s2.cell rfl,?_⟩)
   have hl1:=hl.fr0 q1
   have h41:=q1.row h4 (fun _ _ h=>h)
   have hl2:NSl v2 A3 l.length l:=⟨q2.sl hl1.1 hA3b,hl1.2⟩
   have h42:=q2.row h41 hA4b
   have fv2:Fr (fun _=>False) w1 v2:=(fv.trans1 q1).trans q2 (fun _ _ h=>h) (fun k hk h=>by have:=fv.size; omega)
   refine push_int2 h42 (by have:=fv2.size; omega) (by dsimp only; omega) (fun A5 c5 v3 h5 q3 hA5=>jnC_mk (hC6 _ _ ⟨?_,?_,j+1,A5,c5,by omega,by rw [ei j (by omega)]; rfl,?_,?_⟩ ?_))
   ·exact fr_own fv2 (fun k hk=>(h42.blt hk).1) (Nat.le_refl _) q3
   ·exact ⟨q3.sl hl2.1 (fun _ k hk h=>hne k h hk),hl2.2⟩
   ·rw [hst,<- List.append_assoc]; exact h5
   ·intro k hk h
    rcases hA5 k hk with h' | h'
    ·exact hne k h' h
    ·have:=hl2.1.blt (by decide) (by omega) h
     omega
   ·show ((l.length:Int) - IntKind.wrap .i64 ((j:Int)+1)).toNat < ((l.length:Int) - (j:Int)).toNat
    rw [ei j (by omega)]; omega
  ·have hge3:¬ (j:Int) < (l.length:Int):=of_decide_eq_false hge
   have hjl:j=l.length:=by omega
   subst hjl
   rw [List.take_length,<- hU] at h4
   have hUl:(idsU F i).length+l.length=(idsU F (i+1)).length:=by rw [hU]; simp
   rw [hUl] at h4
   refine jnC_mk (hC3 _ _ ⟨fv,i+1,A4,c4,by omega,?_,h4⟩ ?_)
   ·dsimp only; rw [hUl,ei i (by omega)]
   ·show ((m':Int)+1 - IntKind.wrap .i64 ((i:Int)+1)).toNat < ((m':Int)+1 - (i:Int)).toNat
    rw [ei i (by omega)]; omega
 ·have hge2:¬ (i:Int) < ((m'+1:Nat):Int):=of_decide_eq_false hge
  have him:i=F.P.length+1:=by omega
  subst him
  refine (sc_calls w1.heap.size A2 _ c2 _ u h2 (by omega)).mono ?_
  rintro r u2 ⟨rfl,h⟩
  refine ⟨rfl,h.mono ?_⟩
  rintro r u3 ⟨f3,rfl,h3⟩
  exact ⟨_,_,_,rfl,f1.trans1 (fr_own hf (fun k hk=>(h2.blt hk).1) (Nat.le_refl _) f3),A2,c2,rfl,row_low hs1 h3⟩
end Go.Proofs.YtkfanhdicnjdlaaGreatDoor
namespace Go.Proofs.YtkfanhdicnjdlaaGreatDoor
open Go.GV Go.RowKit Go.Lib
def chk (sz:Nat) (vs:List Value) (i:Nat):List Value:=(vs.drop (i * sz)).take sz
theorem chk_l {sz:Nat} {vs us:List Value} {i:Nat} (h:(i+1) * sz<=vs.length):chk sz (vs ++ us) i=chk sz vs i:=by
 rw [Nat.add_mul] at h
 unfold chk
 rw [List.drop_append_of_le_length (by omega),List.take_append_of_le_length (by rw [List.length_drop]; omega)]
theorem chk_r {sz:Nat} {vs us:List Value} {n j:Nat} (h:vs.length=n * sz):chk sz (vs ++ us) (n+j)=chk sz us j:=by
 unfold chk
 rw [Nat.add_mul,<- h,List.drop_append,List.drop_of_length_le (by omega),List.nil_append]
 congr 2; omega
theorem chk_one {sz:Nat} {cs:List Value} (h:cs.length=sz):chk sz cs 0=cs:=by
 unfold chk
 rw [Nat.zero_mul,List.drop_zero,List.take_of_length_le (by omega)]
theorem chk_get {sz:Nat} {vs:List Value} {i j:Nat} (hj:j < sz):(chk sz vs i)[j]?=vs[i * sz+j]?:=by
 unfold chk
 rw [List.getElem?_take,if_pos hj,List.getElem?_drop]
theorem chk_len {sz:Nat} {vs:List Value} {n i:Nat} (h:vs.length=n * sz) (hi:i < n):(chk sz vs i).length=sz:=by
 have hm:(i+1) * sz<=n * sz:=Nat.mul_le_mul_right _ hi
 rw [Nat.add_mul] at hm
 unfold chk
 rw [List.length_take,List.length_drop]; omega
def Ech {α:Type} (sz:Nat) (P:List Value->α->Prop) (vs:List Value) (l:List α):Prop:=∀ i x,l[i]?=some x->P (chk sz vs i) x
theorem Ech.nil {α:Type} {sz:Nat} {P:List Value->α->Prop} {vs:List Value}:Ech sz P vs ([]:List α):=fun i x h=>by simp at h
theorem Ech.snoc {α:Type} {sz:Nat} {P:List Value->α->Prop} {vs cs:List Value} {l:List α} {x:α} {n:Nat} (h:Ech sz P vs l) (hv:vs.length=n * sz) (hl:l.length=n) (hc:cs.length=sz) (hx:P cs x):Ech sz P (vs ++ cs) (l ++ [x]):=by
 intro i y hy
 have hi:=(List.getElem?_eq_some_iff.1 hy).1
 rw [List.length_append,List.length_singleton] at hi
 by_cases hin:i < n
 ·rw [List.getElem?_append_left (by omega)] at hy
  rw [chk_l (by rw [hv]; exact Nat.mul_le_mul_right _ hin)]
  exact h i y hy
 ·have e:i=n+0:=by omega
  rw [e,chk_r hv,chk_one hc]
  rw [List.getElem?_append_right (by omega)] at hy
  rw [show i - l.length=0 by omega,List.getElem?_cons_zero] at hy
  injection hy with hy
  subst hy; exact hx
theorem Ech.mono {α:Type} {sz:Nat} {P Q:List Value->α->Prop} {vs:List Value} {l:List α} (h:Ech sz P vs l) (hPQ:∀ cs x,P cs x->Q cs x):Ech sz Q vs l:=fun i x hi=>hPQ _ _ (h i x hi)
theorem ech_rd {α:Type} {sz:Nat} {P:List Value->α->Prop} {w:World} {A:Option Addr} {n:Nat} {vs:List Value} {l:List α} (h:Sl w sz A n vs) (he:Ech sz P vs l) (hsz:sz ≠ 0) {i:Nat} {x:α} (hi:l[i]?=some x) (hin:i < n) :
  ∃ b o,A=some ⟨b,o,none⟩/\cellsAt w b (o+i * sz) (chk sz vs i)/\(chk sz vs i).length=sz/\P (chk sz vs i) x:=by
 have hl:=h.1
 have hm:(i+1) * sz<=n * sz:=Nat.mul_le_mul_right _ hin
 rw [Nat.add_mul] at hm
 obtain ⟨b,o,hA,hc⟩:=h.2 (by omega)
 refine ⟨b,o,hA,fun j v hj=>?_,chk_len hl hin,he i x hi⟩
 have hjl:=(List.getElem?_eq_some_iff.1 hj).1
 rw [chk_len hl hin] at hjl
 rw [chk_get hjl] at hj
 rw [Nat.add_assoc]
 exact hc _ v hj
theorem el_all {α:Type} {sz:Nat} {P:List Value->α->Prop} {w:World} {A:Option Addr} {n:Nat} {vs:List Value} {l:List α} (h:Sl w sz A n vs) (he:Ech sz P vs l) (hsz:sz ≠ 0) {i:Nat} {x:α} (hi:l[i]?=some x) (hin:i < n) {K:List Value->Prop} (hK:∀ cs,cs.length=sz->P cs x->K cs) :
  dr A fun b o=>gd (decide (0<=(i:Int))) (gd (decide ((i:Int) < ((n:Nat):Int))) (ldA sz w b (o+((i:Int)).toNat * sz) K)):=by
 obtain ⟨b,o,rfl,h1,h2,h3⟩:=ech_rd h he hsz hi hin
 refine dr_mk (gd_mk (decide_eq_true (by omega)) (gd_mk (decide_eq_true (by omega)) ⟨_,h2,?_,hK _ h2 h3⟩))
 rw [Int.toNat_natCast]; exact h1
end Go.Proofs.YtkfanhdicnjdlaaGreatDoor
namespace Go.Proofs.YtkfanhdicnjdlaaGreatDoor
open Go.GV
abbrev Bs:=List UInt8
structure Wr where
 cut:Bool
 off:Int
 data:Bs
def rightW (x:Wr):Bool:=decide (x.off >= 0) && decide (x.off<=1048576 - (x.data.length:Int))
def over (b:Bs) (o:Nat) (d:Bs):Bs:=(b ++ List.replicate (o - b.length) 0).take o ++ d ++ b.drop (o+d.length)
def applyW (b:Bs) (x:Wr):Bs :=
 if rightW x=false\/(x.cut=false/\x.data=[]) then b
 else if x.cut then b.take x.off.toNat
 else over b x.off.toNat x.data
def allW (b:Bs) (l:List Wr):Bs:=l.foldl applyW b
def partW (x:Wr) (c:UInt8):Wr:=if c.toNat < 255/\c.toNat < x.data.length then { x with data:=x.data.take c.toNat } else x
def survS (b:Bs) (x:Wr) (c:UInt8):Bs:=if c=0\/rightW x=false then b else applyW b (partW x c)
def survW:Bs->List Wr->Bs->Bs
 | b,[],_=>b
 | b,_ :: _,[]=>b
 | b,x :: l,c :: r=>survW (survS b x c) l r
def endW (n:Int) (x:Wr):Int:=if rightW x=true/\x.cut=false/\x.data ≠ [] then (if n < x.off+(x.data.length:Int) then x.off+(x.data.length:Int) else n) else n
def peakW (n:Int) (l:List Wr):Int:=l.foldl endW n
theorem over_len (b:Bs) (o:Nat) (d:Bs):(over b o d).length=max b.length (o+d.length):=by
 unfold over
 simp only [List.length_append,List.length_take,List.length_drop,List.length_replicate]
 omega
theorem over_get (b:Bs) (o:Nat) (d:Bs) (j:Nat):(over b o d)[j]?=if j < o then (if j < b.length then b[j]? else some 0) else if j < o+d.length then d[j - o]? else b[j]?:=by
 have hl:((b ++ List.replicate (o - b.length) (0:UInt8)).take o).length=o:=by
  rw [List.length_take,List.length_append,List.length_replicate]; omega
 unfold over
 by_cases h1:j < o
 ·rw [if_pos h1,List.append_assoc,List.getElem?_append_left (by rw [hl]; exact h1),List.getElem?_take,if_pos h1]
  by_cases h2:j < b.length
  ·rw [if_pos h2,List.getElem?_append_left h2]
  ·rw [if_neg h2,List.getElem?_append_right (by omega),List.getElem?_replicate,if_pos (by omega)]
 ·rw [if_neg h1]
  by_cases h2:j < o+d.length
  ·rw [if_pos h2,List.append_assoc,List.getElem?_append_right (by rw [hl]; omega),hl,List.getElem?_append_left (by omega)]
  ·rw [if_neg h2,List.getElem?_append_right (by rw [List.length_append,hl]; omega),List.length_append,hl,List.getElem?_drop]
   congr 1; omega
theorem right_iff {x:Wr}:rightW x=true ↔ 0<=x.off/\x.off<=1048576 - (x.data.length:Int):=by
 unfold rightW
 rw [Bool.and_eq_true,decide_eq_true_iff,decide_eq_true_iff]
theorem endW_ge (n:Int) (x:Wr):n<=endW n x:=by
 unfold endW
 split
 ·split <;> omega
 ·omega
theorem endW_mono {m n:Int} (h:m<=n) (x:Wr):endW m x<=endW n x:=by
 unfold endW
 split
 ·split <;> split <;> omega
 ·exact h
theorem peakW_ge (l:List Wr):∀ n:Int,n<=peakW n l:=by
 induction l with
 | nil=>intro n; exact Int.le_refl _
 | cons x l ih=>intro n; exact Int.le_trans (endW_ge n x) (ih _)
theorem peakW_mono (l:List Wr):∀ {m n:Int},m<=n->peakW m l<=peakW n l:=by
 induction l with
 | nil=>intro m n h; exact h
 | cons x l ih=>intro m n h; exact ih (endW_mono h x)
theorem peakW_snoc (n:Int) (l:List Wr) (x:Wr):peakW n (l ++ [x])=endW (peakW n l) x:=by simp [peakW]
theorem allW_snoc (b:Bs) (l:List Wr) (x:Wr):allW b (l ++ [x])=applyW (allW b l) x:=by simp [allW]
theorem endW_le {n:Int} (h:n<=1048576) (x:Wr):endW n x<=1048576:=by
 unfold endW
 split
 ·rename_i hx
  have:=right_iff.1 hx.1
  split <;> omega
 ·exact h
theorem peakW_le (l:List Wr):∀ {n:Int},n<=1048576->peakW n l<=1048576:=by
 induction l with
 | nil=>intro n h; exact h
 | cons x l ih=>intro n h; exact ih (endW_le h x)
theorem applyW_len (b:Bs) (x:Wr):((applyW b x).length:Int)<=endW b.length x:=by
 unfold applyW
 by_cases h:rightW x=false\/(x.cut=false/\x.data=[])
 ·rw [if_pos h]; exact endW_ge _ _
 ·rw [if_neg h]
  have h1:rightW x=true:=by
   cases hr:rightW x with
   | true=>rfl
   | false=>exact absurd (.inl hr) h
  by_cases hc:x.cut=true
  ·rw [if_pos hc]
   have:=endW_ge (b.length:Int) x
   rw [List.length_take]; omega
  ·rw [if_neg hc,over_len]
   have hc:x.cut=false:=by simpa using hc
   have hd:x.data ≠ []:=fun hd=>h (.inr ⟨hc,hd⟩)
   unfold endW
   rw [if_pos ⟨h1,hc,hd⟩]
   have:=right_iff.1 h1
   split <;> omega
theorem allW_len (l:List Wr):∀ b:Bs,((allW b l).length:Int)<=peakW b.length l:=by
 induction l with
 | nil=>intro b; exact Int.le_refl _
 | cons x l ih =>
  intro b
  exact Int.le_trans (ih (applyW b x)) (peakW_mono l (applyW_len b x))
theorem endW_pos {n:Int} {x:Wr} (h:rightW x=true/\x.cut=false/\x.data ≠ []):endW n x=if n < x.off+(x.data.length:Int) then x.off+(x.data.length:Int) else n:=if_pos h
theorem endW_neg {n:Int} {x:Wr} (h:¬ (rightW x=true/\x.cut=false/\x.data ≠ [])):endW n x=n:=if_neg h
theorem partW_end (n:Int) (x:Wr) (c:UInt8) (h:rightW x=true):endW n (partW x c)<=endW n x:=by
 unfold partW
 by_cases hc:c.toNat < 255/\c.toNat < x.data.length
 ·rw [if_pos hc]
  by_cases h2:rightW { x with data:=x.data.take c.toNat }=true/\x.cut=false/\x.data.take c.toNat ≠ []
  ·have hd:x.data ≠ []:=fun e=>by
    have:=hc.2
    rw [e] at this
    simp at this
   have hl:(List.take c.toNat x.data).length=c.toNat:=by rw [List.length_take]; omega
   rw [endW_pos (x:={ x with data:=x.data.take c.toNat }) h2,endW_pos ⟨h,h2.2.1,hd⟩]
   show (if n < x.off+((List.take c.toNat x.data).length:Int) then x.off+((List.take c.toNat x.data).length:Int) else n)<=_
   rw [hl]
   split <;> split <;> omega
  ·rw [endW_neg (x:={ x with data:=x.data.take c.toNat }) h2]
   exact endW_ge n x
 ·rw [if_neg hc]; exact Int.le_refl _
theorem survS_len (b:Bs) (x:Wr) (c:UInt8):((survS b x c).length:Int)<=endW b.length x:=by
 unfold survS
 split
 ·exact endW_ge _ _
 ·rename_i h
  have h1:rightW x=true:=by
   cases hr:rightW x with
   | true=>rfl
   | false=>exact absurd (.inr hr) h
  exact Int.le_trans (applyW_len b _) (partW_end _ x c h1)
theorem survW_len:∀ (l:List Wr) (b c:Bs),((survW b l c).length:Int)<=peakW b.length l
 | [],b,c=>by cases c <;> exact Int.le_refl _
 | x :: l,b,[]=>by
  have:=peakW_ge (x :: l) (b.length:Int)
  exact this
 | x :: l,b,c :: r=>Int.le_trans (survW_len l (survS b x c) r) (peakW_mono l (survS_len b x c))
structure Ino where
 b:Bs
 p:List Wr
def nowI (x:Ino):Bs:=allW x.b x.p
def roomI (x:Ino):Int:=peakW x.b.length x.p
structure InoB (x:Ino):Prop where
 b:x.b.length<=1048576
 d:∀ y ∈ x.p,y.data.length<=1048576
theorem now_le {x:Ino} (h:InoB x):(nowI x).length<=1048576:=by
 have h1:=allW_len x.p x.b
 have h2:=peakW_le x.p (n:=(x.b.length:Int)) (by have:=h.b; omega)
 unfold nowI
 omega
theorem room_le {x:Ino} (h:InoB x):(x.b.length:Int)<=roomI x/\roomI x<=1048576:=⟨peakW_ge x.p _,peakW_le x.p (by have:=h.b; omega)⟩
def appI (x:Ino) (b:Bs):Ino×Int :=
 if (b.length:Int) > 1048576 - ((nowI x).length:Int) then (x,18)
 else if b=[] then (x,0)
 else (⟨x.b,x.p ++ [⟨false,((nowI x).length:Int),b⟩]⟩,0)
def cutI (x:Ino) (n:Int):Ino×Int :=
 if n < 0\/n > ((nowI x).length:Int) then (x,20) else (⟨x.b,x.p ++ [⟨true,n,[]⟩]⟩,0)
def syncI (x:Ino):Ino:=⟨nowI x,[]⟩
def crashI (x:Ino) (c:Bs):Ino×Bs:=(⟨survW x.b x.p c,[]⟩,c.drop x.p.length)
end Go.Proofs.YtkfanhdicnjdlaaGreatDoor
namespace Go.Proofs.YtkfanhdicnjdlaaGreatDoor
open Go.GV Go.RowKit Go.Lib
abbrev bys (b:Bs):List Value:=b.map bv
def WrP [Ow] (w:World) (cs:List Value) (x:Wr):Prop:=∃ (B:Option Addr) (m k:Nat),cs=[.bool x.cut,.int .i64 x.off,.slice B m k]/\Sl w 1 B m (bys x.data)/\m<=k/\OkA w B m
def WSl [Ow] (w:World) (A:Option Addr) (n:Nat) (l:List Wr):Prop:=∃ vs,Sl w 3 A n vs/\l.length=n/\Ech 3 (WrP w) vs l
def InoAt [Ow] (w:World) (cs:List Value) (x:Ino):Prop:=∃ (A:Option Addr) (n c:Nat) (A':Option Addr) (n' c':Nat),cs=[.slice A n c,.slice A' n' c']/\Sl w 1 A n (bys x.b)/\n<=c/\WSl w A' n' x.p/\n'<=c'/\OkA w A n/\OkA w A' n'
theorem by_n {w:World} {A:Option Addr} {n:Nat} {b:Bs} (h:Sl w 1 A n (bys b)):b.length=n:=by
 have:=h.1
 simp [bys] at this
 omega
structure Alien0 (w:World) (b:Nat):Prop where
 s:∀ o x,cellAt w b o ≠ some (.string x)
 u:∀ o x,cellAt w b o ≠ some (.int .u8 x)
 t:∀ o t x A n c,¬ (cellAt w b o=some (.bool t)/\cellAt w b (o+1)=some (.int .i64 x)/\cellAt w b (o+2)=some (.slice A n c))
def Alien [Ow] (w:World) (b:Nat):Prop:=Ow.O b->Alien0 w b
theorem by_ne0 {w:World} {A:Option Addr} {n:Nat} {b:Bs} (h:Sl w 1 A n (bys b)) (h0:n ≠ 0) {k:Nat} (hk:blkOf A=some k):¬ Alien0 w k:=by
 intro ha
 have hl:=by_n h
 obtain ⟨b',o,rfl,hc⟩:=h.2 (by omega)
 injection hk with hk
 have hk:b'=k:=hk
 subst hk
 cases hb:b with
 | nil=>rw [hb] at hl; simp at hl; omega
 | cons x r=>exact ha.u (o+0) x.toNat (hc 0 _ (by rw [hb]; rfl))
theorem by_ne [Ow] {w:World} {A:Option Addr} {n:Nat} {b:Bs} (h:Sl w 1 A n (bys b)) (ho:OkA w A n) (h0:n ≠ 0) {k:Nat} (hk:blkOf A=some k):¬ Alien w k :=
 fun ha=>by_ne0 h h0 hk (ha (ho.2 h0 k hk))
theorem by_fr0 {S:Nat->Prop} {w w':World} {A:Option Addr} {n:Nat} {b:Bs} (h:Sl w 1 A n (bys b)) (f:Fr S w w') (hS:∀ k,S k->Alien0 w k):Sl w' 1 A n (bys b) :=
 f.sl h (fun h0 k hk hs=>by_ne0 h h0 hk (hS k hs))
theorem by_fr [Ow] {S:Nat->Prop} {w w':World} {A:Option Addr} {n:Nat} {b:Bs} (h:Sl w 1 A n (bys b)) (ho:OkA w A n) (f:Fr S w w') (hS:∀ k,S k->Alien w k):Sl w' 1 A n (bys b) :=
 f.sl h (fun h0 k hk hs=>by_ne h ho h0 hk (hS k hs))
theorem WrP.fr [Ow] {S:Nat->Prop} {w w':World} {cs:List Value} {x:Wr} (h:WrP w cs x) (f:Fr S w w') (hS:∀ k,S k->Alien w k):WrP w' cs x:=by
 obtain ⟨B,m,k,e,h1,h2,h3⟩:=h
 exact ⟨B,m,k,e,by_fr h1 h3 f hS,h2,h3.fr f⟩
theorem WSl.fr [Ow] {S:Nat->Prop} {w w':World} {A:Option Addr} {n:Nat} {l:List Wr} (h:WSl w A n l) (ho:OkA w A n) (f:Fr S w w') (hS:∀ k,S k->Alien w k):WSl w' A n l:=by
 obtain ⟨vs,h1,h2,h3⟩:=h
 refine ⟨vs,f.sl h1 (fun h0 k hk hs=>?_),h2,h3.mono (fun cs x hx=>hx.fr f hS)⟩
 have hn:0 < n:=by omega
 have ha:=hS k hs (ho.2 (by omega) k hk)
 have gx:l[0]?=some (l[0]'(by omega)):=List.getElem?_eq_getElem (by omega)
 obtain ⟨b,o,rfl,hc,hl,B,m,k',e,_⟩:=ech_rd h1 h3 (by omega) gx hn
 injection hk with hk
 have hk:b=k:=hk
 subst hk
 rw [e] at hc
 have c0:cellAt w b (o+0 * 3+0)=some (.bool (l[0]'(by omega)).cut):=hc 0 _ rfl
 have c1:cellAt w b (o+0 * 3+0+1)=some (.int .i64 (l[0]'(by omega)).off):=hc 1 _ rfl
 have c2:cellAt w b (o+0 * 3+0+2)=some (.slice B m k'):=hc 2 _ rfl
 exact ha.t _ _ _ _ _ _ ⟨c0,c1,c2⟩
theorem InoAt.fr [Ow] {S:Nat->Prop} {w w':World} {cs:List Value} {x:Ino} (h:InoAt w cs x) (f:Fr S w w') (hS:∀ k,S k->Alien w k):InoAt w' cs x:=by
 obtain ⟨A,n,c,A',n',c',e,h1,h2,h3,h4,h5,h6⟩:=h
 exact ⟨A,n,c,A',n',c',e,by_fr h1 h5 f hS,h2,h3.fr h6 f hS,h4,h5.fr f,h6.fr f⟩
theorem InoAt.ok [Ow] {w:World} {cs:List Value} {x:Ino} (h:InoAt w cs x):OkA w none 0:=by
 obtain ⟨A,n,c,A',n',c',e,h1,h2,h3,h4,h5,h6⟩:=h
 exact h5.nil none
theorem InoAt.fr0 [Ow] {w w':World} {cs:List Value} {x:Ino} (h:InoAt w cs x) (f:Fr (fun _=>False) w w'):InoAt w' cs x:=h.fr f (fun _ h=>h.elim)
theorem WSl.fr0 [Ow] {w w':World} {A:Option Addr} {n:Nat} {l:List Wr} (h:WSl w A n l) (f:Fr (fun _=>False) w w'):WSl w' A n l:=by
 obtain ⟨vs,h1,h2,h3⟩:=h
 exact ⟨vs,f.sl h1 (fun _ _ _ h=>h),h2,h3.mono (fun cs x hx=>hx.fr f (fun _ h=>h.elim))⟩
theorem WrP.fr0 [Ow] {w w':World} {cs:List Value} {x:Wr} (h:WrP w cs x) (f:Fr (fun _=>False) w w'):WrP w' cs x:=h.fr f (fun _ h=>h.elim)
theorem nsl_fr [Ow] {S:Nat->Prop} {w w':World} {A:Option Addr} {n:Nat} {l:List Nm} (h:NSl w A n l) (ho:OkA w A n) (f:Fr S w w') (hS:∀ k,S k->Alien w k):NSl w' A n l:=by
 refine ⟨f.sl h.1 (fun h0 k hk hs=>?_),h.2⟩
 have ha:=hS k hs (ho.2 (by omega) k hk)
 have hl:=h.2
 obtain ⟨b,o,rfl,hc⟩:=h.1.2 (by omega)
 injection hk with hk
 have hk:b=k:=hk
 subst hk
 cases hb:l with
 | nil=>rw [hb] at hl; simp at hl; omega
 | cons x r=>exact ha.s (o+0) x.1 (hc 0 _ (by rw [hb,flt_cons]; rfl))
theorem csl_fr [Ow] {S:Nat->Prop} {w w':World} {A:Option Addr} {n:Nat} {l:List Ch} (h:CSl w A n l) (ho:OkA w A n) (f:Fr S w w') (hS:∀ k,S k->Alien w k):CSl w' A n l:=by
 refine ⟨f.sl h.1 (fun h0 k hk hs=>?_),h.2⟩
 have ha:=hS k hs (ho.2 (by omega) k hk)
 have hl:=h.2
 obtain ⟨b,o,rfl,hc⟩:=h.1.2 (by omega)
 injection hk with hk
 have hk:b=k:=hk
 subst hk
 cases hb:l with
 | nil=>rw [hb] at hl; simp at hl; omega
 | cons x r=>exact ha.s (o+1) x.nm (hc 1 _ (by rw [hb,flt_cons]; rfl))
theorem fo_fr [Ow] {S:Nat->Prop} {w w':World} {cs:List Value} {F:Fo} (h:FoAt w cs F) (f:Fr S w w') (hS:∀ k,S k->Alien w k):FoAt w' cs F:=by
 obtain ⟨A,n,c,A',n',c',e,h1,h2,h3,h4,h5⟩:=h
 exact ⟨A,n,c,A',n',c',e,nsl_fr h1 h4 f hS,csl_fr h2 h5 f hS,h3,h4.fr f,h5.fr f⟩
theorem map_alien0 {w:World} {r:Nat} {f:Int->Option Value} (h:MapI w r f):Alien0 w r:=by
 obtain ⟨m,c,h,_⟩:=h
 have h:w.heap[r]?=some (.map (m.map (mkE .i64)).toArray c):=h
 have e:∀ o,cellAt w r o=none:=fun o=>by
  unfold cellAt World.cell?
  simp only [h]
 exact ⟨fun o x hx=>(by rw [e] at hx; cases hx),fun o x hx=>(by rw [e] at hx; cases hx),fun o t x A n c hx=>(by rw [e] at hx; cases hx.1)⟩
theorem map_alien [Ow] {w:World} {r:Nat} {f:Int->Option Value} (h:MapI w r f):Alien w r:=fun _=>map_alien0 h
theorem wr_one [Ow] {w:World} {cs:List Value} {x:Wr} (h:WrP w cs x):cs.length=3/\∀ v ∈ cs,v.oneCell'=true:=by
 obtain ⟨B,m,k,rfl,_⟩:=h
 refine ⟨rfl,fun v hv=>?_⟩
 simp only [List.mem_cons,List.not_mem_nil,or_false] at hv
 rcases hv with rfl | rfl | rfl <;> rfl
theorem sl_nil0 {w:World} {A:Option Addr} {n:Nat} {vs:List Value} (h:Sl w 1 A n vs) (hA:A=none):n=0:=by
 by_cases h0:n=0
 ·exact h0
 ·obtain ⟨b,o,h1,_⟩:=h.2 h0
  rw [hA] at h1; cases h1
theorem clone_by (A:Option Addr) (n c:Nat) (b:Bs) (w:World) (h:Sl w 1 A n (bys b)) (hn:n<=1099511627776) :
  Calls Tryz.prog 20 #[.slice A n c] w fun e w'=>Fr (fun _=>False) w w'/\∃ A' c',e=.returned (.slice A' n c')/\Row w' w.heap.size 5 1 A' n c' (bys b):=by
 refine (F20.of A n c w (Q:=fun v w'=>Fr (fun _=>False) w w'/\∃ A' c',v=.slice A' n c'/\Row w' w.heap.size 5 1 A' n c' (bys b)) ?_).mono (fun e w' ⟨v,he,hf,A',c',hv,h⟩=>⟨hf,A',c',by rw [he,hv],h⟩)
 have hl:=by_n h
 refine vIf_mk (fun hA=>?_) (fun hA=>nw_mk ?_)
 ·have hA:A=none:=by simpa using hA
  have:=sl_nil0 h hA
  subst this
  have:b=[]:=List.length_eq_zero_iff.1 hl
  subst this
  exact ⟨Fr.refl _ _,none,0,rfl,Row.nil _ _ _ _⟩
 ·have f1:Fr (fun _=>False) w (w.alloc (.cells ([]:List Value).toArray 5)):=Fr.alloc _ _ _
  have r1:Row (w.alloc (.cells ([]:List Value).toArray 5)) w.heap.size 5 1 (some ⟨w.heap.size,0,none⟩) 0 0 []:=Row.new (Nat.le_refl _) rfl
  refine app_row r1 (f1.sl h (fun _ _ _ h=>h)).src (bvs_one b) rfl (by omega) (by omega) f1.size ?_
  intro A' c' w2 r2 f2
  rw [Nat.zero_add] at r2 ⊢
  rw [List.nil_append] at r2
  exact ⟨f1.trans f2 (fun _ _ h=>h) (fun k hk h=>by simp only [blkOf,Option.some.injEq] at h; omega),A',c',rfl,r2⟩
theorem right_calls [Ow] (cs:List Value) (x:Wr) (w:World) (h:WrP w cs x) (hd:x.data.length<=1099511627776) :
  Calls Tryz.prog 163 #[ofL cs] w fun e w'=>e=.returned (.bool (rightW x))/\Fr (fun _=>False) w w':=by
 refine (F163.of cs w (Q:=fun v w'=>v=.bool (rightW x)/\Fr (fun _=>False) w w') ?_).mono (fun e w' ⟨v,he,hv,h⟩=>⟨by rw [he,hv],h⟩)
 obtain ⟨B,m,k,rfl,h1,h2⟩:=h
 have hm:=by_n h1
 refine nw_mk ?_
 have q:=RecAt.new w ([.bool x.cut,.int .i64 x.off,.slice B m k]:List Value) 197
 have f1:Fr (fun _=>False) w (w.alloc (.cells ([.bool x.cut,.int .i64 x.off,.slice B m k]:List Value).toArray 197)):=Fr.alloc _ _ _
 have ew:IntKind.wrap .i64 (1048576 - ((m:Nat):Int))=1048576 - (m:Int):=i64_id (by omega) (by omega)
 refine ⟨_,q.cell (o:=0+1) rfl,vIf_mk (fun h=>⟨_,q.cell (o:=0+1) rfl,_,_,_,q.cell (o:=0+2) rfl,?_,f1⟩) (fun h=>⟨?_,f1⟩)⟩
 ·unfold rightW
  rw [h,Bool.true_and,ew,hm]
 ·unfold rightW
  rw [h,Bool.false_and]
theorem over_cells (b d:Bs) (o:Nat):splice (bys b ++ zeros (max b.length (o+d.length) - b.length) [Value.int .u8 0]) o (bys d)=bys (over b o d):=by
 have hl:(bys b ++ zeros (max b.length (o+d.length) - b.length) [Value.int .u8 0]).length=max b.length (o+d.length):=by
  rw [List.length_append,zeros_length]; simp [bys]; omega
 have hfit:o+(bys d).length<=(bys b ++ zeros (max b.length (o+d.length) - b.length) [Value.int .u8 0]).length:=by
  rw [hl]; simp [bys]; omega
 apply List.ext_getElem?
 intro j
 rw [splice_get hfit]
 have e:(bys (over b o d))[j]?=((over b o d)[j]?).map bv:=by simp [bys]
 rw [e,over_get]
 have hd:(bys d).length=d.length:=by simp [bys]
 have hb:(bys b).length=b.length:=by simp [bys]
 have zer:∀ i,i < max b.length (o+d.length) - b.length->(zeros (max b.length (o+d.length) - b.length) [Value.int .u8 0])[i]?=some (bv 0):=fun i hi=>by
  have h:=zeros_get [Value.int .u8 0] (max b.length (o+d.length) - b.length) i (by simpa using hi)
  rw [h]; simp [Nat.mod_one]; rfl
 rw [hd]
 by_cases h1:j < o
 ·rw [if_pos h1,if_pos h1]
  by_cases h2:j < b.length
  ·rw [if_pos h2,List.getElem?_append_left (by omega)]; simp [bys]
  ·rw [if_neg h2]
   rw [List.getElem?_append_right (by omega),hb,zer _ (by omega)]; rfl
 ·rw [if_neg h1,if_neg h1]
  by_cases h2:j < o+d.length
  ·rw [if_pos h2,if_pos h2]; simp [bys]
  ·rw [if_neg h2,if_neg h2]
   by_cases h3:j < b.length
   ·rw [List.getElem?_append_left (by omega)]; simp [bys]
   ·rw [List.getElem?_eq_none (by rw [hl]; omega),List.getElem?_eq_none (by omega)]; rfl
set_option maxHeartbeats 1000000 in
theorem apply_calls [Ow] (A:Option Addr) (n c:Nat) (b:Bs) (cs:List Value) (x:Wr) (w:World) (h:Sl w 1 A n (bys b)) (hc:n<=c) (hx:WrP w cs x) (hn:n<=1099511627776) (hd:x.data.length<=1099511627776) :
  Calls Tryz.prog 142 #[.slice A n c,ofL cs] w fun e w'=>Fr (fun _=>False) w w'/\∃ A' c',e=.returned (.slice A' (applyW b x).length c')/\Row w' w.heap.size 5 1 A' (applyW b x).length c' (bys (applyW b x)):=by
 refine (F142.of A n c cs w (Q:=fun v w'=>Fr (fun _=>False) w w'/\∃ A' c',v=.slice A' (applyW b x).length c'/\Row w' w.heap.size 5 1 A' (applyW b x).length c' (bys (applyW b x))) ?_).mono (fun e w' ⟨v,he,hf,A',c',hv,h⟩=>⟨hf,A',c',by rw [he,hv],h⟩)
 have hl:=by_n h
 have hone:=wr_one hx
 refine nw_mk ?_
 have q:=RecAt.new w cs 197
 have f1:Fr (fun _=>False) w (w.alloc (.cells cs.toArray 197)):=Fr.alloc _ _ _
 have s1:(w.alloc (.cells cs.toArray 197)).heap.size=w.heap.size+1:=alloc_size _ _
 generalize hb1:w.heap.size=b1 at q s1
 generalize w.alloc (.cells cs.toArray 197)=w2 at f1 q s1 ⊢
 refine ⟨cs,hone.1,q.cells (fun j v hj=>by rw [Nat.zero_add]; exact hj),(right_calls cs x w2 (hx.fr0 f1) hd).mono ?_⟩
 rintro e w4 ⟨rfl,f4⟩
 have q:=q.fr f4 (fun h=>h)
 have f:=f1.trans1 f4
 have hx4:=hx.fr0 f
 have h4:=f.sl h (fun _ _ _ h=>h)
 have hs4:=f.size
 obtain ⟨B,m,k,ecs,hB,hmk⟩:=hx4
 subst ecs
 have hm:=by_n hB
 have same:applyW b x=b->jnC (F142.k2 (fun v w'=>Fr (fun _=>False) w w'/\∃ A' c',v=.slice A' (applyW b x).length c'/\Row w' b1 5 1 A' (applyW b x).length c' (bys (applyW b x)))) ((A,n,c),(b1,0),true,()) w4:=by
  intro e
  refine jnC_mk (fun _=>vIf_t rfl ((clone_by A n c b w4 h4 hn).mono ?_))
  rintro r w5 ⟨f5,A',c',rfl,h5⟩
  refine ⟨_,_,_,rfl,f.trans1 f5,A',c',by rw [e,hl],?_⟩
  rw [e,hl]
  refine ⟨h5.len,h5.le,?_⟩
  rcases h5.at_ with h' | ⟨b',cs',q1,q2,q3⟩
  ·exact .inl h'
  ·exact .inr ⟨b',cs',q1,by omega,q3⟩
 have some:rightW x=true->(x.cut=false->x.data ≠ [])->jnC (F142.k2 (fun v w'=>Fr (fun _=>False) w w'/\∃ A' c',v=.slice A' (applyW b x).length c'/\Row w' b1 5 1 A' (applyW b x).length c' (bys (applyW b x)))) ((A,n,c),(b1,0),false,()) w4:=by
  intro hr hne
  have hro:=right_iff.1 hr
  have hno:¬ (rightW x=false\/(x.cut=false/\x.data=[])):=fun h=>h.elim (fun h=>by rw [hr] at h; cases h) (fun h=>hne h.1 h.2)
  refine jnC_mk (fun _=>vIf_f rfl ⟨_,q.cell (o:=0) rfl,vIf_mk (fun hcut=>⟨_,q.cell (o:=0+1) rfl,?_⟩) (fun hcut=>jnC_mk (fun _=>⟨_,q.cell (o:=0+1) rfl,_,_,_,q.cell (o:=0+2) rfl,?_⟩))⟩)
  ·have e:applyW b x=b.take x.off.toNat:=by
    unfold applyW
    rw [if_neg hno,if_pos hcut]
   obtain ⟨t,ht,htn,hte⟩:∃ t:Nat,(if ((n:Nat):Int) < x.off then ((n:Nat):Int) else x.off)=(t:Int)/\t<=n/\b.take x.off.toNat=b.take t:=by
    by_cases h0:(n:Int) < x.off
    ·exact ⟨n,by rw [if_pos h0],Nat.le_refl _,by rw [List.take_of_length_le (by omega),List.take_of_length_le (by omega)]⟩
    ·exact ⟨x.off.toNat,by rw [if_neg h0]; omega,by omega,rfl⟩
   dsimp only
   rw [ht]
   have hsl:=sl_cut0 (c:=c) h4 htn
   have hsl:Sl w4 1 (slA A c 0 1) t (bys (b.take t)):=by
    have e2:bys (b.take t)=(bys b).take (t * 1):=by simp [bys,List.map_take]
    rw [e2]; exact hsl
   refine gd_mk (decide_eq_true (by omega)) (gd_mk (decide_eq_true (by omega)) ?_)
   rw [Int.toNat_natCast]
   refine (clone_by (slA A c 0 1) t c (b.take t) w4 hsl (by omega)).mono ?_
   rintro r w5 ⟨f5,A',c',rfl,h5⟩
   have hlt:(b.take t).length=t:=by rw [List.length_take]; omega
   refine ⟨_,_,_,rfl,f.trans1 f5,A',c',by rw [e,hte,hlt],?_⟩
   rw [e,hte,hlt]
   refine ⟨h5.len,h5.le,?_⟩
   rcases h5.at_ with h' | ⟨b',cs',q1,q2,q3⟩
   ·exact .inl h'
   ·exact .inr ⟨b',cs',q1,by omega,q3⟩
  ·have hcut:x.cut=false:=hcut
   have e:applyW b x=over b x.off.toNat x.data:=by
    unfold applyW
    rw [if_neg hno,if_neg (by rw [hcut]; decide)]
   obtain ⟨o,ho⟩:∃ o:Nat,x.off=(o:Int):=⟨x.off.toNat,by omega⟩
   have hol:o+m<=1048576:=by omega
   have ew:IntKind.wrap .i64 (x.off+((m:Nat):Int))=((o+m:Nat):Int):=by rw [i64_id (by omega) (by omega)]; omega
   obtain ⟨N,hN,hNe⟩:∃ N:Nat,(if ((n:Nat):Int) < IntKind.wrap .i64 (x.off+((m:Nat):Int)) then IntKind.wrap .i64 (x.off+((m:Nat):Int)) else ((n:Nat):Int))=(N:Int)/\N=max n (o+m):=by
    rw [ew]
    refine ⟨max n (o+m),?_,rfl⟩
    split <;> omega
   dsimp only
   rw [hN]
   refine gd_mk (decide_eq_true (by omega)) (gd_mk (decide_eq_true (by omega)) (gd_mk (decide_eq_true (by omega)) (nw_mk ?_)))
   rw [Int.toNat_natCast]
   have r3:Row (w4.alloc (.cells (zeros N [Value.int .u8 0]).toArray 5)) b1 5 1 (some ⟨w4.heap.size,0,none⟩) N N (zeros N [Value.int .u8 0]):=Row.made (by omega) rfl (Nat.le_refl _)
   have f3:Fr (fun _=>False) w4 (w4.alloc (.cells (zeros N [Value.int .u8 0]).toArray 5)):=Fr.alloc _ _ _
   generalize hb3:w4.heap.size=b3 at r3 ⊢
   generalize w4.alloc (.cells (zeros N [Value.int .u8 0]).toArray 5)=w5 at r3 f3 ⊢
   have h5:=f3.sl h4 (fun _ _ _ h=>h)
   have hbl:(bys b).length=n * 1:=by simp [bys]; omega
   have cp:=cpy_row (k:=0) (x:=.slice A n c) (m:=n) (us:=bys b) r3 h5.src hbl (Nat.zero_le _) (fun v hv=>bvs_one b v (List.mem_of_mem_take hv)) (K:=fun n25 w26 =>
    ldI .i64 w26.drew b1 (0+1) fun i27 =>
    gd (decide (0<=i27)) <|
    gd (decide (i27<=((N:Nat):Int))) <|
    ldSl w26.drew b1 (0+2) fun A28 n29 c30 =>
    cpy w26.drew 1 (slA (some ⟨b3,0,none⟩) N (i27).toNat 1) (N - (i27).toNat) (Value.slice A28 n29 c30) fun n31 w32 =>
    (fun v w'=>Fr (fun _=>False) w w'/\∃ A' c',v=.slice A' (applyW b x).length c'/\Row w' b1 5 1 A' (applyW b x).length c' (bys (applyW b x))) (Value.slice (some ⟨b3,0,none⟩) N N) w32) (fun w6 r6 f6=>?_)
   ·rw [sl0,Nat.sub_zero] at cp
    exact cp
   ·have f6d:=f6.trans (Fr.drew (fun _=>False) w6) (U:=fun k=>blkOf (some (⟨b3,0,none⟩:Addr))=some k) (fun _ _ h=>h) (fun _ _ h=>h.elim)
    have q6:=(q.fr f3 (fun h=>h)).fr f6d (fun h=>by
     simp only [blkOf,Option.some.injEq] at h
     have:=q.lt; omega)
    have hB6:Sl w6.drew 1 B m (bys x.data):=f6d.sl (f3.sl hB (fun _ _ _ h=>h)) (fun h0 k hk h=>by
     simp only [blkOf,Option.some.injEq] at h
     have:=hB.blt (by omega) h0 hk
     omega)
    have r6d:=(Fr.drew (fun _=>False) w6).row r6 (fun _ _ h=>h)
    have f6':Fr (fun _=>False) w4 w6.drew:=f3.trans f6d (fun _ _ h=>h) (fun k hk h=>by
     simp only [blkOf,Option.some.injEq] at h
     omega)
    generalize w6.drew=w7 at q6 hB6 r6d f6' ⊢
    refine ⟨_,q6.cell (o:=0+1) rfl,?_⟩
    rw [ho]
    refine gd_mk (decide_eq_true (by omega)) (gd_mk (decide_eq_true (by omega)) ⟨_,_,_,q6.cell (o:=0+2) rfl,?_⟩)
    rw [Int.toNat_natCast]
    have hdl:(bys x.data).length=m * 1:=by simp [bys]; omega
    refine cpy_row (k:=o) (us:=bys x.data) r6d hB6.src hdl (by omega) (fun v hv=>bvs_one x.data v (List.mem_of_mem_take hv)) (fun w8 r8 f8=>⟨?_,some ⟨b3,0,none⟩,N,?_,?_⟩)
    ·exact (f.trans1 f6').trans f8 (fun _ _ h=>h) (fun k hk h=>by
      simp only [blkOf,Option.some.injEq] at h
      omega)
    ·rw [e,over_len,ho,Int.toNat_natCast,hl,hm,hNe]
    ·have hmin1:min n (N - 0)=n:=by omega
     have hmin2:min m (N - o)=m:=by omega
     have ez:splice (zeros N [Value.int .u8 0]) (0 * 1) ((bys b).take (min n (N - 0) * 1))=bys b ++ zeros (N - n) [Value.int .u8 0]:=by
      rw [hmin1,List.take_of_length_le (by omega)]
      unfold splice
      rw [Nat.zero_mul,List.take_zero,List.nil_append,Nat.zero_add,hbl]
      congr 1
      have e3:zeros N [Value.int .u8 0]=zeros n [Value.int .u8 0] ++ zeros (N - n) [Value.int .u8 0]:=by
       unfold zeros
       rw [<- List.flatten_append,List.replicate_append_replicate]
       congr 2; omega
      rw [e3,List.drop_append_of_le_length (by rw [zeros_length]; simp),List.drop_of_length_le (by rw [zeros_length]; simp),List.nil_append]
     rw [ez,hmin2,List.take_of_length_le (by omega),Nat.mul_one] at r8
     have eo:=over_cells b x.data o
     rw [hl,hm,<- hNe] at eo
     rw [eo] at r8
     rw [e,over_len,ho,Int.toNat_natCast,hl,hm,<- hNe]
     exact r8
 refine ⟨_,rfl,vIf_mk (fun hr=>same ?_) (fun hr=>⟨_,q.cell (o:=0) rfl,vIf_mk (fun hcut=>⟨_,_,_,q.cell (o:=0+2) rfl,?_⟩) (fun hcut=>some ?_ ?_)⟩)⟩
 ·have hr:rightW x=false:=by simpa using hr
  unfold applyW
  rw [if_pos (.inl hr)]
 ·have hr:rightW x=true:=by simpa using hr
  have hcut:x.cut=false:=by simpa using hcut
  dsimp only
  cases hm0:(((m:Nat):Int) == 0) with
  | true =>
   refine same ?_
   have hm0:(m:Int)=0:=by simpa using hm0
   have hd0:x.data=[]:=List.length_eq_zero_iff.1 (by omega)
   unfold applyW
   rw [if_pos (.inr ⟨hcut,hd0⟩)]
  | false =>
   refine some hr (fun _ hd0=>?_)
   have hm0:¬ (m:Int)=0:=by simpa using hm0
   rw [hd0] at hm
   simp at hm
   omega
 ·simpa using hr
 ·intro hc2
  have hcut:x.cut=true:=by simpa using hcut
  rw [hcut] at hc2; cases hc2
theorem row_lowB {u:World} {B B':Nat} {e:TypeId} {sz:Nat} {A:Option Addr} {k c:Nat} {vs:List Value} (hB:B'<=B) (hr:Row u B e sz A k c vs):Row u B' e sz A k c vs:=by
 refine ⟨hr.len,hr.le,?_⟩
 rcases hr.at_ with h' | ⟨b',cs',q1,q2,q3⟩
 ·exact .inl h'
 ·exact .inr ⟨b',cs',q1,by omega,q3⟩
theorem var_new {w:World} {z cs:List Value} {e:TypeId} {sz:Nat} (hz:z.length=sz) (hc:cs.length=sz) (ho:∀ v ∈ cs,v.oneCell'=true) {K:Nat->World->Prop} (hK:∀ b w',Fr (fun _=>False) w w'->w.heap.size<=b->RecAt w' b e cs->K b w') :
  nw w z e fun b w1=>gd (cs.length == sz) (st w1 b 0 cs fun w2=>K b w2):=by
 refine nw_mk (gd_mk (by rw [hc]; simp) ?_)
 have f1:Fr (fun _=>False) w (w.alloc (.cells z.toArray e)):=Fr.alloc _ _ _
 have r1:=RecAt.new w z e
 generalize hb:w.heap.size=b at r1 ⊢
 generalize w.alloc (.cells z.toArray e)=w1 at f1 r1 ⊢
 refine r1.st_mk (o:=0) (by rw [hc,hz]; omega) ho (fun r2 f2=>hK _ _ (f1.trans f2 (fun _ _ h=>h) (fun k hk h=>by omega)) (by omega) ?_)
 rw [splice_full (by rw [hc,hz])] at r2
 exact r2
theorem rec_all {w:World} {b:Nat} {e:TypeId} {cs:List Value} (h:RecAt w b e cs):cellsAt w b 0 cs:=h.cells (fun j v hj=>by simpa using hj)
theorem all1_calls [Ow] (i:Int) (cs:List Value) (x:Wr) (w:World) (h:WrP w cs x) :
  Calls Tryz.prog 123 #[.int .i64 i,ofL cs] w fun e w'=>Fr (fun _=>False) w w'/\e=.returned (.tuple #[ofL cs,.bool true]):=by
 refine (F123.of i cs w (Q:=fun v w'=>Fr (fun _=>False) w w'/\v=.tuple #[ofL cs,.bool true]) ?_).mono (fun e w' ⟨v,he,hf,hv⟩=>⟨hf,by rw [he,hv]⟩)
 have hone:=wr_one h
 refine nw_mk ?_
 have q:=RecAt.new w cs 197
 have f1:Fr (fun _=>False) w (w.alloc (.cells cs.toArray 197)):=Fr.alloc _ _ _
 generalize w.heap.size=b1 at q ⊢
 generalize w.alloc (.cells cs.toArray 197)=w2 at f1 q ⊢
 refine nw_mk ?_
 have p:=RecAt.new w2 [Value.bool false,Value.int .i64 0,Value.slice none 0 0] 197
 have f2:Fr (fun _=>False) w2 (w2.alloc (.cells [Value.bool false,Value.int .i64 0,Value.slice none 0 0].toArray 197)):=Fr.alloc _ _ _
 have q:=q.fr f2 (fun h=>h)
 generalize hb3:w2.heap.size=b3 at p ⊢
 generalize w2.alloc (.cells [Value.bool false,Value.int .i64 0,Value.slice none 0 0].toArray 197)=w4 at f2 q p ⊢
 refine ⟨cs,hone.1,rec_all q,gd_mk (by rw [hone.1]; rfl) (p.st_mk (o:=0) (by show 0+cs.length<=3; rw [hone.1]; omega) hone.2 (fun p f3=>?_))⟩
 rw [splice_full (by rw [hone.1]; rfl)] at p
 exact ⟨cs,hone.1,rec_all p,(f1.trans1 f2).trans f3 (fun _ _ h=>h) (fun k hk h=>by have:=f1.size; omega),rfl⟩
theorem all_le {b:Bs} {l:List Wr} (hb:b.length<=1048576):(allW b l).length<=1048576:=by
 have h1:=allW_len l b
 have h2:=peakW_le l (n:=(b.length:Int)) (by omega)
 omega
theorem takeW {l:List Wr} {i:Nat} {x:Wr} (h:l[i]?=some x):l.take (i+1)=l.take i ++ [x]:=by rw [List.take_add_one,h]; rfl
set_option maxHeartbeats 1000000 in
theorem all_calls [Ow] (A:Option Addr) (n c:Nat) (b:Bs) (A':Option Addr) (n' c':Nat) (l:List Wr) (w:World) (h:Sl w 1 A n (bys b)) (hl:WSl w A' n' l) (hb:b.length<=1048576) (hn:n'<=1099511627775) (hd:∀ x ∈ l,x.data.length<=1048576) :
  Calls Tryz.prog 91 #[.slice A n c,.slice A' n' c'] w fun e w'=>Fr (fun _=>False) w w'/\∃ B k,e=.returned (.slice B (allW b l).length k)/\Row w' w.heap.size 5 1 B (allW b l).length k (bys (allW b l)):=by
 refine (F91.of A n c A' n' c' w (Q:=fun v w'=>Fr (fun _=>False) w w'/\∃ B k,v=.slice B (allW b l).length k/\Row w' w.heap.size 5 1 B (allW b l).length k (bys (allW b l))) ?_).mono (fun e w' ⟨v,he,hf,B,k,hv,h⟩=>⟨hf,B,k,by rw [he,hv],h⟩)
 have hbl:=by_n h
 have hwl:l.length=n':=by obtain ⟨vs,_,h2,_⟩:=hl; exact h2
 have key:Calls Tryz.prog 122 #[.slice A n c,.slice A' n' c',.func (.func 123) #[] #[]] w fun e w'=>Fr (fun _=>False) w w'/\∃ B k,e=.returned (.slice B (allW b l).length k)/\Row w' w.heap.size 5 1 B (allW b l).length k (bys (allW b l)):=by
  refine (F122a.of A n c A' n' c' w (Q:=fun v w'=>Fr (fun _=>False) w w'/\∃ B k,v=.slice B (allW b l).length k/\Row w' w.heap.size 5 1 B (allW b l).length k (bys (allW b l))) ?_).mono (fun e w' ⟨v,he,hf,B,k,hv,h⟩=>⟨hf,B,k,by rw [he,hv],h⟩)
  refine (clone_by A n c b w h (by omega)).mono ?_
  rintro e w1 ⟨f1,B,k,rfl,h1⟩
  refine ⟨_,_,_,rfl,jnC_mk (loop_rule (fun s v=>Fr (fun _=>False) w v/\∃ (i:Nat) (B:Option Addr) (k:Nat),i<=n'/\s=((),(B,(allW b (l.take i)).length,k),(A',n',c'),((n':Nat):Int),(i:Int),())/\Row v w.heap.size 5 1 B (allW b (l.take i)).length k (bys (allW b (l.take i))))
   (fun s _=>(n' - s.2.2.2.2.1).toNat) ?_ _ _ ⟨f1,0,B,k,by omega,by rw [List.take_zero,<- hbl]; rfl,by rw [List.take_zero,show (allW b []).length=n from hbl]; exact h1⟩)⟩
  rintro s v C ⟨hf,i,B,k,hi,rfl,hr⟩ hC _
  have hal:=all_le (l:=l.take i) hb
  refine vIf_mk (fun hlt=>?_) (fun hge=>?_)
  ·have hlt2:(i:Int) < (n':Int):=of_decide_eq_true hlt
   have gi:l[i]?=some (l[i]'(by omega)):=List.getElem?_eq_getElem (by omega)
   generalize l[i]'(by omega)=x at gi
   have hxd:=hd x (List.mem_of_getElem? gi)
   obtain ⟨vs,hs,_,hE⟩:=hl.fr0 hf
   refine el_all hs hE (by omega) gi (by omega) (fun cs hc hx=>var_new rfl hc (wr_one hx).2 (fun b9 w11 g1 hb9 r9=>⟨cs,hc,rec_all r9,?_⟩))
   have hf1:=hf.trans1 g1
   refine (all1_calls i cs x w11 (hx.fr0 g1)).mono ?_
   rintro e w13 ⟨g2,rfl⟩
   have g12:=g1.trans1 g2
   refine ⟨_,_,rfl,var_new rfl hc (wr_one hx).2 (fun b17 w19 g3 hb17 r17=>vIf_t rfl ⟨cs,hc,rec_all r17,?_⟩)⟩
   have g123:=g12.trans1 g3
   refine (apply_calls B _ k (allW b (l.take i)) cs x w19 (g123.row hr (fun _ _ h=>h)).sl hr.le (hx.fr0 g123) (by omega) (by omega)).mono ?_
   rintro e w21 ⟨g4,B2,k2,rfl,h2⟩
   have hsz:=(hf.trans1 g123).size
   have en:allW b (l.take (i+1))=applyW (allW b (l.take i)) x:=by rw [takeW gi,allW_snoc]
   refine ⟨_,_,_,rfl,jnC_mk (hC _ _ ⟨(hf.trans1 g123).trans1 g4,i+1,B2,k2,by omega,by rw [ei i (by omega),en],by rw [en]; exact row_lowB hsz h2⟩ ?_)⟩
   show ((n':Int) - IntKind.wrap .i64 ((i:Int)+1)).toNat < ((n':Int) - (i:Int)).toNat
   rw [ei i (by omega)]; omega
  ·have hge2:¬ (i:Int) < (n':Int):=of_decide_eq_false hge
   have e:l.take i=l:=List.take_of_length_le (by omega)
   rw [e] at hr ⊢
   exact ⟨hf,B,k,rfl,hr⟩
 refine key.mono ?_
 rintro e w1 ⟨f1,B,k,rfl,h1⟩
 exact ⟨_,_,_,rfl,f1,B,k,rfl,h1⟩
set_option maxHeartbeats 1000000 in
theorem peak_calls [Ow] (m:Int) (A:Option Addr) (n c:Nat) (l:List Wr) (w:World) (hl:WSl w A n l) (hn:n<=1099511627775) (hd:∀ x ∈ l,x.data.length<=1048576) :
  Calls Tryz.prog 153 #[.int .i64 m,.slice A n c] w fun e w'=>e=.returned (.int .i64 (peakW m l))/\Fr (fun _=>False) w w':=by
 refine (F153.of m A n c w (Q:=fun v w'=>v=.int .i64 (peakW m l)/\Fr (fun _=>False) w w') ?_).mono (fun e w' ⟨v,he,hv,h⟩=>⟨by rw [he,hv],h⟩)
 have hwl:l.length=n:=by obtain ⟨vs,_,h2,_⟩:=hl; exact h2
 refine jnC_mk (loop_rule (fun s v=>Fr (fun _=>False) w v/\∃ (i:Nat),i<=n/\s=(peakW m (l.take i),(A,n,c),((n:Nat):Int),(i:Int),()))
  (fun s _=>(n - s.2.2.2.1).toNat) ?_ _ _ ⟨Fr.refl _ _,0,by omega,rfl⟩)
 rintro s v C ⟨hf,i,hi,rfl⟩ hC _
 have ms:((n:Int) - IntKind.wrap .i64 ((i:Int)+1)).toNat < ((n:Int) - (i:Int)).toNat\/¬ i < n:=by
  by_cases h:i < n
  ·left; rw [ei i (by omega)]; omega
  ·exact .inr h
 refine vIf_mk (fun hlt=>?_) (fun hge=>?_)
 ·have hlt2:(i:Int) < (n:Int):=of_decide_eq_true hlt
  have gi:l[i]?=some (l[i]'(by omega)):=List.getElem?_eq_getElem (by omega)
  generalize l[i]'(by omega)=x at gi
  have hxd:=hd x (List.mem_of_getElem? gi)
  obtain ⟨vs,hs,_,hE⟩:=hl.fr0 hf
  refine el_all hs hE (by omega) gi (by omega) (fun cs hc hx=>var_new rfl hc (wr_one hx).2 (fun b4 w6 g1 hb4 r4=>⟨cs,hc,rec_all r4,?_⟩))
  have hf1:=hf.trans1 g1
  refine (right_calls cs x w6 (hx.fr0 g1) (by omega)).mono ?_
  rintro e w8 ⟨rfl,g2⟩
  have r4:=r4.fr g2 (fun h=>h)
  have hf2:=hf1.trans1 g2
  obtain ⟨B,k,k',ecs,hB,hkk⟩:=hx
  subst ecs
  have hk:=by_n hB
  have k5:∀ t:Bool,t=decide (rightW x=true/\x.cut=false/\x.data ≠ [])->jnC (F153.k5 (fun v w'=>v=.int .i64 (peakW m l)/\Fr (fun _=>False) w w') C) (peakW m (l.take i),(b4,0),(A,n,c),((n:Nat):Int),(i:Int),t,()) w8:=by
   intro t ht
   refine jnC_mk (fun _=>vIf_mk (fun h1=>⟨_,r4.cell (o:=0+1) rfl,_,_,_,r4.cell (o:=0+2) rfl,jnC_mk (hC _ _ ⟨hf2,i+1,by omega,?_⟩ (ms.resolve_right (by omega)))⟩) (fun h1=>jnC_mk (hC _ _ ⟨hf2,i+1,by omega,?_⟩ (ms.resolve_right (by omega)))))
   ·have h1:t=true:=h1
    rw [h1] at ht
    have hp:=of_decide_eq_true ht.symm
    have hro:=right_iff.1 hp.1
    have ew:IntKind.wrap .i64 (x.off+((k:Nat):Int))=x.off+(x.data.length:Int):=by rw [i64_id (by omega) (by omega)]; omega
    rw [ei i (by omega),takeW gi,peakW_snoc,endW_pos hp,ew]
   ·have h1:t=false:=h1
    rw [h1] at ht
    have hp:=of_decide_eq_false ht.symm
    rw [ei i (by omega),takeW gi,peakW_snoc,endW_neg hp]
  refine ⟨_,rfl,vIf_mk (fun hr=>⟨_,r4.cell (o:=0) rfl,vIf_mk (fun hcut=>⟨_,_,_,r4.cell (o:=0+2) rfl,k5 _ ?_⟩) (fun hcut=>k5 _ ?_)⟩) (fun hr=>k5 _ ?_)⟩
  ·have hr:rightW x=true:=hr
   have hcut:x.cut=false:=by simpa using hcut
   rw [Bool.eq_iff_iff,decide_eq_true_iff,decide_eq_true_iff]
   constructor
   ·intro h
    refine ⟨hr,hcut,fun e=>?_⟩
    rw [e] at hk
    simp at hk
    omega
   ·rintro ⟨_,_,h⟩
    have:x.data.length ≠ 0:=fun e=>h (List.length_eq_zero_iff.1 e)
    omega
  ·have hcut:x.cut=true:=by simpa using hcut
   symm
   exact decide_eq_false (fun h=>by rw [hcut] at h; cases h.2.1)
  ·have hr:rightW x=false:=hr
   symm
   exact decide_eq_false (fun h=>by rw [hr] at h; cases h.1)
 ·have hge2:¬ (i:Int) < (n:Int):=of_decide_eq_false hge
  have e:l.take i=l:=List.take_of_length_le (by omega)
  rw [e]
  exact ⟨rfl,hf⟩
abbrev ZW:List Value:=[Value.bool false,Value.int .i64 0,Value.slice none 0 0]
theorem zw_one:∀ v ∈ ZW,v.oneCell'=true:=by
 intro v hv
 simp only [List.mem_cons,List.not_mem_nil,or_false] at hv
 rcases hv with rfl | rfl | rfl <;> rfl
def totW (ls:List (Nat×List Value)):Nat:=(ls.map (·.1)).sum
def celW (ls:List (Nat×List Value)):List Value:=(ls.map (·.2)).flatten
theorem totW_step {ls:List (Nat×List Value)} {i:Nat} {l:Nat×List Value} (h:ls[i]?=some l):totW (ls.take (i+1))=totW (ls.take i)+l.1/\celW (ls.take (i+1))=celW (ls.take i) ++ l.2:=by
 unfold totW celW
 rw [List.take_add_one,h]; simp
theorem totW_le (ls:List (Nat×List Value)) (i:Nat):totW (ls.take i)<=totW ls:=by
 have h:totW ls=totW (ls.take i)+totW (ls.drop i):=by
  unfold totW
  rw [<- List.sum_append,<- List.map_append,List.take_append_drop]
 omega
theorem growW_calls (m:Nat) (w:World) (hm:m<=1099511627776) :
  Calls Tryz.prog 177 #[.slice none 0 0,.int .i64 m] w fun e w'=>Fr (fun _=>False) w w'/\∃ A' c',e=.returned (.slice A' 0 c')/\Row w' w.heap.size 197 3 A' 0 c' []:=by
 refine (F177.of none 0 0 m w (Q:=fun v w'=>Fr (fun _=>False) w w'/\∃ A' c',v=.slice A' 0 c'/\Row w' w.heap.size 197 3 A' 0 c' []) ?_).mono (fun e w' ⟨v,he,hf,A',c',hv,h⟩=>⟨hf,A',c',by rw [he,hv],h⟩)
 refine vIf_f (decide_eq_false (by omega)) (jnC_mk (fun _=>?_))
 have e0:IntKind.wrap .i64 ((m:Int) - IntKind.wrap .i64 (((0:Nat):Int) - ((0:Nat):Int)))=m:=by
  rw [i64_id (n:=((0:Nat):Int) - ((0:Nat):Int)) (by omega) (by omega),i64_id (by omega) (by omega)]; omega
 show vIf (decide (IntKind.wrap .i64 ((m:Int) - IntKind.wrap .i64 (((0:Nat):Int) - ((0:Nat):Int))) > 0)) _ _
 refine vIf_mk (fun h0=>?_) (fun h0=>⟨Fr.refl _ _,none,0,rfl,Row.nil _ _ _ _⟩)
 refine gd_mk rfl (gd_mk rfl ?_)
 show appZ w 3 40 ZW 197 none 0 0 (IntKind.wrap .i64 ((m:Int) - IntKind.wrap .i64 (((0:Nat):Int) - ((0:Nat):Int)))) _
 refine appZ_row (Row.nil w w.heap.size 197 3) (m:=m) (by rw [e0,i64_id (by omega) (by omega)]) (by omega) zw_one rfl (by omega) (by omega) (Nat.le_refl _) ?_
 intro A' c' w2 r2 f2
 refine gd_mk rfl (gd_mk (decide_eq_true (by show ((0:Nat):Int)<=(c':Int); omega)) ⟨f2.mono (fun _ _ h=>by simp [blkOf] at h),_,c',rfl,?_⟩)
 have hsl:slA A' c' 0 3=A':=by
  unfold slA
  split
  ·rfl
  ·cases A' with
   | none=>rfl
   | some a=>simp [Addr.add]
 show Row w2 w.heap.size 197 3 (slA A' c' 0 3) 0 c' []
 rw [hsl]
 refine ⟨rfl,Nat.zero_le _,?_⟩
 rcases r2.at_ with ⟨h1,h2,h3⟩ | ⟨b,cs,h1,h2,h3,h4,h5⟩
 ·exact .inl ⟨h1,rfl,h3⟩
 ·exact .inr ⟨b,cs,h1,h2,h3,h4,by simp⟩
theorem concatW_calls (A:Option Addr) (n c:Nat) (vs:List Value) (ls:List (Nat×List Value)) (w:World) (h:Sl w 1 A n vs) (hn:n=ls.length) (hs:∀ (i:Nat) (l:Nat×List Value),ls[i]?=some l->∃ (B:Option Addr) (k:Nat),vs[i]?=some (Value.slice B l.1 k)/\Sl w 3 B l.1 l.2/\∀ v ∈ l.2,v.oneCell'=true)
  (hm:totW ls<=1099511627776) (hn2:n<=1099511627776) :
  Calls Tryz.prog 154 #[.slice A n c] w fun e w'=>Fr (fun _=>False) w w'/\∃ A' c',e=.returned (.slice A' (totW ls) c')/\Row w' w.heap.size 197 3 A' (totW ls) c' (celW ls):=by
 refine (F154.of A n c w (Q:=fun v w'=>Fr (fun _=>False) w w'/\∃ A' c',v=.slice A' (totW ls) c'/\Row w' w.heap.size 197 3 A' (totW ls) c' (celW ls)) ?_).mono (fun e w' ⟨v,he,hf,A',c',hv,h⟩=>⟨hf,A',c',by rw [he,hv],h⟩)
 refine jnC_mk ?_
 refine loop_rule (fun s u=>u=w/\∃ i:Nat,i<=n/\s=((A,n,c),((totW (ls.take i):Nat):Int),(A,n,c),(n:Int),(i:Int),()))
  (fun s _=>(n - s.2.2.2.2.1).toNat) ?_ _ _ ⟨rfl,0,by omega,rfl⟩
 rintro s u C ⟨rfl,i,hi,rfl⟩ hC _
 refine vIf_mk (fun hlt=>?_) (fun hge=>?_)
 ·have hlt2:(i:Int) < n:=of_decide_eq_true hlt
  obtain ⟨l,hl⟩:∃ l,ls[i]?=some l:=⟨_,List.getElem?_eq_getElem (by omega)⟩
  obtain ⟨B,k,hv,hB,_⟩:=hs i l hl
  obtain ⟨b,o,hA',hc⟩:=h.get (i:=i) (by omega) hv
  subst hA'
  have h1:=totW_le ls (i+1)
  have h2:=(totW_step hl).1
  have e1:IntKind.wrap .i64 (((totW (ls.take i):Nat):Int)+((l.1:Nat):Int))=((totW (ls.take (i+1)):Nat):Int):=by
   rw [i64_id (by omega) (by omega)]; omega
  refine dr_mk (gd_mk (decide_eq_true (Int.natCast_nonneg i)) (gd_mk (decide_eq_true hlt2) ⟨B,l.1,k,hc,vIf_f (decide_eq_false ?_) (jnC_mk (hC _ _ ⟨rfl,i+1,by omega,?_⟩ ?_))⟩))
  ·show ¬ (IntKind.wrap .i64 (((totW (ls.take i):Nat):Int)+((l.1:Nat):Int)) < 0)
   rw [e1]; omega
  ·show ((_,n,c),IntKind.wrap .i64 (((totW (ls.take i):Nat):Int)+((l.1:Nat):Int)),(_,n,c),(n:Int),IntKind.wrap .i64 ((i:Int)+1),())=_
   rw [e1,i64_id (by omega) (by omega)]; rfl
  ·show ((n:Int) - IntKind.wrap .i64 ((i:Int)+1)).toNat < ((n:Int) - i).toNat
   rw [i64_id (by omega) (by omega)]; omega
 ·have hge2:¬ ((i:Int) < n):=of_decide_eq_false hge
  have hin:i=ls.length:=by omega
  subst hin
  show Calls Tryz.prog 177 #[.slice none 0 0,.int .i64 ((totW (ls.take ls.length):Nat):Int)] u _
  rw [List.take_length]
  refine (growW_calls _ u hm).mono ?_
  rintro e w1 ⟨f1,R,rc,rfl,r1⟩
  refine ⟨R,0,rc,rfl,jnC_mk ?_⟩
  refine loop_rule (fun s x=>Fr (fun _=>False) u x/\∃ (i:Nat) (R:Option Addr) (rc:Nat),i<=n/\s=((R,totW (ls.take i),rc),(A,n,c),(n:Int),(i:Int),())/\Row x u.heap.size 197 3 R (totW (ls.take i)) rc (celW (ls.take i)))
   (fun s _=>(n - s.2.2.2.1).toNat) ?_ _ _ ⟨f1,0,R,rc,by omega,rfl,r1⟩
  rintro s x C2 ⟨hf,i,R,rc,hi,rfl,hr⟩ hC2 _
  have hRb:∀ k,k < u.heap.size->blkOf R=some k->False:=fun k hk hb=>by have:=(hr.blt hb).1; omega
  refine vIf_mk (fun hlt=>?_) (fun hge=>?_)
  ·have hlt2:(i:Int) < n:=of_decide_eq_true hlt
   obtain ⟨l,hl⟩:∃ l,ls[i]?=some l:=⟨_,List.getElem?_eq_getElem (by omega)⟩
   obtain ⟨B,k,hv,hB,hone⟩:=hs i l hl
   obtain ⟨b,o,hA',hc⟩:=(hf.sl h (fun _ _ _ h=>h)).get (i:=i) (by omega) hv
   subst hA'
   have h1:=totW_le ls (i+1)
   obtain ⟨h2,h3⟩:=totW_step hl
   refine dr_mk (gd_mk (decide_eq_true (Int.natCast_nonneg i)) (gd_mk (decide_eq_true hlt2) ⟨B,l.1,k,hc,?_⟩))
   refine app_row hr (hf.sl hB (fun _ _ _ h=>h)).src hone rfl (by show (totW (ls.take i)+l.1) * 40<=_; omega) (by show totW (ls.take i)+l.1<=_; omega) hf.size ?_
   intro R' rc' w4 r4 f4
   refine jnC_mk (hC2 _ _ ⟨hf.trans f4 (fun _ _ h=>h) (fun k hk h=>hRb k hk h),i+1,R',rc',by omega,?_,?_⟩ ?_)
   ·show ((R',totW (ls.take i)+l.1,rc'),(_,n,c),(n:Int),IntKind.wrap .i64 ((i:Int)+1),())=_
    rw [i64_id (by omega) (by omega),<- h2]; rfl
   ·rw [h2,h3]
    exact r4
   ·show ((n:Int) - IntKind.wrap .i64 ((i:Int)+1)).toNat < ((n:Int) - i).toNat
    rw [i64_id (by omega) (by omega)]; omega
  ·have hge2:¬ ((i:Int) < n):=of_decide_eq_false hge
   have hin:i=ls.length:=by omega
   subst hin
   rw [List.take_length] at hr ⊢
   exact ⟨hf,R,rc,rfl,hr⟩
theorem ino_one [Ow] {w:World} {cs:List Value} {x:Ino} (h:InoAt w cs x):cs.length=2/\∀ v ∈ cs,v.oneCell'=true:=by
 obtain ⟨A,n,c,A',n',c',rfl,_⟩:=h
 refine ⟨rfl,fun v hv=>?_⟩
 simp only [List.mem_cons,List.not_mem_nil,or_false] at hv
 rcases hv with rfl | rfl <;> rfl
theorem wsl_n [Ow] {w:World} {A:Option Addr} {n:Nat} {l:List Wr} (h:WSl w A n l):l.length=n:=by
 obtain ⟨vs,_,h2,_⟩:=h
 exact h2
theorem rec_new {w:World} {cs:List Value} {e:TypeId} {K:Nat->World->Prop} (hK:∀ b w',Fr (fun _=>False) w w'->w.heap.size<=b->RecAt w' b e cs->K b w'):nw w cs e K :=
 nw_mk (hK _ _ (Fr.alloc _ _ _) (Nat.le_refl _) (RecAt.new w cs e))
theorem now_calls' [Ow] (cs:List Value) (x:Ino) (w:World) (h:InoAt w cs x) (hb:InoB x) (hp:x.p.length<=1099511627775) :
  Calls Tryz.prog 56 #[ofL cs] w fun e w'=>Fr (fun _=>False) w w'/\∃ B k,e=.returned (.slice B (nowI x).length k)/\Row w' w.heap.size 5 1 B (nowI x).length k (bys (nowI x)):=by
 refine (F56.of cs w (Q:=fun v w'=>Fr (fun _=>False) w w'/\∃ B k,v=.slice B (nowI x).length k/\Row w' w.heap.size 5 1 B (nowI x).length k (bys (nowI x))) ?_).mono (fun e w' ⟨v,he,hf,B,k,hv,h⟩=>⟨hf,B,k,by rw [he,hv],h⟩)
 have h0:=h
 obtain ⟨A,n,c,A',n',c',rfl,h1,h2,h3,h4⟩:=h
 refine rec_new (fun b1 w2 f1 _ r1=>⟨_,_,_,r1.cell (o:=0) rfl,_,_,_,r1.cell (o:=0+1) rfl,?_⟩)
 have hn:=wsl_n h3
 refine (all_calls A n c x.b A' n' c' x.p w2 (f1.sl h1 (fun _ _ _ h=>h)) (h3.fr0 f1) hb.b (by omega) hb.d).mono ?_
 rintro e w9 ⟨f9,B,k,rfl,h9⟩
 exact ⟨_,_,_,rfl,f1.trans1 f9,B,k,rfl,row_lowB f1.size h9⟩
theorem room_calls [Ow] (cs:List Value) (x:Ino) (w:World) (h:InoAt w cs x) (hb:InoB x) (hp:x.p.length<=1099511627775) :
  Calls Tryz.prog 136 #[ofL cs] w fun e w'=>e=.returned (.int .i64 (roomI x))/\Fr (fun _=>False) w w':=by
 refine (F136.of cs w (Q:=fun v w'=>v=.int .i64 (roomI x)/\Fr (fun _=>False) w w') ?_).mono (fun e w' ⟨v,he,hv,h⟩=>⟨by rw [he,hv],h⟩)
 obtain ⟨A,n,c,A',n',c',rfl,h1,h2,h3,h4⟩:=h
 have hn:=by_n h1
 have hn':=wsl_n h3
 refine rec_new (fun b1 w2 f1 _ r1=>⟨_,_,_,r1.cell (o:=0) rfl,_,_,_,r1.cell (o:=0+1) rfl,?_⟩)
 refine (peak_calls (n:Int) A' n' c' x.p w2 (h3.fr0 f1) (by omega) hb.d).mono ?_
 rintro e w9 ⟨rfl,f9⟩
 exact ⟨_,rfl,by unfold roomI; rw [hn],f1.trans1 f9⟩
theorem sync_calls' [Ow] (cs:List Value) (x:Ino) (w:World) (h:InoAt w cs x) (hb:InoB x) (hp:x.p.length<=1099511627775) :
  Calls Tryz.prog 116 #[ofL cs] w fun e w'=>Fr (fun _=>False) w w'/\∃ cs',e=.returned (ofL cs')/\InoAt w' cs' (syncI x):=by
 refine (F116.of cs w (Q:=fun v w'=>Fr (fun _=>False) w w'/\∃ cs',v=ofL cs'/\InoAt w' cs' (syncI x)) ?_).mono (fun e w' ⟨v,he,hf,cs',hv,h⟩=>⟨hf,cs',by rw [he,hv],h⟩)
 have hone:=ino_one h
 refine rec_new (fun b1 w2 f1 hb1 r1=>rec_new (fun b3 w4 f3 hb3 r3=>⟨cs,hone.1,rec_all (r1.fr f3 (fun h=>h)),?_⟩))
 have f13:=f1.trans1 f3
 have hs1:=f1.size
 have hl3:=r3.lt
 refine (now_calls' cs x w4 (h.fr0 f13) hb hp).mono ?_
 rintro e w6 ⟨f6,B,k,rfl,h6⟩
 have r3:=r3.fr f6 (fun h=>h)
 have hr3:=r3.lt
 refine ⟨_,_,_,rfl,gd_mk rfl (r3.st_mk (o:=0) (by show 0+2<=2; omega) (fun v hv=>?_) (fun r3 f7=>?_))⟩
 ·simp only [List.cons_append,List.nil_append,List.mem_cons,List.not_mem_nil,or_false] at hv
  rcases hv with rfl | rfl <;> rfl
 rw [splice_full (by rfl)] at r3
 refine ⟨[.slice B (nowI x).length k,.slice none 0 0],rfl,rec_all r3,(f13.trans1 f6).trans f7 (fun _ _ h=>h) (fun j hj h=>by have h:j=b3:=h; omega),_,rfl,?_⟩
 have hsl:=f7.row h6 (fun j hj h=>by have h:j=b3:=h; have:=(h6.blt hj).1; omega)
 have hz:w.heap.size<=(stB w6 b3 0 ([Value.slice B (nowI x).length k] ++ ([Value.slice none 0 0] ++ []))).heap.size:=Nat.le_trans (f13.trans1 f6).size f7.size
 exact ⟨_,_,_,_,_,_,rfl,hsl.sl,hsl.le,⟨[],Sl.nil _ _ _,rfl,Ech.nil⟩,Nat.le_refl _,h.ok.own hz (fun j hj=>Nat.le_trans f13.size (hsl.blt hj).1),(h.ok.up hz).nil none⟩
set_option maxHeartbeats 1000000 in
theorem with_calls [Ow] (cs:List Value) (x:Ino) (B:Option Addr) (k:Nat) (cy:List Value) (y:Wr) (w:World) (h:InoAt w cs x) (hB:Sl w 3 B 1 cy) (hy:WrP w cy y) (hp:x.p.length<=1099511627774) :
  Calls Tryz.prog 138 #[ofL cs,.slice B 1 k] w fun e w'=>Fr (fun _=>False) w w'/\∃ cs',e=.returned (ofL cs')/\InoAt w' cs' ⟨x.b,x.p ++ [y]⟩:=by
 refine (F138.of cs B 1 k w (Q:=fun v w'=>Fr (fun _=>False) w w'/\∃ cs',v=ofL cs'/\InoAt w' cs' ⟨x.b,x.p ++ [y]⟩) ?_).mono (fun e w' ⟨v,he,hf,cs',hv,h⟩=>⟨hf,cs',by rw [he,hv],h⟩)
 have hyo:=wr_one hy
 obtain ⟨A,n,c,A',n',c',rfl,h1,h2,h3,h4⟩:=h
 have hn':=wsl_n h3
 refine rec_new (fun b1 w2 f1 hb1 r1=>rec_new (fun b3 w4 f3 hb3 r3=>?_))
 have fd:Fr (fun _=>False) w4 w4.drew:=Fr.drew _ _
 have hl3:=r3.lt
 have r1:=(r1.fr f3 (fun h=>h)).fr fd (fun h=>h)
 have r3:=r3.fr fd (fun h=>h)
 have f0:=(f1.trans1 f3).trans1 fd
 have hs1:=f1.size
 have hs3:=f3.size
 have hsd:=fd.size
 generalize w4.drew=w5 at fd r1 r3 f0 hsd ⊢
 refine ⟨_,_,_,r1.cell (o:=0) rfl,_,_,_,r1.cell (o:=0+1) rfl,rec_new (fun b11 w12 f4 hb11 r11=>kp_mk f4 r1.lt (fun h=>h) ?_)⟩
 have f04:=f0.trans1 f4
 obtain ⟨vs,hs,hl,hE⟩:=h3.fr0 f04
 have hcel:celW [(n',vs),(1,cy)]=vs ++ cy:=by simp [celW]
 have htot:totW [(n',vs),(1,cy)]=n'+1:=by simp [totW]
 have hB12:=f04.sl hB (fun _ _ _ h=>h)
 have hy12:=hy.fr0 f04
 have hr11:Sl w12 1 (some ⟨b11,0,none⟩) 2 [Value.slice A' n' c',Value.slice B 1 k]:=⟨rfl,fun _=>⟨b11,0,rfl,rec_all r11⟩⟩
 have hvone:∀ v ∈ vs,v.oneCell'=true:=by
  intro v hv
  obtain ⟨j,hj⟩:=List.mem_iff_getElem?.1 hv
  have hjl:=(List.getElem?_eq_some_iff.1 hj).1
  have hvl:=hs.1
  have gx:x.p[j / 3]?=some (x.p[j / 3]'(by omega)):=List.getElem?_eq_getElem (by omega)
  have hw:=hE (j / 3) _ gx
  refine (wr_one hw).2 v (List.mem_iff_getElem?.2 ⟨j % 3,?_⟩)
  rw [chk_get (by omega),show j / 3 * 3+j % 3=j by omega]
  exact hj
 refine (concatW_calls _ 2 2 [Value.slice A' n' c',Value.slice B 1 k] [(n',vs),(1,cy)] w12 hr11 rfl (fun i l hi=>?_) (by rw [htot]; omega) (by omega)).mono ?_
 ·match i,hi with
  | 0,hi=>simp at hi; subst hi; exact ⟨A',c',rfl,hs,hvone⟩
  | 1,hi=>simp at hi; subst hi; exact ⟨B,k,rfl,hB12,hyo.2⟩
  | i+2,hi=>simp at hi
 rintro e w13 ⟨f5,A15,c17,rfl,h15⟩
 rw [htot,hcel] at h15
 rw [htot]
 have f45:=f4.trans1 f5
 have f05:=f0.trans1 f45
 have r3:=r3.fr f45 (fun h=>h)
 refine ⟨_,_,_,rfl,kp_mk f45 r1.lt (fun h=>h) (gd_mk rfl (r3.st_mk (o:=0) (by show 0+2<=2; omega) (fun v hv=>?_) (fun r3 f7=>?_)))⟩
 ·simp only [List.cons_append,List.nil_append,List.mem_cons,List.not_mem_nil,or_false] at hv
  rcases hv with rfl | rfl <;> rfl
 rw [splice_full (by rfl)] at r3
 have f07:Fr (fun _=>False) w (stB w13 b3 0 ([Value.slice A n c] ++ ([Value.slice A15 (n'+1) c17] ++ []))):=f05.trans f7 (fun _ _ h=>h) (fun j hj h=>by have h:j=b3:=h; omega)
 have h15':=f7.row h15 (fun j hj h=>by have h:j=b3:=h; have:=(h15.blt hj).1; have:=f4.size; omega)
 refine ⟨[.slice A n c,.slice A15 (n'+1) c17],rfl,rec_all r3,f07,_,rfl,_,_,_,_,_,_,rfl,f07.sl h1 (fun _ _ _ h=>h),h2,⟨vs ++ cy,h15'.sl,by rw [List.length_append,hl]; rfl,?_⟩,h15'.le,h4.2.1.fr f07,h4.2.2.own f07.size (fun j hj=>Nat.le_trans f04.size (h15'.blt hj).1)⟩
 have f57:Fr (fun k=>k=b3) w12 (stB w13 b3 0 ([Value.slice A n c] ++ ([Value.slice A15 (n'+1) c17] ++ []))):=f5.trans f7 (fun _ _ h=>h.elim) (fun _ _ h=>h)
 obtain ⟨vs2,hs2,hl2,hE2⟩:=h3.fr0 f07
 have hEv:Ech 3 (WrP (stB w13 b3 0 ([Value.slice A n c] ++ ([Value.slice A15 (n'+1) c17] ++ [])))) vs x.p:=by
  obtain ⟨vs0,hs0,hl0,hE0⟩:=h3
  have e:vs=vs0:=by
   by_cases h0:n'=0
   ·have a1:=hs.1
    have a2:=hs0.1
    rw [h0] at a1 a2
    simp at a1 a2
    rw [a1,a2]
   ·obtain ⟨q1,o1,e1,c1⟩:=hs.2 h0
    obtain ⟨q2,o2,e2,c2⟩:=(f04.sl hs0 (fun _ _ _ h=>h)).2 h0
    rw [e1] at e2
    injection e2 with e2
    injection e2 with e2 e3
    subst e2; subst e3
    apply List.ext_getElem?
    intro j
    by_cases hj:j < vs.length
    ·have hj0:j < vs0.length:=by rw [hs0.1,<- hs.1]; exact hj
     have a:=c1 j _ (List.getElem?_eq_getElem hj)
     have b:=c2 j _ (List.getElem?_eq_getElem hj0)
     rw [a] at b
     rw [List.getElem?_eq_getElem hj,List.getElem?_eq_getElem hj0]
     exact b
    ·rw [List.getElem?_eq_none (by omega),List.getElem?_eq_none (by rw [hs0.1,<- hs.1]; omega)]
  rw [e]
  exact hE0.mono (fun cs z hz=>hz.fr0 f07)
 exact hEv.snoc hs.1 hl hyo.1 (hy.fr0 f07)
def zI:Ino:=⟨[],[]⟩
structure Dk where
 lb:Int
 lf:Int
 F:Fo
 f:Int->Ino
 last:Int
 down:Bool
 fu:Option Int
 calls:Int
def trim (F:Fo) (f:Int->Ino):Int->Ino:=fun id=>if id ∈ idsF F then f id else zI
def takenF (F:Fo) (f:Int->Ino):Int:=((idsF F).map fun id=>roomI (f id)).sum
def updF (f:Int->Ino) (id:Int) (x:Ino):Int->Ino:=fun k=>if k=id then x else f k
noncomputable def chD (d:Dk) (c:Ch):Dk×Int:=({ d with F:=doF d.F c,f:=trim (doF d.F c) d.f },wrongF d.F c)
noncomputable def crD (d:Dk) (s:ByteArray):Dk×Int :=
 if (((idsF d.F).length:Nat):Int) >= d.lf then (d,8)
 else if wrongF d.F ⟨1,s,⟨#[]⟩,d.last+1⟩=0 then ({ (chD d ⟨1,s,⟨#[]⟩,d.last+1⟩).1 with last:=d.last+1 },0)
 else chD d ⟨1,s,⟨#[]⟩,d.last+1⟩
def fileD (d:Dk) (s:ByteArray) (g:Ino->Ino×Int):Dk×Int :=
 match findN s (nowF d.F) with
 | none=>(d,6)
 | some id =>
  if (g (d.f id)).2 ≠ 0 then (d,(g (d.f id)).2)
  else if roomI (g (d.f id)).1 > roomI (d.f id)/\takenF d.F (updF d.f id (g (d.f id)).1) > d.lb then (d,9)
  else ({ d with f:=updF d.f id (g (d.f id)).1 },0)
def offD (d:Dk):Bool:=d.down || (match d.fu with | some n=>decide (n<=0) | none=>false)
def powD (d:Dk) (call:Dk->Dk×Int):Dk×Int :=
 if offD d=true then ({ d with down:=true },11) else call { d with fu:=d.fu.map (· - 1),calls:=d.calls+1 }
def sdD (d:Dk):Dk×Int:=({ d with F:=⟨nowF d.F,[]⟩,f:=trim ⟨nowF d.F,[]⟩ d.f },0)
def crashS (f:Int->Ino):List Int->Bs->Int->Ino
 | [],_=>f
 | id :: r,c=>crashS (updF f id (crashI (f id) c).1) r (crashI (f id) c).2
def headC (c:Bs):Int:=match c with | []=>0 | x :: _=>(x.toNat:Int)
def crashD (d:Dk) (c:Bs):Dk :=
 { d with F:=⟨behF d.F (headC c),[]⟩,f:=trim ⟨behF d.F (headC c),[]⟩ (crashS d.f (idsF d.F) c.tail),down:=false,fu:=none }
def fuseD (d:Dk) (n:Int):Dk:={ d with fu:=if n >= 0 then some n else none }
structure Cl where
 k:Int
 nm:ByteArray
 to:ByteArray
 data:Bs
 n:Int
noncomputable def doD (d:Dk) (c:Cl):Dk×Int :=
 if c.k=1 then powD d (fun d=>crD d c.nm)
 else if c.k=2 then powD d (fun d=>fileD d c.nm (fun x=>appI x c.data))
 else if c.k=3 then powD d (fun d=>fileD d c.nm (fun x=>cutI x c.n))
 else if c.k=4 then powD d (fun d=>fileD d c.nm (fun x=>(syncI x,0)))
 else if c.k=5 then powD d (fun d=>chD d ⟨2,c.nm,c.to,0⟩)
 else if c.k=6 then powD d (fun d=>chD d ⟨3,c.nm,⟨#[]⟩,0⟩)
 else if c.k=7 then powD d sdD
 else if c.k=8 then (fuseD d c.n,0)
 else if c.k=9 then (crashD d c.data,0)
 else (d,0)
def lookD (d:Dk) (s:ByteArray):Bs×Int :=
 if d.down=true then ([],11) else match findN s (nowF d.F) with | none=>([],6) | some id=>(nowI (d.f id),0)
def readD (d:Dk) (s:ByteArray) (off n:Int):Bs×Int :=
 if (lookD d s).2 ≠ 0 then ([],(lookD d s).2)
 else if off < 0\/n < 0\/off > ((lookD d s).1.length:Int)\/n > ((lookD d s).1.length:Int) - off then ([],20)
 else (((lookD d s).1.drop off.toNat).take n.toNat,0)
structure DkI (d:Dk):Prop where
 out:∀ id,id ∉ idsF d.F->d.f id=zI
 rng:∀ id ∈ idsF d.F,1<=id/\id<=d.last
 ino:∀ id,InoB (d.f id)
 fu:∀ n,d.fu=some n->0<=n
theorem zI_B:InoB zI:=⟨by simp [zI],fun y hy=>by cases hy⟩
theorem trim_in {F:Fo} {f:Int->Ino} {id:Int} (h:id ∈ idsF F):trim F f id=f id:=if_pos h
theorem trim_out {F:Fo} {f:Int->Ino} {id:Int} (h:id ∉ idsF F):trim F f id=zI:=if_neg h
theorem trim_B {F:Fo} {f:Int->Ino} (h:∀ id,InoB (f id)) (id:Int):InoB (trim F f id):=by
 unfold trim
 split
 ·exact h id
 ·exact zI_B
theorem updF_B {f:Int->Ino} (h:∀ id,InoB (f id)) {k:Int} {x:Ino} (hx:InoB x) (id:Int):InoB (updF f k x id):=by
 unfold updF
 split
 ·exact hx
 ·exact h id
theorem appI_B {x:Ino} (h:InoB x) (b:Bs):InoB (appI x b).1:=by
 unfold appI
 split
 ·exact h
 ·split
  ·exact h
  ·rename_i h1 _
   refine ⟨h.b,fun y hy=>?_⟩
   rcases List.mem_append.1 hy with hy | hy
   ·exact h.d y hy
   ·rw [List.mem_singleton.1 hy]
    show b.length<=1048576
    omega
theorem cutI_B {x:Ino} (h:InoB x) (n:Int):InoB (cutI x n).1:=by
 unfold cutI
 split
 ·exact h
 ·refine ⟨h.b,fun y hy=>?_⟩
  rcases List.mem_append.1 hy with hy | hy
  ·exact h.d y hy
  ·rw [List.mem_singleton.1 hy]; simp
theorem syncI_B {x:Ino} (h:InoB x):InoB (syncI x):=⟨now_le h,fun y hy=>by cases hy⟩
theorem crashI_B {x:Ino} (h:InoB x) (c:Bs):InoB (crashI x c).1:=by
 have h1:=survW_len x.p x.b c
 have h2:=peakW_le x.p (n:=(x.b.length:Int)) (by have:=h.b; omega)
 exact ⟨by show (survW x.b x.p c).length<=1048576; omega,fun y hy=>by cases hy⟩
theorem crashS_B:∀ (l:List Int) (f:Int->Ino) (c:Bs),(∀ id,InoB (f id))->∀ id,InoB (crashS f l c id)
 | [],f,c,h,id=>h id
 | k :: l,f,c,h,id=>crashS_B l _ _ (updF_B h (crashI_B (h k) c)) id
theorem ans_mk {w:World} {b:Nat} {e:TypeId} {old cs:List Value} (r:RecAt w b e old) (ho:old.length=2) (hc:cs.length=2) (h1:∀ v ∈ cs,v.oneCell'=true) {K:List Value->World->Prop} (hK:∀ w',Fr (fun k=>k=b) w w'->K cs w') :
  gd (cs.length == 2) (st w b 0 cs fun w1=>ldA 2 w1 b 0 fun a=>K a w1):=by
 refine gd_mk (by rw [hc]; rfl) (r.st_mk (o:=0) (by rw [hc,ho]; omega) h1 (fun r1 f1=>?_))
 rw [splice_full (by rw [hc,ho])] at r1
 exact ⟨cs,hc,rec_all r1,hK _ f1⟩
set_option maxHeartbeats 1000000 in
theorem app_calls [Ow] (cs:List Value) (x:Ino) (A:Option Addr) (n c:Nat) (b:Bs) (w:World) (h:InoAt w cs x) (hA:Sl w 1 A n (bys b)) (hb:InoB x) (hp:x.p.length<=1099511627774) (hn:n<=1099511627776) :
  Calls Tryz.prog 113 #[ofL cs,.slice A n c] w fun e w'=>Fr (fun _=>False) w w'/\∃ cs',e=.returned (.tuple #[ofL cs',.int .i64 (appI x b).2])/\InoAt w' cs' (appI x b).1:=by
 refine (F113.of cs A n c w (Q:=fun v w'=>Fr (fun _=>False) w w'/\∃ cs',v=.tuple #[ofL cs',.int .i64 (appI x b).2]/\InoAt w' cs' (appI x b).1) ?_).mono (fun e w' ⟨v,he,hf,cs',hv,h⟩=>⟨hf,cs',by rw [he,hv],h⟩)
 have hone:=ino_one h
 have hbl:=by_n hA
 have hnow:=now_le hb
 refine rec_new (fun b1 w2 f1 hb1 r1=>rec_new (fun b3 w4 f3 hb3 r3=>⟨cs,hone.1,rec_all (r1.fr f3 (fun h=>h)),?_⟩))
 have r1:=r1.fr f3 (fun h=>h)
 have hl3:=r3.lt
 have hs1:=f1.size
 have f13:=f1.trans1 f3
 have lt3:∀ k,k < w.heap.size->¬ k=b3:=fun k hk h=>by omega
 refine (now_calls' cs x w4 (h.fr0 f13) hb (by omega)).mono ?_
 rintro e w6 ⟨f6,B,k,rfl,h6⟩
 have r1:=r1.fr f6 (fun h=>h)
 have r3:=r3.fr f6 (fun h=>h)
 have f16:=f13.trans1 f6
 have ew:IntKind.wrap .i64 (1048576 - (((nowI x).length:Nat):Int))=1048576 - ((nowI x).length:Int):=i64_id (by omega) (by omega)
 have keep:∀ k:Int,appI x b=(x,k)->∀ v,Fr (fun j=>j=b3) w6 v->Fr (fun _=>False) w v/\∃ cs',Value.tuple #[ofL cs,.int .i64 k]=.tuple #[ofL cs',.int .i64 (appI x b).2]/\InoAt v cs' (appI x b).1:=by
  intro k hk v fv
  have f:=f16.trans fv (U:=fun _=>False) (fun _ _ h=>h) (fun j hj h=>lt3 j hj h)
  exact ⟨f,cs,by rw [hk],by rw [hk]; exact h.fr0 f⟩
 refine ⟨_,_,_,rfl,?_⟩
 rw [ew]
 refine vIf_mk (fun hbig=>⟨cs,hone.1,rec_all r1,ans_mk r3 rfl hone.1 hone.2 (fun v fv=>keep 18 ?_ v fv)⟩) (fun hbig=>vIf_mk (fun h0=>⟨cs,hone.1,rec_all r1,ans_mk r3 rfl hone.1 hone.2 (fun v fv=>keep 0 ?_ v fv)⟩) (fun h0=>?_))
 ·have hbig:=of_decide_eq_true hbig
  unfold appI
  rw [if_pos (by omega)]
 ·have hbig:=of_decide_eq_false hbig
  have h0:(n:Int)=0:=by simpa using h0
  have hb0:b=[]:=List.length_eq_zero_iff.1 (by omega)
  unfold appI
  rw [if_neg (by omega),if_pos hb0]
 ·have hbig:=of_decide_eq_false hbig
  have h0:¬ (n:Int)=0:=by simpa using h0
  have hb0:b ≠ []:=fun e=>by rw [e] at hbl; simp at hbl; omega
  have eA:appI x b=(⟨x.b,x.p ++ [⟨false,((nowI x).length:Int),b⟩]⟩,0):=by
   unfold appI
   rw [if_neg (by omega),if_neg hb0]
  have fd:Fr (fun _=>False) w6 w6.drew:=Fr.drew _ _
  have r1:=r1.fr fd (fun h=>h)
  have r3:=r3.fr fd (fun h=>h)
  have f1d:=f16.trans1 fd
  generalize w6.drew=w7 at fd r1 r3 f1d ⊢
  refine ⟨cs,hone.1,rec_all r1,(clone_by A n c b w7 (f1d.sl hA (fun _ _ _ h=>h)) hn).mono ?_⟩
  rintro e w18 ⟨f8,A20,c22,rfl,h20⟩
  have f18:=f1d.trans1 f8
  refine ⟨_,_,_,rfl,kp_mk f8 r1.lt (fun h=>h) (gd_mk rfl (rec_new (fun b23 w24 f9 hb23 r23=>kp_mk (f8.trans1 f9) r1.lt (fun h=>h) ?_)))⟩
  have f19:=f18.trans1 f9
  have r3:=(r3.fr f8 (fun h=>h)).fr f9 (fun h=>h)
  have h20':=f9.row h20 (fun _ _ h=>h)
  have hW:Sl w24 3 (some ⟨b23,0,none⟩) 1 [.bool false,.int .i64 ((nowI x).length:Int),.slice A20 n c22]:=⟨rfl,fun _=>⟨b23,0,rfl,rec_all r23⟩⟩
  have hWP:WrP w24 [.bool false,.int .i64 ((nowI x).length:Int),.slice A20 n c22] ⟨false,((nowI x).length:Int),b⟩:=⟨A20,n,c22,rfl,h20'.sl,h20.le,h.ok.own f19.size (fun j hj=>Nat.le_trans f1d.size (h20'.blt hj).1)⟩
  refine (with_calls cs x _ 1 _ _ w24 (h.fr0 f19) hW hWP (by omega)).mono ?_
  rintro e w25 ⟨f10,cs',rfl,hI⟩
  have hI1:=ino_one hI
  have r3:=r3.fr f10 (fun h=>h)
  refine ⟨_,rfl,ans_mk r3 rfl hI1.1 hI1.2 (fun v fv=>?_)⟩
  have f:=(f19.trans1 f10).trans fv (U:=fun _=>False) (fun _ _ h=>h) (fun j hj h=>lt3 j hj h)
  refine ⟨f,cs',by rw [eA],?_⟩
  rw [eA]
  refine hI.fr fv (fun j hj=>?_)
  have hj:j=b3:=hj
  subst hj
  have hc3:∀ o,cellAt w25 j o=([Value.slice none 0 0,Value.slice none 0 0]:List Value)[o]?:=fun o=>by rw [cellAt_blk r3]; simp
  refine fun _=>⟨fun o s hs=>?_,fun o u hu=>?_,fun o t z A n c ht=>?_⟩
  ·rw [hc3] at hs
   match o,hs with
   | 0,hs=>cases hs
   | 1,hs=>cases hs
   | o+2,hs=>cases hs
  ·rw [hc3] at hu
   match o,hu with
   | 0,hu=>cases hu
   | 1,hu=>cases hu
   | o+2,hu=>cases hu
  ·have ht:=ht.1
   rw [hc3] at ht
   match o,ht with
   | 0,ht=>cases ht
   | 1,ht=>cases ht
   | o+2,ht=>cases ht
theorem two_alien [Ow] {w:World} {b:Nat} {e:TypeId} (r:RecAt w b e [Value.slice none 0 0,Value.slice none 0 0]):Alien w b:=by
 have hc3:∀ o,cellAt w b o=([Value.slice none 0 0,Value.slice none 0 0]:List Value)[o]?:=fun o=>by rw [cellAt_blk r]; simp
 refine fun _=>⟨fun o s hs=>?_,fun o u hu=>?_,fun o t z A n c ht=>?_⟩
 ·rw [hc3] at hs
  match o,hs with
  | 0,hs=>cases hs
  | 1,hs=>cases hs
  | o+2,hs=>cases hs
 ·rw [hc3] at hu
  match o,hu with
  | 0,hu=>cases hu
  | 1,hu=>cases hu
  | o+2,hu=>cases hu
 ·have ht:=ht.1
  rw [hc3] at ht
  match o,ht with
  | 0,ht=>cases ht
  | 1,ht=>cases ht
  | o+2,ht=>cases ht
theorem lastN_id {l:List Nm} (h:AscN l):lastN l=l:=ascN_ext (lastN_asc l) h (fun s=>lastN_find s l)
theorem cnt_nat (i:Nat) (P:List Ch):cnt (i:Nat) P=min i P.length:=by
 unfold cnt
 rw [if_neg (by omega),Int.toNat_natCast]
theorem behF_at (F:Fo) (i:Nat) (h:i<=F.P.length):behF F (i:Nat)=behN F.L (F.P.take i):=by
 unfold behF
 rw [cnt_nat,Nat.min_eq_left h]
theorem nowF_at (F:Fo):nowF F=behN F.L F.P:=by
 unfold nowF
 rw [behF_at F _ (Nat.le_refl _),List.take_length]
theorem behF_any (F:Fo) (n:Int):∃ i:Nat,i<=F.P.length/\behF F n=behF F (i:Nat):=by
 refine ⟨cnt n F.P,cnt_le _ _,?_⟩
 rw [behF_at F _ (cnt_le _ _)]; rfl
theorem behF_one (L:List Nm) (n:Int):behF ⟨L,[]⟩ n=lastN L:=by
 unfold behF behN
 simp
theorem idsU_iff (F:Fo) (id:Int):∀ n,id ∈ idsU F n ↔ ∃ i,i < n/\∃ nm,(nm,id) ∈ behF F (i:Nat)
 | 0=>by simp [idsU]
 | n+1=>by
  rw [idsU,List.mem_append,idsU_iff F id n,List.mem_map]
  constructor
  ·rintro (⟨i,hi,h⟩ | ⟨⟨nm,j⟩,hx,rfl⟩)
   ·exact ⟨i,by omega,h⟩
   ·exact ⟨n,by omega,nm,hx⟩
  ·rintro ⟨i,hi,nm,h⟩
   by_cases hin:i=n
   ·subst hin
    exact .inr ⟨(nm,id),h,rfl⟩
   ·exact .inl ⟨i,by omega,nm,h⟩
theorem ids_iff {F:Fo} {id:Int}:id ∈ idsF F ↔ ∃ i:Nat,i<=F.P.length/\∃ nm,(nm,id) ∈ behF F (i:Nat):=by
 unfold idsF
 rw [norm_mem,idsU_iff]
 exact ⟨fun ⟨i,h,h'⟩=>⟨i,by omega,h'⟩,fun ⟨i,h,h'⟩=>⟨i,by omega,h'⟩⟩
theorem ids_asc (F:Fo):AscI (idsF F):=norm_asc _
theorem now_ids {F:Fo} {nm:ByteArray} {id:Int} (h:(nm,id) ∈ nowF F):id ∈ idsF F:=ids_iff.2 ⟨F.P.length,Nat.le_refl _,nm,h⟩
theorem find_ids {F:Fo} {s:ByteArray} {id:Int} (h:findN s (nowF F)=some id):id ∈ idsF F:=now_ids (findN_mem h)
theorem ids_one {L:List Nm} {id:Int}:id ∈ idsF ⟨L,[]⟩ ↔ ∃ nm,(nm,id) ∈ lastN L:=by
 rw [ids_iff]
 constructor
 ·rintro ⟨i,_,nm,h⟩
  rw [behF_one] at h
  exact ⟨nm,h⟩
 ·rintro ⟨nm,h⟩
  exact ⟨0,by simp,nm,by rw [behF_one]; exact h⟩
theorem ids_snoc {L:List Nm} {P:List Ch} {c:Ch} {id:Int}:id ∈ idsF ⟨L,P ++ [c]⟩ ↔ id ∈ idsF ⟨L,P⟩\/∃ nm,(nm,id) ∈ stepN (nowF ⟨L,P⟩) c:=by
 rw [ids_iff,ids_iff]
 constructor
 ·rintro ⟨i,hi,nm,h⟩
  rw [behF_at _ _ hi] at h
  by_cases hi2:i<=P.length
  ·left
   refine ⟨i,hi2,nm,?_⟩
   rw [behF_at _ _ hi2]
   rw [show (⟨L,P ++ [c]⟩:Fo).P=P ++ [c] from rfl,List.take_append_of_le_length hi2] at h
   exact h
  ·right
   refine ⟨nm,?_⟩
   have:i=P.length+1:=by
    have h':i<=(P ++ [c]).length:=hi
    rw [List.length_append,List.length_singleton] at h'; omega
   subst this
   rw [nowF_at]
   rw [show (⟨L,P ++ [c]⟩:Fo).P=P ++ [c] from rfl,List.take_of_length_le (by simp),behN_snoc] at h
   exact h
 ·rintro (⟨i,hi,nm,h⟩ | ⟨nm,h⟩)
  ·have hi:i<=P.length:=hi
   refine ⟨i,by show i<=(P ++ [c]).length; rw [List.length_append]; omega,nm,?_⟩
   rw [behF_at _ _ (by show i<=(P ++ [c]).length; rw [List.length_append]; omega)]
   rw [behF_at _ _ hi] at h
   rw [show (⟨L,P ++ [c]⟩:Fo).P=P ++ [c] from rfl,List.take_append_of_le_length hi]
   exact h
  ·refine ⟨P.length+1,by show P.length+1<=(P ++ [c]).length; simp,nm,?_⟩
   rw [behF_at _ _ (by show P.length+1<=(P ++ [c]).length; simp),show (⟨L,P ++ [c]⟩:Fo).P=P ++ [c] from rfl,List.take_of_length_le (by simp),behN_snoc]
   rw [nowF_at] at h
   exact h
theorem woN_mem {s:ByteArray} {l:List Nm} {x:Nm} (h:x ∈ woN s l):x ∈ l/\x.1 ≠ s:=by
 unfold woN at h
 simpa using List.mem_filter.1 h
theorem stepN_mem {l:List Nm} {c:Ch} {x:Nm} (h:x ∈ stepN l c):(c.k=1/\x=(c.nm,c.id))\/x ∈ l\/(c.k=2/\x.1=c.to/\(c.nm,x.2) ∈ l):=by
 unfold stepN at h
 split at h
 ·rename_i hk
  rcases putN_mem h with h | h
  ·exact .inl ⟨hk,h⟩
  ·exact .inr (.inl h)
 ·split at h
  ·rename_i hk
   split at h
   ·rename_i id hf
    rcases putN_mem h with h | h
    ·subst h
     exact .inr (.inr ⟨hk,rfl,findN_mem hf⟩)
    ·exact .inr (.inl (woN_mem h).1)
   ·exact .inr (.inl h)
  ·split at h
   ·exact .inr (.inl (woN_mem h).1)
   ·exact .inr (.inl h)
theorem ids_do {F:Fo} {c:Ch} {id:Int} (h:id ∈ idsF (doF F c)):id ∈ idsF F\/(c.k=1/\id=c.id/\wrongF F c=0):=by
 unfold doF at h
 split at h
 ·rename_i hw
  rcases ids_snoc.1 h with h | ⟨nm,h⟩
  ·exact .inl h
  ·rcases stepN_mem h with ⟨hk,h⟩ | h | ⟨_,_,h⟩
   ·exact .inr ⟨hk,(Prod.ext_iff.1 h).2,hw⟩
   ·exact .inl (now_ids h)
   ·exact .inl (now_ids h)
 ·exact .inl h
theorem ch_I {d:Dk} (h:DkI d) {c:Ch} (hk:c.k ≠ 1):DkI (chD d c).1:=by
 refine ⟨fun id hid=>trim_out hid,fun id hid=>?_,trim_B h.ino,h.fu⟩
 rcases ids_do hid with h' | ⟨h',_⟩
 ·exact h.rng id h'
 ·exact absurd h' hk
theorem ch_same {d:Dk} (h:DkI d) {c:Ch} (hw:wrongF d.F c ≠ 0):(chD d c).1=d:=by
 have e:doF d.F c=d.F:=if_neg hw
 have e2:trim d.F d.f=d.f:=by
  funext id
  unfold trim
  split
  ·rfl
  ·rename_i hid; exact (h.out id hid).symm
 unfold chD
 simp only [e,e2]
theorem cr_I {d:Dk} (h:DkI d) (s:ByteArray) (hl:0<=d.last):DkI (crD d s).1/\0<=(crD d s).1.last:=by
 unfold crD
 split
 ·exact ⟨h,hl⟩
 ·split
  ·rename_i hw
   refine ⟨⟨fun id hid=>trim_out hid,fun id hid=>?_,trim_B h.ino,h.fu⟩,by show 0<=d.last+1; omega⟩
   show 1<=id/\id<=d.last+1
   rcases ids_do hid with h' | ⟨_,h',_⟩
   ·have:=h.rng id h'; omega
   ·have h':id=d.last+1:=h'
    omega
  ·rename_i hw
   rw [ch_same h hw]
   exact ⟨h,hl⟩
theorem file_I {d:Dk} (h:DkI d) (s:ByteArray) {g:Ino->Ino×Int} (hg:∀ x,InoB x->InoB (g x).1):DkI (fileD d s g).1/\(fileD d s g).1.last=d.last:=by
 unfold fileD
 split
 ·exact ⟨h,rfl⟩
 ·rename_i id hf
  split
  ·exact ⟨h,rfl⟩
  ·split
   ·exact ⟨h,rfl⟩
   ·refine ⟨⟨fun k hk=>?_,h.rng,updF_B h.ino (hg _ (h.ino id)),h.fu⟩,rfl⟩
    have hne:k ≠ id:=fun e=>hk (show k ∈ idsF d.F by rw [e]; exact find_ids hf)
    show updF d.f id _ k=zI
    unfold updF
    rw [if_neg hne]
    exact h.out k hk
theorem sd_I {d:Dk} (h:DkI d):DkI (sdD d).1:=by
 refine ⟨fun id hid=>trim_out hid,fun id hid=>?_,trim_B h.ino,h.fu⟩
 obtain ⟨nm,h'⟩:=ids_one.1 hid
 rw [lastN_id (nowF_asc _)] at h'
 exact h.rng id (now_ids h')
theorem beh_ids {F:Fo} {n:Int} {nm:ByteArray} {id:Int} (h:(nm,id) ∈ behF F n):id ∈ idsF F:=by
 obtain ⟨i,hi,e⟩:=behF_any F n
 exact ids_iff.2 ⟨i,hi,nm,e ▸ h⟩
theorem crash_ids {F:Fo} {n:Int} {id:Int} (h:id ∈ idsF ⟨behF F n,[]⟩):id ∈ idsF F:=by
 obtain ⟨nm,h'⟩:=ids_one.1 h
 rw [lastN_id (behF_asc _ _)] at h'
 exact beh_ids h'
theorem crash_I {d:Dk} (h:DkI d) (c:Bs):DkI (crashD d c):=by
 refine ⟨fun id hid=>trim_out hid,fun id hid=>h.rng id (crash_ids hid),trim_B (crashS_B _ _ _ h.ino),fun n hn=>by cases hn⟩
theorem pow_I {d:Dk} (h:DkI d) {call:Dk->Dk×Int} (hc:∀ d',DkI d'->d'.last=d.last->DkI (call d').1/\0<=(call d').1.last) (hl:0<=d.last):DkI (powD d call).1/\0<=(powD d call).1.last:=by
 unfold powD
 split
 ·exact ⟨⟨h.out,h.rng,h.ino,h.fu⟩,hl⟩
 ·rename_i ho
  refine hc _ ⟨h.out,h.rng,h.ino,fun n hn=>?_⟩ rfl
  cases hfu:d.fu with
  | none=>rw [hfu] at hn; cases hn
  | some m =>
   rw [hfu] at hn
   simp only [Option.map_some,Option.some.injEq] at hn
   unfold offD at ho
   rw [hfu] at ho
   simp at ho
   omega
theorem do_I {d:Dk} (h:DkI d) (hl:0<=d.last) (c:Cl):DkI (doD d c).1/\0<=(doD d c).1.last:=by
 unfold doD
 split
 ·exact pow_I h (fun d' h' e=>cr_I h' _ (by omega)) hl
 split
 ·exact pow_I h (fun d' h' e=>by obtain ⟨a,b⟩:=file_I h' c.nm (g:=fun x=>appI x c.data) (fun x hx=>appI_B hx _); exact ⟨a,by rw [b]; omega⟩) hl
 split
 ·exact pow_I h (fun d' h' e=>by obtain ⟨a,b⟩:=file_I h' c.nm (g:=fun x=>cutI x c.n) (fun x hx=>cutI_B hx _); exact ⟨a,by rw [b]; omega⟩) hl
 split
 ·exact pow_I h (fun d' h' e=>by obtain ⟨a,b⟩:=file_I h' c.nm (g:=fun x=>(syncI x,0)) (fun x hx=>syncI_B hx); exact ⟨a,by rw [b]; omega⟩) hl
 split
 ·exact pow_I h (fun d' h' e=>⟨ch_I h' (by show (2:Int) ≠ 1; omega),by show 0<=d'.last; omega⟩) hl
 split
 ·exact pow_I h (fun d' h' e=>⟨ch_I h' (by show (3:Int) ≠ 1; omega),by show 0<=d'.last; omega⟩) hl
 split
 ·exact pow_I h (fun d' h' e=>⟨sd_I h',by show 0<=d'.last; omega⟩) hl
 split
 ·refine ⟨⟨h.out,h.rng,h.ino,fun n hn=>?_⟩,hl⟩
  have hn:(if c.n >= 0 then some c.n else none)=some n:=hn
  split at hn
  ·injection hn with hn; omega
  ·cases hn
 split
 ·exact ⟨crash_I h c.data,hl⟩
 ·exact ⟨h,hl⟩
def newD (lb lf:Int):Dk:=⟨lb,lf,⟨[],[]⟩,fun _=>zI,0,false,none,0⟩
theorem new_I (lb lf:Int):DkI (newD lb lf):=by
 refine ⟨fun _ _=>rfl,fun id hid=>?_,fun _=>zI_B,fun n hn=>by cases hn⟩
 obtain ⟨nm,h⟩:=ids_one.1 hid
 cases h
abbrev ZI:List Value:=[.slice none 0 0,.slice none 0 0]
theorem zI_at [Ow] {w:World} (h:OkA w none 0):InoAt w ZI zI:=⟨none,0,0,none,0,0,rfl,Sl.nil _ _ _,Nat.le_refl _,⟨[],Sl.nil _ _ _,rfl,Ech.nil⟩,Nat.le_refl _,h,h⟩
def FilesAt [Ow] (w:World) (r:Nat) (f:Int->Ino):Prop:=∃ g,MapI w r g/\∀ id,∃ cs,(g id).getD (ofL ZI)=ofL cs/\InoAt w cs (f id)
theorem FilesAt.fr [Ow] {S:Nat->Prop} {w w':World} {r:Nat} {f:Int->Ino} (h:FilesAt w r f) (g:Fr S w w') (hr:¬ S r) (hS:∀ k,S k->Alien w k):FilesAt w' r f:=by
 obtain ⟨m,h1,h2⟩:=h
 refine ⟨m,h1.fr g hr,fun id=>?_⟩
 obtain ⟨cs,e,hx⟩:=h2 id
 exact ⟨cs,e,hx.fr g hS⟩
theorem FilesAt.lt [Ow] {w:World} {r:Nat} {f:Int->Ino} (h:FilesAt w r f):r < w.heap.size:=by
 obtain ⟨m,h1,_⟩:=h
 exact h1.lt
theorem FilesAt.ok [Ow] {w:World} {r:Nat} {f:Int->Ino} (h:FilesAt w r f):OkA w none 0:=by
 obtain ⟨m,_,h2⟩:=h
 obtain ⟨cs,_,hx⟩:=h2 0
 exact hx.ok
theorem FilesAt.alien0 [Ow] {w:World} {r:Nat} {f:Int->Ino} (h:FilesAt w r f):Alien0 w r:=by
 obtain ⟨m,h1,_⟩:=h
 exact map_alien0 h1
theorem FilesAt.alien [Ow] {w:World} {r:Nat} {f:Int->Ino} (h:FilesAt w r f):Alien w r:=by
 obtain ⟨m,h1,_⟩:=h
 exact map_alien h1
theorem files_get [Ow] {w:World} {r:Nat} {f:Int->Ino} (h:FilesAt w r f) {id:Int} {K:List Value->Prop} (hK:∀ cs,InoAt w cs (f id)->K cs):drM (some r) fun r=>mlk w r .i64 id fun q=>lvA ZI q K:=by
 obtain ⟨m,h1,h2⟩:=h
 obtain ⟨cs,e,hx⟩:=h2 id
 exact drM_mk (mlk_mk h1 ⟨cs,e,hK cs hx⟩)
theorem files_put [Ow] {w:World} {r:Nat} {f:Int->Ino} (h:FilesAt w r f) {id:Int} {cs:List Value} {x:Ino} (hx:InoAt w cs x) {K:World->Prop} (hK:∀ w',FilesAt w' r (updF f id x)->Fr (fun k=>k=r) w w'->K w'):drM (some r) fun r=>mup w r .i64 id (ofL cs) K:=by
 have ha:=h.alien
 obtain ⟨m,h1,h2⟩:=h
 refine drM_mk (mup_mk h1 (fun w' g1 g2 _=>hK w' ⟨_,g1,fun k=>?_⟩ g2))
 unfold updI updF
 by_cases hk:k=id
 ·rw [if_pos hk,if_pos hk]
  exact ⟨cs,rfl,hx.fr g2 (fun j hj=>by have hj:j=r:=hj; rw [hj]; exact ha)⟩
 ·rw [if_neg hk,if_neg hk]
  obtain ⟨cs',e,hx'⟩:=h2 k
  exact ⟨cs',e,hx'.fr g2 (fun j hj=>by have hj:j=r:=hj; rw [hj]; exact ha)⟩
theorem files_del [Ow] {w:World} {r:Nat} {f:Int->Ino} (h:FilesAt w r f) {id:Int} {K:World->Prop} (hK:∀ w',FilesAt w' r (updF f id zI)->Fr (fun k=>k=r) w w'->K w'):drM (some r) fun r=>mdl w r .i64 id K:=by
 have ha:=h.alien
 obtain ⟨m,h1,h2⟩:=h
 refine drM_mk (mdl_mk h1 (fun w' g1 g2 _=>hK w' ⟨_,g1,fun k=>?_⟩ g2))
 unfold updI updF
 by_cases hk:k=id
 ·rw [if_pos hk,if_pos hk]
  obtain ⟨cs',_,hx'⟩:=h2 k
  exact ⟨ZI,rfl,zI_at (hx'.ok.fr g2)⟩
 ·rw [if_neg hk,if_neg hk]
  obtain ⟨cs',e,hx'⟩:=h2 k
  exact ⟨cs',e,hx'.fr g2 (fun j hj=>by have hj:j=r:=hj; rw [hj]; exact ha)⟩
def dkC (d:Dk) (u v:Value) (r:Nat) (fz:Bool) (lv:Int):List Value:=[.int .i64 d.lb,.int .i64 d.lf,u,v,.map (some r),.int .i64 d.last,.bool d.down,.bool fz,.int .i64 lv,.int .i64 d.calls]
def fuR (o:Option Int) (fz:Bool) (lv:Int):Prop:=match o with | none=>fz=false | some n=>fz=true/\lv=n
def DkAt [Ow] (w:World) (db r:Nat) (d:Dk):Prop:=∃ u v fz lv,RecAt w db 83 (dkC d u v r fz lv)/\FoAt w [u,v] d.F/\FilesAt w r d.f/\fuR d.fu fz lv
theorem dk_alien0 [Ow] {w:World} {db:Nat} {d:Dk} {u v:Value} {r:Nat} {fz:Bool} {lv:Int} (h:RecAt w db 83 (dkC d u v r fz lv)) (hf:FoAt w [u,v] d.F):Alien0 w db:=by
 obtain ⟨A,n,c,A',n',c',e,_⟩:=hf
 injection e with e1 e
 injection e with e2 e
 subst e1; subst e2
 have hc:∀ o,cellAt w db o=(dkC d (.slice A n c) (.slice A' n' c') r fz lv)[o]?:=fun o=>by rw [cellAt_blk h]; simp
 refine ⟨fun o s hs=>?_,fun o x hx=>?_,fun o t z A1 n1 c1 ht=>?_⟩
 ·rw [hc] at hs
  match o,hs with
  | 0,hs=>cases hs
  | 1,hs=>cases hs
  | 2,hs=>cases hs
  | 3,hs=>cases hs
  | 4,hs=>cases hs
  | 5,hs=>cases hs
  | 6,hs=>cases hs
  | 7,hs=>cases hs
  | 8,hs=>cases hs
  | 9,hs=>cases hs
  | o+10,hs=>cases hs
 ·rw [hc] at hx
  match o,hx with
  | 0,hx=>cases hx
  | 1,hx=>cases hx
  | 2,hx=>cases hx
  | 3,hx=>cases hx
  | 4,hx=>cases hx
  | 5,hx=>cases hx
  | 6,hx=>cases hx
  | 7,hx=>cases hx
  | 8,hx=>cases hx
  | 9,hx=>cases hx
  | o+10,hx=>cases hx
 ·obtain ⟨h0,h1,h2⟩:=ht
  rw [hc] at h0 h1 h2
  match o,h0,h1,h2 with
  | 0,h0,h1,h2=>cases h0
  | 1,h0,h1,h2=>cases h0
  | 2,h0,h1,h2=>cases h0
  | 3,h0,h1,h2=>cases h0
  | 4,h0,h1,h2=>cases h0
  | 5,h0,h1,h2=>cases h0
  | 6,h0,h1,h2=>cases h1
  | 7,h0,h1,h2=>cases h2
  | 8,h0,h1,h2=>cases h0
  | 9,h0,h1,h2=>cases h0
  | o+10,h0,h1,h2=>cases h0
theorem dk_alien [Ow] {w:World} {db:Nat} {d:Dk} {u v:Value} {r:Nat} {fz:Bool} {lv:Int} (h:RecAt w db 83 (dkC d u v r fz lv)) (hf:FoAt w [u,v] d.F):Alien w db:=fun _=>dk_alien0 h hf
theorem DkAt.alien0 [Ow] {w:World} {db r:Nat} {d:Dk} (h:DkAt w db r d):Alien0 w db/\Alien0 w r:=by
 obtain ⟨u,v,fz,lv,h1,h2,h3,_⟩:=h
 exact ⟨dk_alien0 h1 h2,h3.alien0⟩
theorem DkAt.ne [Ow] {w:World} {db r:Nat} {d:Dk} (h:DkAt w db r d):db ≠ r:=by
 obtain ⟨u,v,fz,lv,h1,h2,⟨g,⟨m,c,h3,_⟩,_⟩,_⟩:=h
 intro e
 subst e
 have h3:w.heap[db]?=some (.map (m.map (mkE .i64)).toArray c):=h3
 have h1:w.heap[db]?=some _:=h1
 rw [h1] at h3
 cases h3
theorem DkAt.lt [Ow] {w:World} {db r:Nat} {d:Dk} (h:DkAt w db r d):db < w.heap.size/\r < w.heap.size:=by
 obtain ⟨u,v,fz,lv,h1,h2,h3,_⟩:=h
 exact ⟨h1.lt,h3.lt⟩
theorem DkAt.fr [Ow] {S:Nat->Prop} {w w':World} {db r:Nat} {d:Dk} (h:DkAt w db r d) (f:Fr S w w') (h1:¬ S db) (h2:¬ S r) (hS:∀ k,S k->Alien w k):DkAt w' db r d:=by
 obtain ⟨u,v,fz,lv,q1,q2,q3,q4⟩:=h
 exact ⟨u,v,fz,lv,q1.fr f h1,fo_fr q2 f hS,q3.fr f h2 hS,q4⟩
theorem DkAt.fr0 [Ow] {w w':World} {db r:Nat} {d:Dk} (h:DkAt w db r d) (f:Fr (fun _=>False) w w'):DkAt w' db r d:=h.fr f (fun h=>h) (fun h=>h) (fun _ h=>h.elim)
def DS (db r:Nat):Nat->Prop:=fun k=>k=db\/k=r
theorem fr_up {S:Nat->Prop} {w w':World} (f:Fr (fun _=>False) w w'):Fr S w w':=f.mono (fun _ _ h=>h.elim)
theorem sl_map {w:World} {r:Nat} {g:Int->Option Value} (h:MapI w r g) {sz:Nat} {A:Option Addr} {n:Nat} {vs:List Value} (hs:Sl w sz A n vs) (hz:sz ≠ 0) (h0:n ≠ 0) {k:Nat} (hk:blkOf A=some k):k ≠ r:=by
 obtain ⟨m,c,h,_⟩:=h
 have h:w.heap[r]?=some (.map (m.map (mkE .i64)).toArray c):=h
 obtain ⟨b,o,rfl,hc⟩:=hs.2 h0
 injection hk with hk
 have hk:b=k:=hk
 subst hk
 intro e
 subst e
 have hl:=hs.1
 have hlp:0 < vs.length:=by rw [hl]; exact Nat.mul_pos (by omega) (by omega)
 have:=hc 0 _ (List.getElem?_eq_getElem hlp)
 unfold cellAt World.cell? at this
 simp only [h] at this
 cases this
theorem sl_fr_map [Ow] {w w':World} {r:Nat} {f:Int->Ino} (h:FilesAt w r f) (g:Fr (fun k=>k=r) w w') {sz:Nat} {A:Option Addr} {n:Nat} {vs:List Value} (hs:Sl w sz A n vs) (hz:sz ≠ 0):Sl w' sz A n vs:=by
 obtain ⟨m,h1,_⟩:=h
 exact g.sl hs (fun h0 k hk e=>sl_map h1 hs hz h0 hk e)
theorem asc_get {l:List Int} (h:AscI l) {i j:Nat} {x y:Int} (hi:l[i]?=some x) (hj:l[j]?=some y) (hij:i < j):x < y:=by
 obtain ⟨h1,rfl⟩:=List.getElem?_eq_some_iff.1 hi
 obtain ⟨h2,rfl⟩:=List.getElem?_eq_some_iff.1 hj
 exact (List.pairwise_iff_getElem.1 h) i j h1 h2 hij
def forg (K W:List Int) (f:Int->Ino):Int->Ino:=fun id=>if id ∈ W/\id ∉ K then zI else f id
theorem forg_trim {F:Fo} {W:List Int} {f:Int->Ino} (h:∀ id,id ∉ W->f id=zI):forg (idsF F) W f=trim F f:=by
 funext id
 unfold forg trim
 by_cases h1:id ∈ idsF F
 ·rw [if_neg (fun h=>h.2 h1),if_pos h1]
 ·rw [if_neg h1]
  by_cases h2:id ∈ W
  ·rw [if_pos ⟨h2,h1⟩]
  ·rw [if_neg (fun h=>h2 h.1),h id h2]
set_option maxHeartbeats 2000000 in
theorem keep_calls [Ow] (db r:Nat) (d:Dk) (A:Option Addr) (n c:Nat) (W:List Int) (w:World) (h:DkAt w db r d) (hb:FoB d.F) (hW:Sl w 1 A n (ivs W)) (ha:AscI W) (hn:n<=549755813888) :
  Calls Tryz.prog 119 #[.pointer (some ⟨db,0,none⟩),.slice A n c] w fun e w'=>Fr (fun k=>k=r) w w'/\e=.returned (.tuple #[])/\DkAt w' db r { d with f:=forg (idsF d.F) W d.f }:=by
 refine (F119.of (some ⟨db,0,none⟩) A n c w (Q:=fun v w'=>Fr (fun k=>k=r) w w'/\v=.tuple #[]/\DkAt w' db r { d with f:=forg (idsF d.F) W d.f }) ?_).mono (fun e w' ⟨v,he,hf,hv,h⟩=>⟨hf,by rw [he,hv],h⟩)
 have hlt:=h.lt
 have hne:=h.ne
 obtain ⟨u,v,fz,lv,h1,h2,h3,h4⟩:=h
 have hWl:=sl_n hW
 refine dr_mk ⟨[u,v],rfl,h1.cells (fun j x hj=>?_),(ids_calls [u,v] d.F w h2 hb).mono ?_⟩
 ·match j,hj with
  | 0,hj=>exact hj
  | 1,hj=>exact hj
  | j+2,hj=>cases hj
 rintro e w4 ⟨f4,A6,c8,rfl,r6⟩
 have hKa:=ids_asc d.F
 have hKl:(idsF d.F).length<=349526 * 349525:=by
  have hb':d.F.L.length+d.F.P.length<=349525:=hb
  have a1:=norm_len' (idsU d.F (d.F.P.length+1))
  have a2:=idsU_len hb (d.F.P.length+1)
  have a3:(d.F.P.length+1) * 349525<=349526 * 349525:=Nat.mul_le_mul_right _ (by omega)
  unfold idsF
  omega
 have hs6:=r6.sl
 generalize hK:idsF d.F=K at hKa hKl r6 hs6 ⊢
 have h1:=h1.fr f4 (fun h=>h)
 have h2:=h2.fr0 f4
 have h3:=h3.fr f4 (fun h=>h) (fun _ h=>h.elim)
 have hW4:=f4.sl hW (fun _ _ _ h=>h)
 have hs4:=f4.size
 refine ⟨A6,_,c8,rfl,jnC_mk (loop_rule (fun s x=>Fr (fun k=>k=r) w x/\Fr (fun k=>k=r) w4 x/\∃ (i k:Nat),i<=n/\k<=K.length/\s=(some ⟨db,0,none⟩,(A6,K.length,c8),(k:Int),(A,n,c),(n:Int),(i:Int),())/\FilesAt x r (forg K (W.take i) d.f)/\∀ a ∈ K.take k,∀ b ∈ W.drop i,a < b)
  (fun s _=>(n - s.2.2.2.2.2.1).toNat) ?_ _ _ ⟨fr_up f4,Fr.refl _ _,0,0,by omega,by omega,rfl,?_,fun a ha=>by simp at ha⟩)⟩
 ·rintro s x C ⟨hf,hf4,i,k,hi,hk,rfl,hFi,hlo⟩ hC _
  have h1x:=h1.fr hf4 (fun h=>hne h)
  have hWx:Sl x 1 A n (ivs W):=sl_fr_map h3 hf4 hW4 (by omega)
  have hKx:Sl x 1 A6 K.length (ivs K):=sl_fr_map h3 hf4 hs6 (by omega)
  refine vIf_mk (fun hlt2=>?_) (fun hge=>?_)
  ·have hlt2:(i:Int) < (n:Int):=of_decide_eq_true hlt2
   have gi:W[i]?=some (W[i]'(by omega)):=List.getElem?_eq_getElem (by omega)
   generalize W[i]'(by omega)=id at gi
   have hdi:W.drop i=id :: W.drop (i+1):=drop_at gi
   have ms:((n:Int) - IntKind.wrap .i64 ((i:Int)+1)).toNat < ((n:Int) - (i:Int)).toNat:=by rw [ei i (by omega)]; omega
   have eT:W.take (i+1)=W.take i ++ [id]:=by rw [List.take_add_one,gi]; rfl
   refine sl_rd hWx (by omega) gi (jnC_mk (loop_rule (fun s y=>y=x/\∃ (k:Nat),k<=K.length/\s=(some ⟨db,0,none⟩,(A6,K.length,c8),(k:Int),id,(A,n,c),(n:Int),(i:Int),())/\∀ a ∈ K.take k,a < id)
    (fun s _=>(K.length - s.2.2.1).toNat) ?_ _ _ ⟨rfl,k,hk,rfl,fun a ha=>hlo a ha id (by rw [hdi]; exact List.mem_cons_self ..)⟩))
   rintro s y C2 ⟨rfl,k,hk,rfl,hlo2⟩ hC2 _
   have k7:(k < K.length->∀ a,K[k]?=some a->¬ a < id)->jnC (F119.k7 (fun v w'=>Fr (fun k=>k=r) w w'/\v=.tuple #[]/\DkAt w' db r { d with f:=forg K W d.f }) C) (some ⟨db,0,none⟩,(A6,K.length,c8),(k:Int),id,(A,n,c),(n:Int),(i:Int),()) y:=by
    intro hst
    have hlo3:∀ a ∈ K.take k,∀ b ∈ W.drop (i+1),a < b:=fun a ha b hb=>by
     have h1:=hlo2 a ha
     obtain ⟨j,hj,hb⟩:=mem_drop_ge hb
     have h2:=asc_get ‹AscI W› gi hb (by omega)
     omega
    have hin:id ∈ K ↔ K[k]?=some id:=by
     constructor
     ·intro hm
      obtain ⟨j,hj⟩:=List.mem_iff_getElem?.1 hm
      have hjl:=(List.getElem?_eq_some_iff.1 hj).1
      have hjk:k<=j:=by
       by_cases hjk:j < k
       ·have:=hlo2 id (List.mem_iff_getElem?.2 ⟨j,by rw [List.getElem?_take,if_pos hjk]; exact hj⟩)
        omega
       ·omega
      by_cases hjk2:j=k
      ·rw [<- hjk2]; exact hj
      ·have gk:K[k]?=some (K[k]'(by omega)):=List.getElem?_eq_getElem (by omega)
       have h1:=hst (by omega) _ gk
       have h2:=asc_get hKa gk hj (by omega)
       omega
     ·intro h; exact List.mem_of_getElem? h
    have k8:∀ t:Bool,(t=true ↔ id ∉ K)->jnC (F119.k8 (fun v w'=>Fr (fun k=>k=r) w w'/\v=.tuple #[]/\DkAt w' db r { d with f:=forg K W d.f }) C) (some ⟨db,0,none⟩,(A6,K.length,c8),(k:Int),id,(A,n,c),(n:Int),(i:Int),t,()) y:=by
     intro t ht
     refine jnC_mk (fun _=>vIf_mk (fun htt=>?_) (fun htf=>?_))
     ·have hno:=ht.1 htt
      refine dr_mk ⟨some r,h1x.cell (o:=0+4) rfl,files_del hFi (fun w' hF' f'=>jnC_mk (hC _ _ ⟨hf.trans1 f',hf4.trans1 f',i+1,k,by omega,hk,by rw [ei i (by omega)],?_,hlo3⟩ ms))⟩
      have e2:updF (forg K (W.take i) d.f) id zI=forg K (W.take (i+1)) d.f:=by
       funext j
       unfold updF forg
       rw [eT]
       by_cases hj:j=id
       ·subst hj
        rw [if_pos rfl,if_pos ⟨by simp,hno⟩]
       ·rw [if_neg hj]
        have:(j ∈ W.take i ++ [id]/\j ∉ K) ↔ (j ∈ W.take i/\j ∉ K):=by simp [hj]
        simp only [this]
      rw [e2] at hF'
      exact hF'
     ·have hyes:id ∈ K:=by
       by_cases hm:id ∈ K
       ·exact hm
       ·have:=ht.2 hm
        have htf:t=false:=htf
        rw [htf] at this; cases this
      refine jnC_mk (hC _ _ ⟨hf,hf4,i+1,k,by omega,hk,by rw [ei i (by omega)],?_,hlo3⟩ ms)
      have e2:forg K (W.take (i+1)) d.f=forg K (W.take i) d.f:=by
       funext j
       unfold forg
       rw [eT]
       have:(j ∈ W.take i ++ [id]/\j ∉ K) ↔ (j ∈ W.take i/\j ∉ K):=by
        constructor
        ·rintro ⟨h1,h2⟩
         refine ⟨?_,h2⟩
         rcases List.mem_append.1 h1 with h1 | h1
         ·exact h1
         ·rw [List.mem_singleton.1 h1] at h2; exact absurd hyes h2
        ·rintro ⟨h1,h2⟩
         exact ⟨List.mem_append.2 (.inl h1),h2⟩
       simp only [this]
      rw [e2]; exact hFi
    refine jnC_mk (fun _=>vIf_mk (fun hkl=>k8 true ⟨fun _ hm=>?_,fun _=>rfl⟩) (fun hkl=>?_))
    ·have hkl:(k:Int)=(K.length:Int):=by simpa using hkl
     have:=hin.1 hm
     have:=(List.getElem?_eq_some_iff.1 this).1
     omega
    ·have hkl:¬ (k:Int)=(K.length:Int):=by simpa using hkl
     have gk:K[k]?=some (K[k]'(by omega)):=List.getElem?_eq_getElem (by omega)
     generalize K[k]'(by omega)=a at gk
     refine sl_rd hKx (by omega) gk (k8 _ ?_)
     rw [hin,gk]
     constructor
     ·intro ht e
      injection e with e
      subst e
      simp at ht
     ·intro hne2
      have:a ≠ id:=fun e=>hne2 (by rw [e])
      simpa using this
   refine vIf_mk (fun hkl=>?_) (fun hkl=>k7 (fun hk2=>?_))
   ·have hkl:(k:Int) < (K.length:Int):=of_decide_eq_true hkl
    have gk:K[k]?=some (K[k]'(by omega)):=List.getElem?_eq_getElem (by omega)
    generalize K[k]'(by omega)=a at gk
    refine sl_rd hKx (by omega) gk (vIf_mk (fun hal=>jnC_mk (hC2 _ _ ⟨rfl,k+1,by omega,by rw [ei k (by omega)],fun a' ha'=>?_⟩ ?_)) (fun hal=>k7 (fun _ a' ha'=>?_)))
    ·have hal:=of_decide_eq_true hal
     rw [List.take_add_one,gk] at ha'
     rcases List.mem_append.1 ha' with h | h
     ·exact hlo2 a' h
     ·have h:a'=a:=by simpa using h
      rw [h]; exact hal
    ·show ((K.length:Int) - IntKind.wrap .i64 ((k:Int)+1)).toNat < ((K.length:Int) - (k:Int)).toNat
     rw [ei k (by omega)]; omega
    ·have hal:=of_decide_eq_false hal
     rw [gk] at ha'
     injection ha' with ha'
     rw [<- ha']; exact hal
   ·have hkl:¬ (k:Int) < (K.length:Int):=of_decide_eq_false hkl
    omega
  ·have hge:¬ (i:Int) < (n:Int):=of_decide_eq_false hge
   have e:W.take i=W:=List.take_of_length_le (by omega)
   rw [e] at hFi
   have h2x:=fo_fr h2 hf4 (fun k hk=>by have hk:k=r:=hk; rw [hk]; exact h3.alien)
   exact ⟨hf,rfl,u,v,fz,lv,h1x,h2x,hFi,h4⟩
 ·have e:forg K (W.take 0) d.f=d.f:=by
   funext j
   unfold forg
   rw [if_neg (fun h=>by simp at h)]
  rw [e]; exact h3
structure DkB (d:Dk) (N:Nat):Prop where
 fo:d.F.L.length+d.F.P.length<=N
 p:∀ id,(d.f id).p.length<=N
 last:0<=d.last/\d.last<=N
 calls:0<=d.calls/\d.calls<=(N:Int) * 1000000+1000000
 fu:∀ n,d.fu=some n->n<=9223372036854775807
 lb:d.lb<=9223372036854775807
 lf:d.lf<=9223372036854775807
theorem ids_max {F:Fo} (hb:FoB F):(idsF F).length<=122168075150:=by
 have hb':F.L.length+F.P.length<=349525:=hb
 have a1:=norm_len' (idsU F (F.P.length+1))
 have a2:=idsU_len hb (F.P.length+1)
 have a3:(F.P.length+1) * 349525<=349526 * 349525:=Nat.mul_le_mul_right _ (by omega)
 unfold idsF
 omega
theorem fo_cells [Ow] {w:World} {cs:List Value} {F:Fo} (h:FoAt w cs F):∃ u v,cs=[u,v]/\u.oneCell'=true/\v.oneCell'=true:=by
 obtain ⟨A,n,c,A',n',c',e,_⟩:=h
 exact ⟨_,_,e,rfl,rfl⟩
theorem dk_set [Ow] {w:World} {db r:Nat} {d d':Dk} {u v:Value} {fz fz':Bool} {lv lv':Int} {o:Nat} {vs:List Value} {K:World->Prop} (h1:RecAt w db 83 (dkC d u v r fz lv)) (h2:FoAt w [u,v] d.F) (h3:FilesAt w r d.f)
  (e:splice (dkC d u v r fz lv) o vs=dkC d' u v r fz' lv') (hl:o+vs.length<=10) (ho:∀ v ∈ vs,v.oneCell'=true) (hF:d'.F=d.F) (hf:d'.f=d.f) (hne:db ≠ r)
  (hK:∀ w',Fr (fun k=>k=db) w w'->RecAt w' db 83 (dkC d' u v r fz' lv')->FoAt w' [u,v] d'.F->FilesAt w' r d'.f->K w'):st w db o vs K:=by
 have ha:=dk_alien h1 h2
 refine h1.st_mk hl ho (fun r2 f2=>hK _ f2 (by rw [e] at r2; exact r2) ?_ ?_)
 ·rw [hF]; exact fo_fr h2 f2 (fun k hk=>by have hk:k=db:=hk; rw [hk]; exact ha)
 ·rw [hf]; exact h3.fr f2 (fun h=>hne h.symm) (fun k hk=>by have hk:k=db:=hk; rw [hk]; exact ha)
theorem dk_setF [Ow] {w:World} {db r:Nat} {d:Dk} {F':Fo} {cs:List Value} {K:World->Prop} (h:DkAt w db r d) (hF:FoAt w cs F') (hK:∀ w',Fr (fun k=>k=db) w w'->DkAt w' db r { d with F:=F' }->K w'):gd (cs.length == 2) (st w db (0+2) cs K):=by
 have hne:=h.ne
 obtain ⟨u,v,fz,lv,h1,h2,h3,h4⟩:=h
 have ha:=dk_alien h1 h2
 obtain ⟨u',v',rfl,hu,hv⟩:=fo_cells hF
 refine gd_mk rfl (h1.st_mk (by show 0+2+2<=10; omega) (fun x hx=>?_) (fun r2 f2=>hK _ f2 ⟨u',v',fz,lv,r2,?_,?_,h4⟩))
 ·simp only [List.mem_cons,List.not_mem_nil,or_false] at hx
  rcases hx with rfl | rfl
  ·exact hu
  ·exact hv
 ·exact fo_fr hF f2 (fun k hk=>by have hk:k=db:=hk; rw [hk]; exact ha)
 ·exact h3.fr f2 (fun h=>hne h.symm) (fun k hk=>by have hk:k=db:=hk; rw [hk]; exact ha)
theorem dk_getF [Ow] {w:World} {db r:Nat} {d:Dk} (h:DkAt w db r d) {K:List Value->Prop} (hK:∀ cs,FoAt w cs d.F->K cs):ldA 2 w db (0+2) K:=by
 obtain ⟨u,v,fz,lv,h1,h2,h3,h4⟩:=h
 refine ⟨[u,v],rfl,h1.cells (fun j x hj=>?_),hK _ h2⟩
 match j,hj with
 | 0,hj=>exact hj
 | 1,hj=>exact hj
 | j+2,hj=>cases hj
theorem dk_getM [Ow] {w:World} {db r:Nat} {d:Dk} (h:DkAt w db r d) {K:Option Nat->Prop} (hK:K (some r)):ldM w db (0+4) K:=by
 obtain ⟨u,v,fz,lv,h1,h2,h3,h4⟩:=h
 exact ⟨some r,h1.cell rfl,hK⟩
theorem dk_getI [Ow] {w:World} {db r:Nat} {d:Dk} (h:DkAt w db r d) {o:Nat} {x:Int} (hx:(o=0/\x=d.lb)\/(o=1/\x=d.lf)\/(o=5/\x=d.last)\/(o=9/\x=d.calls)) {K:Int->Prop} (hK:K x):ldI .i64 w db (0+o) K:=by
 obtain ⟨u,v,fz,lv,h1,h2,h3,h4⟩:=h
 refine ⟨x,h1.cell ?_,hK⟩
 rw [Nat.zero_add]
 rcases hx with ⟨rfl,rfl⟩ | ⟨rfl,rfl⟩ | ⟨rfl,rfl⟩ | ⟨rfl,rfl⟩ <;> rfl
theorem sum_take {l:List Int} {i:Nat} {x:Int} (h:l[i]?=some x) (g:Int->Int):((l.take (i+1)).map g).sum=((l.take i).map g).sum+g x:=by
 rw [List.take_add_one,h]; simp
theorem sum_rng (g:Int->Int) (M:Int) (h:∀ x,0<=g x/\g x<=M):∀ l:List Int,0<=(l.map g).sum/\(l.map g).sum<=l.length * M
 | []=>by simp
 | x :: l=>by
  obtain ⟨a,b⟩:=sum_rng g M h l
  have:=h x
  simp only [List.map_cons,List.sum_cons,List.length_cons,Int.natCast_add,Int.add_mul]
  omega
set_option maxHeartbeats 1000000 in
theorem taken_calls [Ow] (db r:Nat) (d:Dk) (w:World) (h:DkAt w db r d) (hb:FoB d.F) (hi:∀ id,InoB (d.f id)) (hp:∀ id,(d.f id).p.length<=1099511627775) :
  Calls Tryz.prog 137 #[.pointer (some ⟨db,0,none⟩)] w fun e w'=>e=.returned (.int .i64 (takenF d.F d.f))/\Fr (fun _=>False) w w':=by
 refine (F137.of (some ⟨db,0,none⟩) w (Q:=fun v w'=>v=.int .i64 (takenF d.F d.f)/\Fr (fun _=>False) w w') ?_).mono (fun e w' ⟨v,he,hv,h⟩=>⟨by rw [he,hv],h⟩)
 refine dr_mk (dk_getF h (fun cs hF=>(ids_calls cs d.F w hF hb).mono ?_))
 rintro e w4 ⟨f4,A6,c8,rfl,r6⟩
 have hm:=ids_max hb
 have hs6:=r6.sl
 have hroom:∀ x,0<=roomI (d.f x)/\roomI (d.f x)<=1048576:=fun x=>by have:=room_le (hi x); omega
 unfold takenF
 generalize idsF d.F=K at hm r6 hs6 ⊢
 have h4:=h.fr0 f4
 refine ⟨A6,_,c8,rfl,jnC_mk (loop_rule (fun s x=>Fr (fun _=>False) w x/\Fr (fun _=>False) w4 x/\∃ (i:Nat),i<=K.length/\s=(some ⟨db,0,none⟩,((K.take i).map fun id=>roomI (d.f id)).sum,(A6,K.length,c8),(K.length:Int),(i:Int),()))
  (fun s _=>(K.length - s.2.2.2.2.1).toNat) ?_ _ _ ⟨f4,Fr.refl _ _,0,by omega,rfl⟩)⟩
 rintro s x C ⟨hf,hf4,i,hi2,rfl⟩ hC _
 refine vIf_mk (fun hlt=>?_) (fun hge=>?_)
 ·have hlt:(i:Int) < (K.length:Int):=of_decide_eq_true hlt
  have gi:K[i]?=some (K[i]'(by omega)):=List.getElem?_eq_getElem (by omega)
  generalize K[i]'(by omega)=id at gi
  have hx:=h4.fr0 hf4
  have hx0:=hx
  obtain ⟨u,v,fz,lv,h1,h2,h3,h4'⟩:=hx0
  refine sl_rd (hf4.sl hs6 (fun _ _ _ h=>h)) (by omega) gi (dr_mk (dk_getM hx (files_get h3 (fun cs hI=>(room_calls cs _ x hI (hi id) (hp id)).mono ?_))))
  rintro e w9 ⟨rfl,f9⟩
  have hsum:=sum_rng (fun id=>roomI (d.f id)) 1048576 hroom (K.take i)
  have hti:(K.take i).length=i:=by rw [List.length_take]; omega
  rw [hti] at hsum
  have hr:=hroom id
  have e1:IntKind.wrap .i64 (((K.take i).map fun id=>roomI (d.f id)).sum+roomI (d.f id))=((K.take (i+1)).map fun id=>roomI (d.f id)).sum:=by
   rw [sum_take gi (fun id=>roomI (d.f id))]
   exact i64_id (by omega) (by omega)
  refine ⟨_,rfl,jnC_mk (hC _ _ ⟨hf.trans1 f9,hf4.trans1 f9,i+1,by omega,?_⟩ ?_)⟩
  ·rw [ei i (by omega),e1]
  ·show ((K.length:Int) - IntKind.wrap .i64 ((i:Int)+1)).toNat < ((K.length:Int) - (i:Int)).toNat
   rw [ei i (by omega)]; omega
 ·have hge:¬ (i:Int) < (K.length:Int):=of_decide_eq_false hge
  have e:K.take i=K:=List.take_of_length_le (by omega)
  rw [e]
  exact ⟨rfl,hf⟩
set_option maxHeartbeats 2000000 in
theorem change_calls [Ow] (db r:Nat) (d:Dk) (x:Ch) (w:World) (h:DkAt w db r d) (hx:ChB x) (hb:d.F.L.length+d.F.P.length<=349524) (ho:∀ id,id ∉ idsF d.F->d.f id=zI) :
  Calls Tryz.prog 109 #[.pointer (some ⟨db,0,none⟩),ofL (encC x)] w fun e w'=>Fr (DS db r) w w'/\e=.returned (.int .i64 (chD d x).2)/\DkAt w' db r (chD d x).1:=by
 refine (F109.of (some ⟨db,0,none⟩) (encC x) w (Q:=fun v w'=>Fr (DS db r) w w'/\v=.int .i64 (chD d x).2/\DkAt w' db r (chD d x).1) ?_).mono (fun e w' ⟨v,he,hf,hv,h⟩=>⟨hf,by rw [he,hv],h⟩)
 have hbF:FoB d.F:=by unfold FoB; omega
 have hbF':FoB (doF d.F x):=by
  unfold FoB doF
  split
  ·show d.F.L.length+(d.F.P ++ [x]).length<=_
   rw [List.length_append,List.length_singleton]; omega
  ·omega
 have hlt0:=h.lt
 have hm:=ids_max hbF
 refine rec_new (fun b1 w2 f2 hb1 r1=>dr_mk (dk_getF (h.fr0 f2) (fun cs hF=>(ids_calls cs d.F w2 hF hbF).mono ?_)))
 rintro e w6 ⟨f6,A8,c10,rfl,r8⟩
 have f26:=f2.trans1 f6
 have fd:Fr (fun _=>False) w6 w6.drew:=Fr.drew _ _
 have f0:=f26.trans1 fd
 have h7:=h.fr0 f0
 have hlt1:=r1.lt
 have r1:=(r1.fr f6 (fun h=>h)).fr fd (fun h=>h)
 have r8:=fd.row r8 (fun _ _ h=>h)
 have hs2:=f2.size
 have hs6:=(f6.trans1 fd).size
 have e0:w6.drew.heap.size=w6.heap.size:=rfl
 generalize w6.drew=w7 at fd f0 h7 r1 r8 hs6 e0 ⊢
 have fin:∀ (u:World) (cs':List Value),Fr (fun k=>w7.heap.size<=k) w7 u->DkAt u db r d->FoAt u cs' (doF d.F x)->gd (cs'.length == 2) (st u db (0+2) cs' fun w25 =>
   Calls Tryz.prog 119 #[Value.pointer (some ⟨db,0,none⟩),Value.slice A8 (idsF d.F).length c10] w25 fun e27 w26=>e27=.returned (Value.tuple #[])/\(Fr (DS db r) w w26/\Value.int .i64 (wrongF d.F x)=.int .i64 (chD d x).2/\DkAt w26 db r (chD d x).1)):=by
  intro u cs' fu hu hF'
  refine dk_setF hu hF' (fun w25 f25 h25=>?_)
  have hrow:Sl w25 1 A8 (idsF d.F).length (ivs (idsF d.F)):=by
   refine f25.sl (fu.sl r8.sl (fun h0 k hk h=>?_)) (fun h0 k hk h=>?_)
   ·have:=(r8.blt hk).2; omega
   ·have h:k=db:=h
    have:=(r8.blt hk).1; omega
  refine (keep_calls db r _ A8 _ c10 (idsF d.F) w25 h25 hbF' hrow (ids_asc _) (by omega)).mono ?_
  rintro e w26 ⟨f26',rfl,h26⟩
  refine ⟨rfl,?_,rfl,?_⟩
  ·have g1:Fr (DS db r) w u:=f0.trans fu (fun _ _ h=>h.elim) (fun k hk h=>by omega)
   exact (g1.trans f25 (fun _ _ h=>h) (fun k hk h=>.inl h)).trans f26' (fun _ _ h=>h) (fun k hk h=>.inr h)
  ·have e2:forg (idsF (doF d.F x)) (idsF d.F) d.f=trim (doF d.F x) d.f:=forg_trim ho
   have h26:DkAt w26 db r { d with F:=doF d.F x,f:=forg (idsF (doF d.F x)) (idsF d.F) d.f }:=h26
   rw [e2] at h26
   exact h26
 refine ⟨A8,_,c10,rfl,dr_mk (dk_getF h7 (fun cs hF=>⟨encC x,rfl,rec_rd r1,?_,?_⟩))⟩
 ·refine (do_calls cs d.F x w7 hF hbF hx).mono ?_
  rintro e w15 ⟨f15,a17,rfl,hF'⟩
  refine ⟨_,_,rfl,?_⟩
  refine nw_mk ?_
  have g1:Fr (fun _=>False) w15 (w15.alloc (.cells [Value.slice none 0 0,Value.slice none 0 0].toArray 81)):=Fr.alloc _ _ _
  have q1:=RecAt.new w15 [Value.slice none 0 0,Value.slice none 0 0] 81
  have hb19:w7.heap.size<=w15.heap.size:=f15.size
  generalize w15.heap.size=b19 at q1 hb19 ⊢
  generalize w15.alloc (.cells [Value.slice none 0 0,Value.slice none 0 0].toArray 81)=w20 at g1 q1 ⊢
  have g2:=f15.trans1 g1
  have hF20:=hF'.fr0 g1
  refine kp_mk g2 r1.lt (fun h=>h) (kp_mk g2 h7.lt.1 (fun h=>h) ?_)
  obtain ⟨u',v',rfl,hu,hv⟩:=fo_cells hF20
  refine gd_mk rfl (fo_st (y:=[u',v']) q1 rfl (fun y hy=>?_) (fun w21 f21 r21=>⟨_,rfl,rec_rd r21,dr_mk (fin w21 _ ?_ ?_ ?_)⟩))
  ·simp only [List.mem_cons,List.not_mem_nil,or_false] at hy
   rcases hy with rfl | rfl
   ·exact hu
   ·exact hv
  ·exact g2.trans f21 (fun _ _ h=>h.elim) (fun k hk h=>by have h:k=b19:=h; omega)
  ·have g3:Fr (fun k=>k=b19) w7 w21:=g2.trans f21 (fun _ _ h=>h.elim) (fun _ _ h=>h)
   have:=h7.lt
   exact (h7.fr0 g2).fr f21 (fun h=>by have h:db=b19:=h; omega) (fun h=>by have h:r=b19:=h; omega) (fun k hk=>by have hk:k=b19:=hk; rw [hk]; exact two_alien q1)
  ·exact fo_fr hF20 f21 (fun k hk=>by have hk:k=b19:=hk; rw [hk]; exact two_alien q1)
 ·refine rec_new (fun b28 w29 f29 hb28 r28=>kp_mk f29 r1.lt (fun h=>h) (kp_mk f29 h7.lt.1 (fun h=>h) ((do_calls cs d.F x w29 (hF.fr0 f29) hbF hx).mono ?_)))
  rintro e w30 ⟨f30,a32,rfl,hF'⟩
  have r28:=r28.fr f30 (fun h=>h)
  have g2:=f29.trans1 f30
  refine ⟨_,_,rfl,?_⟩
  obtain ⟨u',v',rfl,hu,hv⟩:=fo_cells hF'
  refine gd_mk rfl (fo_st (y:=[u',v']) r28 rfl (fun y hy=>?_) (fun w34 f34 r34=>⟨_,rfl,rec_rd r34,dr_mk (fin w34 _ ?_ ?_ ?_)⟩))
  ·simp only [List.mem_cons,List.not_mem_nil,or_false] at hy
   rcases hy with rfl | rfl
   ·exact hu
   ·exact hv
  ·exact g2.trans f34 (fun _ _ h=>h.elim) (fun k hk h=>by have h:k=b28:=h; omega)
  ·have:=h7.lt
   exact (h7.fr0 g2).fr f34 (fun h=>by have h:db=b28:=h; omega) (fun h=>by have h:r=b28:=h; omega) (fun k hk=>by have hk:k=b28:=hk; rw [hk]; exact two_alien r28)
  ·exact fo_fr hF' f34 (fun k hk=>by have hk:k=b28:=hk; rw [hk]; exact two_alien r28)
end Go.Proofs.YtkfanhdicnjdlaaGreatDoor
