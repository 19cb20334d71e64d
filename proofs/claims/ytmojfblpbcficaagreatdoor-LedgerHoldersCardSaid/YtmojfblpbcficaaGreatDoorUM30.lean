import Derived.Test.YtmojfblpbcficaaGreatDoorUM29
import Derived.Test.YtmojfblpbcficaaGreatDoorUM19
set_option linter.all false
open Go.TM.oA Go.TM.oB Go.TM.oC Go.TM.oD Go.TM.oE
namespace Go.Proofs.YtmojfblpbcficaaGreatDoor
set_option maxRecDepth 100000
set_option maxHeartbeats 4000000
section
open Go.TM
variable [bp]
def Av(v:Nat)(rc:RC)(z:ZZ):ae:=[(0,.dr rc .ready (((List.replicate 22 .any).set 4 (.ptr 1 0)).set 5 (.ptr 2 0))),(1,.cells [.own 3 v 0 []]),(2,.cells [.own 4 v 0 []]),(3,.tree v 0 (.aD 3 (z.1.map aA))),(4,.tree v 0 (.aD 3 (z.2.map aA)))]
theorem Yg(z:ZZ)(x:Lt)(b:Bool)(h1:lB z.1)(h2:lB z.2)(hx:0<=x.n/\x.n<=1099511627776):dQ Tryz.prog [cH (aA x),.dv (B b)] 5 (Av 1 (Au Tryz.f240) z) 0 fun r k=>r=[.dv (B true)]/\k=Av 1 (Au Tryz.f240) (gA z (x,b)):=by
 refine uR gi mixed rfl (by kernel_rfl) ?_
 cases b with
 |true=>
  refine T5 (fun _=>?_) fun h=>by cases h
  refine .inr (cl [3] (B2 z.1 x h1 hx) (by kernel_rfl) rfl rfl ?_)
  exact ext (by kernel_rfl) rfl rfl
 |false=>
  refine T5 (fun h=>by cases h) fun _=>?_
  refine .inr (cl [4] (B2 z.2 x h2 hx) (by kernel_rfl) rfl rfl ?_)
  exact ext (by kernel_rfl) rfl rfl
theorem DP{rc:RC}{z:ZZ}{a:List AV}:Go.TM.Start 4 [(0,.dr rc .ready (((List.replicate 22 .any).set 4 (.ptr 1 0)).set 5 (.ptr 2 0))),(1,.cells [.own 3 1 0 []]),(2,.cells [.own 4 0 0 []]),(3,.tree 1 0 (.aD 3 (z.1.map aA))),(4,.tree 0 0 (.aD 3 (z.2.map aA)))] (Av 1 rc z) a a/\
 Go.TM.Start 3 (Av 0 rc z) [(0,.dr rc .ready (((List.replicate 22 .any).set 4 (.ptr 1 0)).set 5 (.ptr 2 0))),(1,.cells [.own 3 1 0 []]),(2,.cells [.own 4 0 0 []]),(3,.tree 1 0 (.aD 3 (z.1.map aA))),(4,.tree 0 0 (.aD 3 (z.2.map aA)))] a a:=by
 refine⟨⟨⟨_,rfl,rfl,fun j hj=>?_⟩,jl.refl _ _ _ _⟩,⟨_,rfl,rfl,fun j hj=>?_⟩,jl.refl _ _ _ _⟩
 ·match j,hj with
  |0,_=>exact .refl _
  |1,_=>exact .refl _
  |2,_=>exact .cells (.sH .nil)
  |3,_=>exact .refl _
  |j+5,_=>exact .refl _
 ·match j,hj with
  |0,_=>exact .refl _
  |1,_=>exact .cells (.sH .nil)
  |2,_=>exact .refl _
  |4,_=>exact .refl _
  |j+5,_=>exact .refl _
theorem JF(z:ZZ)(x:Lt)(b:Bool)(h1:lB z.1)(h2:lB z.2)(hx:0<=x.n/\x.n<=1099511627776):dQ Tryz.prog [cH (aA x),.dv (B b)] 5 (Av 0 (Au Tryz.f240) z) 0 fun r k=>r=[.dv (B true)]/\k=Av 1 (Au Tryz.f240) (gA z (x,b)):=
 kL 3 (kL 4 (Yg z x b h1 h2 hx) DP.1) DP.2
def Zz(v:Nat)(rc:RC)(l set:List Lt)(z:ZZ):ae:=[(0,.dr rc .ready (((List.replicate 22 .any).set 4 (.ptr 1 0)).set 5 (.ptr 2 0))),(1,.cells [.own 5 v 0 []]),(2,.cells [.own 6 v 0 []]),(3,.cells [.dv (aM l)]),(4,.cells [.dv (aM set)]),(5,.tree v 0 (.aD 3 (z.1.map aA))),(6,.tree v 0 (.aD 3 (z.2.map aA)))]
structure ItS where
 j:Nat
 x:Lt
 z:ZZ
def zN(l set:List Lt)(z:ZZ)(i:Nat):ZZ:=((l.take i).flatMap (jm set)).foldl gA z
theorem LN{l set:List Lt}{z:ZZ}{i:Nat}{x:Lt}(h:l[i]?=some x):zN l set z (i+1)=(jm set x).foldl gA (zN l set z i):=by
 unfold zN;rw[ads,h,List.flatMap_append,adI];simp
theorem HX.mono{m n:Nat}{z:ZZ}(h:HX m z)(Zx:m<=n):HX n z:=⟨h.1,h.2.1,Nat.le_trans h.2.2.1 Zx,Nat.le_trans h.2.2.2 Zx⟩
theorem V1{l set:List Lt}{z:ZZ}(hl:∀x∈l,az x=true)(hs:NS set)(hz:HX 0 z):∀i,HX (i*(2*set.length+1)) (zN l set z i)
 |0=>by rw[Nat.zero_mul];exact hz
 |i+1=>by
  have ih:=V1 hl hs hz i
  cases h:l[i]? with
  |none=>
   have:zN l set z (i+1)=zN l set z i:=by unfold zN;rw[ads,h];simp
   rw[this]
   exact ih.mono (adN _ (by omega))
  |some x=>
   rw[LN h]
   have h1:=ih.fold (DO hs (hl x (ab6 h)))
   have h2:=GJ set x
   exact h1.mono (by rw[Nat.add_mul,Nat.one_mul];omega)
theorem Yh{l set:List Lt}{z:ZZ}{i:Nat}{x:Lt}(hl:∀x∈l,az x=true)(hs:NS set)(hz:HX 0 z)(hx:l[i]?=some x)(bP:l.length*(2*set.length+1)<=90000){pre suf:List (Lt×Bool)}(h:jm set x=pre++suf):
 lB (pre.foldl gA (zN l set z i)).1/\lB (pre.foldl gA (zN l set z i)).2:=by
 have h1:=(V1 hl hs hz i).fold (l:=pre) fun p hp=>DO hs (hl x (ab6 hx)) p (by rw[h];exact List.mem_append_left _ hp)
 have h2:=GJ set x
 have h3:=congrArg List.length h
 rw[adv]at h3
 have hi:=(W8.1 hx).1
 have h4:(i+1)*(2*set.length+1)<=l.length*(2*set.length+1):=adN _ hi
 rw[Nat.add_mul,Nat.one_mul]at h4
 exact h1.lB (by omega)
theorem Yi(rc:RC)(l set:List Lt)(z:ZZ)(hl:∀x∈l,az x=true)(hs:NS set)(hp:∀x∈set,az x=true)(AR:l.length<=5000)(gM:set.length<=5000)(hz:HX 0 z)(bP:l.length*(2*set.length+1)<=90000)
 (hY:∀(z:ZZ) (x:Lt) (b:Bool),lB z.1->lB z.2->0<=x.n/\x.n<=1099511627776->dQ Tryz.prog [cH (aA x),.dv (B b)] 5 (Av 0 rc z) 0 fun r k=>r=[.dv (B true)]/\k=Av 1 rc (gA z (x,b))):
 aj Tryz.prog 267 [.eN 0,.ptr 3 0,.ptr 4 0] 7 (Zz 1 rc l set z) 0 [] (Zz 1 rc l set ((l.flatMap (jm set)).foldl gA z)):=by
 refine cO Tryz.func267 rfl (by kernel_rfl) ?_
 have ll:(l.map aA).length=l.length:=WY ..
 have ls:(set.map aA).length=set.length:=WY ..
 refine⟨Nat,fun i=>⟨7,[(0,.eN 0),(1,.ptr 3 0),(2,.ptr 4 0),(9,.dv (aM l)),(10,.dv (I l.length)),(11,.dv (I i))],Zz 1 rc l set (zN l set z i)⟩,fun i=>i<=l.length,fun i=>l.length-i,0,fun _=>rfl,jn (by simp only[ll];rfl) rfl rfl rfl,adx _,?_⟩
 rintro i hi
 refine T5 (fun h=>?_) fun h=>?_
 ·have au:i<l.length:=by have:=adz h;omega
  obtain⟨x,hx⟩:∃x,l[i]?=some x:=⟨_,IF au⟩
  have ix:(l.map aA)[(i:Int).toNat]?=some (aA x):=by rw[abW];simp[hx]
  have SP:=hl x (ab6 hx)
  have Dn:=ai.1 SP
  have hpp:=(jK hs (by omega:0<=x.n)).pos
  have uq:=DO hs SP
  have eG:=LN (set:=set) (z:=z) hx
  have hlb:lB set:=⟨by omega,fun y hy=>by have:=ai.1 (hp y hy);omega⟩
  obtain⟨hk,aO,qM,SH⟩:=JD hs x
  refine⟨aA x,fun _=>⟨by omega,ix⟩,?_⟩
  have hse:=tO set x hs hlb
  rw[<-ls]at hse
  refine .inr (cl [4,7] hse (by kernel_rfl) rfl rfl ?_)
  have hM:jm set x=Aq x (set.drop (JC set x)):=by unfold jm;rw[aO]
  generalize hz0:zN l set z i=zi at*
  refine⟨ItS,fun q=>⟨8,[(0,.eN 0),(1,.ptr 3 0),(2,.ptr 4 0),(9,.dv (aM l)),(10,.dv (I l.length)),(11,.dv (I i)),(5,.ptr 7 0),(6,.dv (I q.j))],Zz 1 rc l set q.z++[(7,.cells (ed (aA q.x).cells))]⟩,fun q=>q.j<=set.length/\q.x.f=x.f/\x.a<=q.x.a/\q.x.a+q.x.n=x.a+x.n/\0<=q.x.n/\∃pre,jm set x=pre++Aq q.x (set.drop q.j)/\q.z=pre.foldl gA zi,fun q=>set.length-q.j,⟨JC set x,x,zi⟩,fun _=>rfl,jn rfl rfl rfl rfl,⟨hk,rfl,Int.le_refl _,rfl,by show 0<=x.n;omega,[],hM,rfl⟩,?_⟩
  rintro⟨j,y,w⟩ ⟨hj,hf,ha,hn,Nt,pre,kr,hw⟩
  dsimp only at hj hf ha hn Nt kr hw⊢
  have Yj:∀{p s:List (Lt×Bool)},jm set x=p++s->lB (p.foldl gA zi).1/\lB (p.foldl gA zi).2:=fun h=>by
   rw[<-hz0];exact Yh hl hs hz hx bP h
  obtain⟨s,ss⟩:∃s,j<set.length->set[j]?=some s:=by
   by_cases h:j<set.length
   ·exact⟨set[j],fun _=>IF h⟩
   ·exact⟨x,fun h2=>absurd h2 h⟩
  have is:bw (bif decide (0<y.n)then decide ((j:Int)<(((set.map aA).length:Nat):Int))else false) true=true->(0:Int)<=j/\(set.map aA)[(j:Int).toNat]?=some (aA s):=fun hg=>by
   have iN:j<set.length:=by have:=adz (c6 (gL hg)).2;omega
   refine⟨by omega,?_⟩
   rw[abW];simp[ss iN]
  repeat refine gG ?_
  refine⟨aA s,fun h=>is h,?_⟩
  repeat refine gG ?_
  refine⟨aA s,fun h=>is (rl (c6 (gL h)).1),?_⟩
  repeat refine gG ?_
  refine⟨fun _=>by omega,?_⟩
  repeat refine gG ?_
  refine⟨by kernel_rfl,T5 (fun hc=>?_) fun hc=>?_⟩
  ·have c1:=c6 hc
   have c2:=c6 c1.1
   have c3:=c6 c2.1
   have iN:j<set.length:=by have:=adz c3.2;omega
   have ss:=ss iN
   have hsb:=ai.1 (hp s (ab6 ss))
   have hg:Og y s=true:=by unfold Og;rw[c3.1,c2.2,c1.2];rfl
   have hdj:set.drop j=s::set.drop (j+1):=by
    rw[List.drop_eq_getElem_cons iN]
    rw[IF iN]at ss
    injection ss with ss
    rw[ss]
   rw[hdj,DN hg]at kr
   have io:(0:Int)<=j/\(set.map aA)[(j:Int).toNat]?=some (aA s):=⟨by omega,by rw[abW];simp[ss]⟩
   refine⟨aA s,fun _=>io,fun _=>by omega,?_⟩
   refine⟨by kernel_rfl,?_⟩
   repeat refine gG ?_
   have jI:=Yj kr
   rw[<-hw]at jI
   by_cases hO:0<dL y s
   ·have sG:bw (decide (0<dL y s)) true=true:=rl (adF hO)
    rw[if_pos hO]at kr
    have hm1:=hpp (⟨y.f,y.a,dL y s⟩,false) (by rw[kr];simp)
    have SO:=hpp (⟨y.f,y.a+dL y s,jq y s⟩,true) (by rw[kr];simp)
    dsimp only at hm1 SO
    refine .inl (Us [0,1,2,5,6] (hY w ⟨y.f,y.a,dL y s⟩ false jI.1 jI.2 (by show 0<=dL y s/\dL y s<=_;omega)) (by kernel_rfl) rfl rfl ?_)
    refine⟨sG,fun _=>rfl,fun _ h=>rl h,T5 (fun h=>by cases(c6 h).2) fun _=>?_⟩
    have cx:=Yj (p:=pre++[(⟨y.f,y.a,dL y s⟩,false)]) (by rw[kr];simp;rfl)
    rw[adI,<-hw]at cx
    refine⟨fun _=>by omega,fun _=>by omega,?_⟩
    refine⟨aA s,fun _=>io,aA s,fun _=>io,fun _=>by omega,fun _=>by omega,?_⟩
    refine⟨by kernel_rfl,?_⟩
    refine .inl (Us [0,1,2,5,6] (hY (gA w (⟨y.f,y.a,dL y s⟩,false)) ⟨y.f,y.a+dL y s,jq y s⟩ true cx.1 cx.2 (by show 0<=jq y s/\jq y s<=_;omega)) (by kernel_rfl) rfl rfl ?_)
    refine T5 (fun h=>by cases h) fun _=>?_
    refine⟨fun _=>by omega,fun _=>by omega,fun _=>by omega,⟨j+1,⟨y.f,y.a+dL y s+jq y s,y.n-dL y s-jq y s⟩,gA (gA w (⟨y.f,y.a,dL y s⟩,false)) (⟨y.f,y.a+dL y s,jq y s⟩,true)⟩,jn rfl rfl rfl rfl,⟨iN,hf,by dsimp only;omega,by dsimp only;omega,by dsimp only;omega,(pre++[(⟨y.f,y.a,dL y s⟩,false)])++[(⟨y.f,y.a+dL y s,jq y s⟩,true)],by rw[kr];simp,by rw[hw];simp⟩,by dsimp only;omega⟩
   ·have V2:bw (decide (0<dL y s)) true=false:=by rw[adG hO];rfl
    have h0:0<=dL y s:=by unfold dL;split<;>omega
    rw[if_neg hO,List.nil_append]at kr
    have SO:=hpp (⟨y.f,y.a+dL y s,jq y s⟩,true) (by rw[kr];simp)
    dsimp only at SO
    have cx:=jI
    refine .inr ⟨V2,.dv (B false),fun h=>h,fun _ h=>rl h,T5 (fun h=>absurd (adz (c6 h).1) hO) fun _=>?_⟩
    refine⟨fun _=>by omega,fun _=>by omega,?_⟩
    refine⟨aA s,fun _=>io,aA s,fun _=>io,fun _=>by omega,fun _=>by omega,?_⟩
    refine⟨by kernel_rfl,?_⟩
    refine .inl (Us [0,1,2,5,6] (hY (w) ⟨y.f,y.a+dL y s,jq y s⟩ true cx.1 cx.2 (by show 0<=jq y s/\jq y s<=_;omega)) (by kernel_rfl) rfl rfl ?_)
    refine T5 (fun h=>by cases h) fun _=>?_
    refine⟨fun _=>by omega,fun _=>by omega,fun _=>by omega,⟨j+1,⟨y.f,y.a+dL y s+jq y s,y.n-dL y s-jq y s⟩,gA (w) (⟨y.f,y.a+dL y s,jq y s⟩,true)⟩,jn rfl rfl rfl rfl,⟨iN,hf,by dsimp only;omega,by dsimp only;omega,by dsimp only;omega,pre++[(⟨y.f,y.a+dL y s,jq y s⟩,true)],by rw[kr];simp,by rw[hw];simp⟩,by dsimp only;omega⟩
  ·have iV:Aq y (set.drop j)=if 0<y.n then[(y,false)]else[]:=by
    by_cases CL:j<set.length
    ·have ss:=ss CL
     rw[List.drop_eq_getElem_cons CL]
     rw[IF CL]at ss
     injection ss with ss
     rw[ss]
     refine JE ?_
     have h2:=lM hc
     rw[Bool.eq_false_iff]
     intro hg
     simp only[Og,adT]at hg
     exact h2 ⟨by rw[hg.1,adF (by omega),hg.2.1];rfl,hg.2.2⟩
    ·rw[List.drop_eq_nil_of_le (by omega)]
     conv=>lhs;unfold Aq
   have jI:=Yj kr
   rw[<-hw]at jI
   rw[iV]at kr
   rw[kr,adI,<-hw]at eG
   repeat refine gG ?_
   by_cases hO:0<y.n
   ·have sG:bw (decide (0<y.n)) true=true:=rl (adF hO)
    rw[if_pos hO]at eG
    refine .inl (Us [0,1,2,5,6] (hY w y false jI.1 jI.2 (by omega)) (by kernel_rfl) rfl rfl ?_)
    refine⟨sG,fun _=>rfl,fun _ h=>rl h,T5 (fun h=>by cases(c6 h).2) fun _=>?_⟩
    exact⟨fun _=>by omega,i+1,jn rfl (by simp only[eG];rfl) rfl rfl,au,mlt au⟩
   ·have V2:bw (decide (0<y.n)) true=false:=by rw[adG hO];rfl
    rw[if_neg hO]at eG
    refine .inr ⟨V2,.dv (B false),fun h=>h,fun _ h=>rl h,T5 (fun h=>absurd (adz (c6 h).1) hO) fun _=>?_⟩
    exact⟨fun _=>by omega,i+1,jn rfl (by simp only[eG];rfl) rfl rfl,au,mlt au⟩
 ·have he:i=l.length:=by have:=adA h;omega
  subst he
  have:zN l set z l.length=(l.flatMap (jm set)).foldl gA z:=by unfold zN;rw[ady]
  rw[this]
  exact ext (by kernel_rfl) rfl rfl
end
section
open Go.TM
variable [bp]
def Ux:List AV->List AV->Bool
 |[],[]=>true
 |.any::r,_::l=>Ux r l
 |.ptr i o::r,.ptr j p::l=>Nat.beq i j&&Nat.beq o p&&Ux r l
 |_,_=>false
theorem kZ{m:Nat}{κ κ':Nat->aw}:∀{r l:List AV},Ux r l=true->dZ m κ κ' r l
 |[],[],_=>trivial
 |.any::r,_::l,h=>⟨tv,kZ (r:=r) (l:=l) h⟩
 |.ptr i o::r,.ptr j p::l,h=>by
  simp only[Ux,adT]at h
  have h1:=ab9 h.1.1
  have h2:=ab9 h.1.2
  subst h1;subst h2
  exact⟨rfl,kZ h.2⟩
theorem su(l:List Lt):(pk (.aD 3 (l.map aA))).Le (aM l):=DV.Le.of_eq (by
 show DV.sl 3 (xx (l.map aA))=_
 rw[fT (fun _=>rfl)])
theorem wz(l set:List Lt):aj Tryz.prog 253 [.dv (aM l),.dv (aM set)] 0 [] 2 [.fn 267 [.ptr 0 0,.ptr 1 0]] [(0,.cells [.dv (aM l)]),(1,.cells [.dv (aM set)])]:=by
 refine cO Tryz.func253 rfl (by kernel_rfl) ?_
 exact ext (by kernel_rfl) rfl rfl
def kI0(rc:RC)(l set:List Lt):ae:=[(0,.dr rc .ready (((List.replicate 22 .any).set 4 (.ptr 1 0)).set 5 (.ptr 2 0))),(1,.cells [.dv .ax]),(2,.cells [.dv .ax]),(3,.cells [.dv (aM l)]),(4,.cells [.dv (aM set)])]
def kI1(rc:RC)(l set:List Lt):ae:=[(0,.dr rc .ready (((List.replicate 22 .any).set 4 (.ptr 1 0)).set 5 (.ptr 2 0))),(1,.cells [.own 5 0 0 []]),(2,.cells [.dv .ax]),(3,.cells [.dv (aM l)]),(4,.cells [.dv (aM set)]),(5,.tree 0 0 (.aD 3 []))]
def kI2(rc:RC)(l set:List Lt):ae:=[(0,.dr rc .ready (((List.replicate 22 .any).set 4 (.ptr 1 0)).set 5 (.ptr 2 0))),(1,.cells [.own 5 1 0 []]),(2,.cells [.own 6 0 0 []]),(3,.cells [.dv (aM l)]),(4,.cells [.dv (aM set)]),(5,.tree 1 0 (.aD 3 [])),(6,.tree 0 0 (.aD 3 []))]
theorem JG(rc:RC)(l set:List Lt)(hl:∀x∈l,az x=true)(hs:NS set)(hp:∀x∈set,az x=true)(AR:l.length<=5000)(gM:set.length<=5000)(bP:l.length*(2*set.length+1)<=90000)
 (hY:∀(z:ZZ) (x:Lt) (b:Bool),lB z.1->lB z.2->0<=x.n/\x.n<=1099511627776->dQ Tryz.prog [cH (aA x),.dv (B b)] 5 (Av 0 rc z) 0 fun r k=>r=[.dv (B true)]/\k=Av 1 rc (gA z (x,b))):
 aj Tryz.prog 267 [.eN 0,.ptr 3 0,.ptr 4 0] 5 (kI0 rc l set) 2 [] (Zz 1 rc l set (kG l set)):=by
 have h1:=Yi rc l set ([],[]) hl hs hp AR gM ⟨fun _ h=>(by cases h),fun _ h=>(by cases h),adM _,adM _⟩ bP hY
 have h2:=cU 6 (K0:=kI2 rc l set) h1 ⟨⟨_,rfl,rfl,fun j hj=>(by match j,hj with|0,_=>exact .refl _|1,_=>exact .refl _|2,_=>exact .cells (.sH .nil)|3,_=>exact .refl _|4,_=>exact .refl _|5,_=>exact .refl _|j+7,_=>exact .refl _)⟩,jl.refl _ _ _ _⟩
 have h3:=cU 5 (K0:=Zz 0 rc l set ([],[])) h2 ⟨⟨_,rfl,rfl,fun j hj=>(by match j,hj with|0,_=>exact .refl _|1,_=>exact .cells (.sH .nil)|2,_=>exact .refl _|3,_=>exact .refl _|4,_=>exact .refl _|6,_=>exact .refl _|j+7,_=>exact .refl _)⟩,jl.refl _ _ _ _⟩
 have h4:=jE (K2:=kI1 rc l set) (args2:=[.eN 0,.ptr 3 0,.ptr 4 0]) h3 rfl rfl (fun j hj=>(by match j,hj with|0,_=>exact .inl ⟨rfl,rfl⟩|1,_=>exact .inl ⟨rfl,rfl⟩|2,_=>exact .inr ⟨_,_,rfl,rfl,.born .nil⟩|3,_=>exact .inl ⟨rfl,rfl⟩|4,_=>exact .inl ⟨rfl,rfl⟩|5,_=>exact .inl ⟨rfl,rfl⟩|j+7,_=>exact .inl ⟨rfl,rfl⟩)) (.same _ rfl (.same _ rfl (.same _ rfl .nil)))
 exact jE (K2:=kI0 rc l set) (args2:=[.eN 0,.ptr 3 0,.ptr 4 0]) h4 rfl rfl (fun j hj=>(by match j,hj with|0,_=>exact .inl ⟨rfl,rfl⟩|1,_=>exact .inr ⟨_,_,rfl,rfl,.born .nil⟩|2,_=>exact .inl ⟨rfl,rfl⟩|3,_=>exact .inl ⟨rfl,rfl⟩|4,_=>exact .inl ⟨rfl,rfl⟩|j+6,_=>exact .inl ⟨rfl,rfl⟩)) (.same _ rfl (.same _ rfl (.same _ rfl .nil)))
theorem j9(l set:List Lt)(hl:∀x∈l,az x=true)(hs:NS set)(hp:∀x∈set,az x=true)(AR:l.length<=5000)(gM:set.length<=5000)(bP:l.length*(2*set.length+1)<=90000):aN Tryz.prog 240 [aM l,aM set] [aM (kG l set).1,aM (kG l set).2]:=by
 refine pO Tryz.func240 rfl (by kernel_rfl) rfl ?_
 have hi:=JG (Au Tryz.f240) l set hl hs hp AR gM bP fun z x b a1 a2 a3=>JF z x b a1 a2 a3
 refine .inr (cl [] (wz l set) (by kernel_rfl) rfl rfl ?_)
 refine⟨Au Tryz.f240,by kernel_rfl,?_⟩
 refine⟨[4,0,1,2,3],[.eN 0,.ptr 3 0,.ptr 4 0],kI0 (Au Tryz.f240) l set,2,_,hi,by kernel_rfl,⟨rfl,rfl,rfl,tv⟩,⟨⟨rfl,rfl,?_⟩,⟨rf,tv⟩,⟨rf,tv⟩,⟨rf,tv⟩,⟨rf,tv⟩,tv⟩,?_⟩
 ·exact kZ (by kernel_rfl)
 rintro rs K2 ⟨rfl,rfl⟩
 refine⟨by kernel_rfl,?_⟩
 conv=>whnf
 exact⟨by kernel_rfl,su _,su _,tv⟩
end
section
open Go.TM
variable [bp]
theorem Nu(x y:Lt)(hy:0<=y.a/\y.a<=1099511627776/\0<=y.n/\y.n<=1099511627776):aN Tryz.prog 242 [aA x,aA y] [B (decide (x.f=y.f/\x.a=y.a+y.n))]:=by
 refine pO Tryz.func242 rfl (by kernel_rfl) rfl ?_
 refine⟨fun _=>by omega,DV.Le.of_eq ?_,tv⟩
 congr 1
 rw[adO];simp
theorem abi(l:List Lt)(x:Lt)(hl:lB l)(hx:0<=x.n/\x.n<=1099511627776):aj Tryz.prog 212 [.own 0 1 0 [],cH (aA x)] 1 [(0,.tree 1 0 (.aD 3 (l.map aA)))] 0 [.own 0 1 0 []] [(0,.tree 1 0 (.aD 3 ((aR l x).map aA)))]:=by
 obtain⟨hlen,Kw⟩:=hl
 have ll:(l.map aA).length=l.length:=WY ..
 refine cO Tryz.func212 rfl (by kernel_rfl) ?_
 refine T5 (fun h=>?_) fun h=>?_
 ·have h:x.n=0:=beq_iff_eq.1 h
  rw[aR,if_pos h]
  exact ext (by kernel_rfl) rfl rfl
 have h0:x.n≠0:=beq_eq_false_iff_ne.1 h
 repeat refine gG ?_
 obtain⟨y,hy⟩:∃y,y=l.getLastD ⟨0,0,0⟩:=⟨_,rfl⟩
 have dD:bw (decide (0<(((l.map aA).length:Nat):Int))) true=true->0<l.length:=fun h=>by have:=adz (gL h);omega
 have ia:∀h:bw (decide (0<(((l.map aA).length:Nat):Int))) true=true,-9223372036854775808<=(((l.map aA).length:Nat):Int)-1/\(((l.map aA).length:Nat):Int)-1<=9223372036854775807:=fun h=>by omega
 have ib:∀h:bw (decide (0<(((l.map aA).length:Nat):Int))) true=true,0<=(((l.map aA).length:Nat):Int)-1/\(((l.map aA).length:Nat):Int)-1<(((l.map aA).length:Nat):Int):=fun h=>by have:=dD h;omega
 have ie:∀h:bw (decide (0<(((l.map aA).length:Nat):Int))) true=true,(l.map aA)[((((l.map aA).length:Nat):Int)-1).toNat]?=some (aA y):=fun h=>by
  have:=(oZ (dD h)).1
  rw[abW,show((((l.map aA).length:Nat):Int)-1).toNat=l.length-1 by omega,this,hy];rfl
 have Oe:∀h:bw (decide (0<(((l.map aA).length:Nat):Int))) true=true,0<=y.a/\y.a<=1099511627776/\0<=y.n/\y.n<=1099511627776:=fun h=>Kw y (by rw[hy];exact ab6 (oZ (dD h)).1)
 refine⟨fun h=>ia h,?_⟩
 repeat refine gG ?_
 refine⟨fun h=>ib h,?_⟩
 repeat refine gG ?_
 refine⟨aA y,fun h=>ie h,?_⟩
 repeat refine gG ?_
 refine .inl ⟨_,fun h=>(Nu x y (Oe h)).ok,?_⟩
 repeat refine gG ?_
 refine⟨by kernel_rfl,T5 (fun h=>?_) fun h=>?_⟩
 ·have h1:=c6 h
  have DQ:=adz h1.2
  have hb:=rl h1.1
  have Oe:=Oe hb
  have e:aR l x=l.set (l.length-1) ⟨y.f,y.a,y.n+x.n⟩:=by
   have xj:=(oZ (dD hb)).2
   rw[<-hy]at xj
   have hc:y.f=x.f/\y.a+y.n=x.a:=⟨DQ.1.symm,DQ.2.symm⟩
   unfold aR
   rw[if_neg h0,xj]
   simp only
   rw[if_pos hc]
   conv=>rhs;rw[gf xj]
   have:(l.dropLast++[y]).length-1=l.dropLast.length:=by simp
   simp
  have ei:((((l.map aA).length:Nat):Int)-1).toNat=l.length-1:=by omega
  refine⟨fun _=>ia hb,fun _=>ib hb,aA y,fun _=>ie hb,fun _=>by omega,fun _=>ib hb,?_⟩
  refine⟨[I (y.n+x.n)],⟨rf,tv⟩,aA y,ie hb,?_⟩
  refine⟨by kernel_rfl,ext (by kernel_rfl) rfl ?_⟩
  rw[e,List.map_set,<-ei]
  rfl
 ·have e:aR l x=l++[x]:=by
   by_cases hp:0<l.length
   ·have xj:=(oZ hp).2
    rw[<-hy]at xj
    have hn:¬(y.f=x.f/\y.a+y.n=x.a):=fun hc=>lM h ⟨adF (by omega),adF ⟨hc.1.symm,hc.2.symm⟩⟩
    unfold aR
    rw[if_neg h0,xj]
    simp only
    rw[if_neg hn]
   ·have:l=[]:=List.length_eq_zero_iff.1 (by omega)
    subst this
    unfold aR
    rw[if_neg h0];rfl
  refine .inl ⟨[aA x],rfl,⟨rf,rf,rf,tv⟩,(by simp;rfl),?_⟩
  refine .inr ⟨[aA x],b7.refl _,bL (by simp;omega),by simp;omega,?_⟩
  refine ext (by kernel_rfl) rfl ?_
  rw[e,adB]
  rfl
theorem vz(l:List Lt)(x:Lt)(hl:lB l)(hx:0<=x.n/\x.n<=1099511627776):aj Tryz.prog 212 [.own 0 0 0 [],cH (aA x)] 1 [(0,.tree 0 0 (.aD 3 (l.map aA)))] 0 [.own 0 1 0 []] [(0,.tree 1 0 (.aD 3 ((aR l x).map aA)))]:=
 cU 0 (abi l x hl hx) ⟨⟨_,rfl,rfl,fun j hj=>(by match j,hj with|j+1,_=>exact .refl _)⟩,.sH (.same _ .nil)⟩
end
section
open Go.TM
theorem DR:∀(s:List Lt) (n:Int) (i:Nat) (x:Lt),s[i]?=some x->(cu n s)[i]?=some (min (n-((cu n s).take i).sum) x.n)
 |y::r,n,0,x,h=>by simp at h;subst h;simp[cu]
 |y::r,n,i+1,x,h=>by
  have ih:=DR r (n-min n y.n) i x (by simpa using h)
  simp only[cu,List.getElem?_cons_succ,List.take_succ_cons,List.sum_cons]
  rw[ih];congr 2;omega
theorem DT:∀(s:List Lt) (n:Int),0<=n->(∀x∈s,0<=x.n)->∀i,0<=((cu n s).take i).sum/\((cu n s).take i).sum<=n
 |[],n,hn,_,i=>by simp[cu];exact hn
 |y::r,n,hn,h,0=>by simp;exact hn
 |y::r,n,hn,h,i+1=>by
  have hy:=h y adu
  have ih:=DT r (n-min n y.n) (by omega) (fun x hx=>h x (adq _ hx)) i
  simp only[cu,List.take_succ_cons,List.sum_cons]
  omega
variable [bp]
theorem Yk(z:ZZ)(x:Lt)(b:Bool)(h1:lB z.1)(h2:lB z.2)(hx:0<=x.n/\x.n<=1099511627776):dQ Tryz.prog [cH (aA x),.dv (B b)] 5 (Av 1 (Au Tryz.f251) z) 0 fun r k=>r=[.dv (B true)]/\k=Av 1 (Au Tryz.f251) (gA z (x,b)):=by
 refine uR gi mixed rfl (by kernel_rfl) ?_
 cases b with
 |true=>
  refine T5 (fun _=>?_) fun h=>by cases h
  refine .inr (cl [3] (vz z.1 x h1 hx) (by kernel_rfl) rfl rfl ?_)
  exact ext (by kernel_rfl) rfl rfl
 |false=>
  refine T5 (fun h=>by cases h) fun _=>?_
  refine .inr (cl [4] (vz z.2 x h2 hx) (by kernel_rfl) rfl rfl ?_)
  exact ext (by kernel_rfl) rfl rfl
theorem zG(z:ZZ)(x:Lt)(b:Bool)(h1:lB z.1)(h2:lB z.2)(hx:0<=x.n/\x.n<=1099511627776):dQ Tryz.prog [cH (aA x),.dv (B b)] 5 (Av 0 (Au Tryz.f251) z) 0 fun r k=>r=[.dv (B true)]/\k=Av 1 (Au Tryz.f251) (gA z (x,b)):=
 kL 3 (kL 4 (Yk z x b h1 h2 hx) DP.1) DP.2
theorem zH{s:List Lt}{ks:List Int}{i:Nat}{x:Lt}{k:Int}(hx:s[i]?=some x)(hk:ks[i]?=some k):mA s ks (i+1)=gA (gA (mA s ks i) (⟨x.f,x.a,k⟩,true)) (⟨x.f,x.a+k,x.n-k⟩,false):=by
 have hz:(s.zip ks)[i]?=some (x,k):=by rw[List.getElem?_zip_eq_some];exact⟨hx,hk⟩
 unfold mA
 rw[ads,hz,adI]
 rfl
def DU(s:List Lt)(ks:List Int):Prop:=∀(i:Nat) (x:Lt),s[i]?=some x->∃k,ks[i]?=some k/\0<=k/\k<=x.n
theorem JH{s:List Lt}{ks:List Int}(hs:∀x∈s,az x=true)(hk:DU s ks):∀i,i<=s.length->(∀y∈(mA s ks i).1,az y=true)/\(∀y∈(mA s ks i).2,az y=true)/\(mA s ks i).1.length<=i/\(mA s ks i).2.length<=i
 |0,_=>⟨fun _ h=>(by cases h),fun _ h=>(by cases h),adM _,adM _⟩
 |i+1,hi=>by
  obtain⟨h1,h2,h3,h4⟩:=JH hs hk i (by omega)
  obtain⟨x,hx⟩:∃x,s[i]?=some x:=⟨_,IF (by omega)⟩
  obtain⟨k,qM,SH,hk3⟩:=hk i x hx
  have hb:=ai.1 (hs x (ab6 hx))
  rw[zH hx qM]
  have a1:=fh (mA s ks i).1 ⟨x.f,x.a,k⟩
  have a2:=fh (mA s ks i).2 ⟨x.f,x.a+k,x.n-k⟩
  exact⟨iJ h1 (by dsimp only;omega),iJ h2 (by dsimp only;omega),Nat.le_trans a1 (by omega),Nat.le_trans a2 (by omega)⟩
theorem B5{l:List Lt}{n:Nat}(h:∀y∈l,az y=true)(hl:l.length<=n)(hn:n<=100000):lB l:=⟨by omega,fun y hy=>by have:=ai.1 (h y hy);omega⟩
theorem Uy(l:List Lt)(n:Int)(i:Nat)(x:Lt)(hx:l[i]?=some x)(hn:0<=n/\n<=1099511627776)(hxn:0<=x.n/\x.n<=1099511627776):aj Tryz.prog 260 [.dv (I i),.ptr 0 0,.ptr 1 0] 2 [(0,.cells [.dv (I n)]),(1,.cells [.dv (aM l)])] 0 [.dv (I (if x.n<n then x.n else n))] [(0,.cells [.dv (I (n-if x.n<n then x.n else n))]),(1,.cells [.dv (aM l)])]:=by
 have ix:(l.map aA)[(i:Int).toNat]?=some (aA x):=by rw[abW];simp[hx]
 have ov:-9223372036854775808<=n-(if x.n<n then x.n else n)/\n-(if x.n<n then x.n else n)<=9223372036854775807:=by split<;>omega
 refine cO Tryz.func260 rfl (by kernel_rfl) ?_
 refine⟨aA x,fun _=>⟨by omega,ix⟩,?_⟩
 refine⟨by kernel_rfl,fun _=>ov,?_⟩
 exact ext (by kernel_rfl) rfl rfl
theorem Uz(ks:List Int)(i:Nat)(k:Int)(hk:ks[i]?=some k):aj Tryz.prog 250 [.dv (I i),.ptr 0 0] 1 [(0,.cells [.dv (Ints ks)])] 0 [.dv (I k)] [(0,.cells [.dv (Ints ks)])]:=by
 have ix:(ks.map I)[(i:Int).toNat]?=some (I k):=by rw[abW];simp[hk]
 refine cO Tryz.func250 rfl (by kernel_rfl) ?_
 refine⟨I k,fun _=>⟨by omega,ix⟩,?_⟩
 exact ext (by kernel_rfl) rfl rfl
def k1F(rc:RC)(l:List Lt)(n:Int)(v i:Nat):ae:=[(0,.dr rc .ready (((List.replicate 22 .any).set 4 (.ptr 1 0)).set 5 (.ptr 2 0))),(1,.cells [.own 7 v 0 []]),(2,.cells [.own 8 v 0 []]),(3,.cells [.dv (aM l)]),(4,.cells [.fn 260 [.ptr 5 0,.ptr 6 0]]),(5,.cells [.dv (I (n-((cu n l).take i).sum))]),(6,.cells [.dv (aM l)]),(7,.tree v 0 (.aD 3 ((mA l (cu n l) i).1.map aA))),(8,.tree v 0 (.aD 3 ((mA l (cu n l) i).2.map aA)))]
def k2F(rc:RC)(l:List Lt)(n:Int):ae:=[(0,.dr rc .ready (((List.replicate 22 .any).set 4 (.ptr 1 0)).set 5 (.ptr 2 0))),(1,.cells [.own 7 1 0 []]),(2,.cells [.own 8 0 0 []]),(3,.cells [.dv (aM l)]),(4,.cells [.fn 260 [.ptr 5 0,.ptr 6 0]]),(5,.cells [.dv (I (n-((cu n l).take 0).sum))]),(6,.cells [.dv (aM l)]),(7,.tree 1 0 (.aD 3 [])),(8,.tree 0 0 (.aD 3 []))]
def k3F(rc:RC)(l:List Lt)(n:Int):ae:=[(0,.dr rc .ready (((List.replicate 22 .any).set 4 (.ptr 1 0)).set 5 (.ptr 2 0))),(1,.cells [.own 7 0 0 []]),(2,.cells [.own 8 0 0 []]),(3,.cells [.dv (aM l)]),(4,.cells [.fn 260 [.ptr 5 0,.ptr 6 0]]),(5,.cells [.dv (I (n-((cu n l).take 0).sum))]),(6,.cells [.dv (aM l)]),(7,.tree 0 0 (.aD 3 [])),(8,.tree 0 0 (.aD 3 []))]
def k4F(rc:RC)(l:List Lt)(n:Int):ae:=[(0,.dr rc .ready (((List.replicate 22 .any).set 4 (.ptr 1 0)).set 5 (.ptr 2 0))),(1,.cells [.own 7 0 0 []]),(2,.cells [.dv .ax]),(3,.cells [.dv (aM l)]),(4,.cells [.fn 260 [.ptr 5 0,.ptr 6 0]]),(5,.cells [.dv (I (n-((cu n l).take 0).sum))]),(6,.cells [.dv (aM l)]),(7,.tree 0 0 (.aD 3 []))]
def k0F(rc:RC)(l:List Lt)(n:Int):ae:=[(0,.dr rc .ready (((List.replicate 22 .any).set 4 (.ptr 1 0)).set 5 (.ptr 2 0))),(1,.cells [.dv .ax]),(2,.cells [.dv .ax]),(3,.cells [.dv (aM l)]),(4,.cells [.fn 260 [.ptr 5 0,.ptr 6 0]]),(5,.cells [.dv (I (n-((cu n l).take 0).sum))]),(6,.cells [.dv (aM l)])]
theorem abj(rc:RC)(l:List Lt)(n:Int)(hl:∀x∈l,az x=true)(AR:l.length<=5000)(hn:0<=n/\n<=1099511627776)(hk:DU l (cu n l))
 (hY:∀(z:ZZ) (x:Lt) (b:Bool),lB z.1->lB z.2->0<=x.n/\x.n<=1099511627776->dQ Tryz.prog [cH (aA x),.dv (B b)] 5 (Av 0 rc z) 0 fun r k=>r=[.dv (B true)]/\k=Av 1 rc (gA z (x,b))):aj Tryz.prog 276 [.eN 0,.ptr 3 0,.ptr 4 0] 9 (k1F rc l n 1 0) 0 [] (k1F rc l n 1 l.length):=by
 refine cO Tryz.func276 rfl (by kernel_rfl) ?_
 have ll:(l.map aA).length=l.length:=WY ..
 refine⟨Nat,fun i=>⟨9,[(0,.eN 0),(1,.ptr 3 0),(2,.ptr 4 0),(7,.dv (aM l)),(8,.dv (I l.length)),(9,.dv (I i))],k1F rc l n 1 i⟩,fun i=>i<=l.length,fun i=>l.length-i,0,fun _=>rfl,jn (by simp only[ll];rfl) rfl rfl rfl,adx _,?_⟩
 rintro i hi
 refine T5 (fun h=>?_) fun h=>?_
 ·have au:i<l.length:=by have:=adz h;omega
  obtain⟨x,hx⟩:∃x,l[i]?=some x:=⟨_,IF au⟩
  have ix:(l.map aA)[(i:Int).toNat]?=some (aA x):=by rw[abW];simp[hx]
  have Dn:=ai.1 (hl x (ab6 hx))
  obtain⟨k,qM,SH,hk3⟩:=hk i x hx
  obtain⟨z1,z2,z3,z4⟩:=JH hl hk i hi
  have eG:=zH hx qM
  have jI:=B5 z1 z3 (by omega)
  have cx:=B5 z2 z4 (by omega)
  have A5:lB (gA (mA l (cu n l) i) (⟨x.f,x.a,k⟩,true)).1:=B5 (n:=i+1) (iJ z1 (by dsimp only;omega)) (Nat.le_trans (fh (mA l (cu n l) i).1 ⟨x.f,x.a,k⟩) (by omega)) (by omega)
  refine⟨aA x,fun _=>⟨by omega,ix⟩,?_⟩
  have hkm:=DR l n i x hx
  rw[qM]at hkm
  injection hkm with hkm
  have hr:0<=n-((cu n l).take i).sum/\n-((cu n l).take i).sum<=1099511627776:=by
   have h1:=(DT l n hn.1 (fun y hy=>(by have:=ai.1 (hl y hy);omega)) i)
   omega
  have hke:k=if x.n<n-((cu n l).take i).sum then x.n else n-((cu n l).take i).sum:=by rw[hkm];split<;>omega
  have hsn:((cu n l).take (i+1)).sum=((cu n l).take i).sum+k:=by rw[ads,qM];simp
  have hfu:=Uy l (n-((cu n l).take i).sum) i x hx hr (by omega)
  rw[<-hke]at hfu
  have Xn:n-((cu n l).take i).sum-k=n-((cu n l).take (i+1)).sum:=by omega
  rw[Xn]at hfu
  refine .inr (cl [5,6] hfu (by kernel_rfl) rfl rfl ?_)
  refine .inl (Us [0,1,2,7,8] (hY (mA l (cu n l) i) ⟨x.f,x.a,k⟩ true jI cx (by dsimp only;omega)) (by kernel_rfl) rfl rfl ?_)
  repeat refine gG ?_
  refine⟨fun _=>by omega,?_⟩
  repeat refine gG ?_
  refine⟨fun _=>by omega,?_⟩
  repeat refine gG ?_
  refine .inl (Us [0,1,2,7,8] (hY (gA (mA l (cu n l) i) (⟨x.f,x.a,k⟩,true)) ⟨x.f,x.a+k,x.n-k⟩ false A5 cx (by dsimp only;omega)) (by kernel_rfl) rfl rfl ?_)
  refine⟨rfl,fun _=>rfl,fun _ _=>rfl,T5 (fun h=>by cases h) fun _=>?_⟩
  exact⟨fun _=>by omega,i+1,jn rfl (by simp only[k1F,eG];rfl) rfl rfl,au,mlt au⟩
 ·have he:i=l.length:=by have:=adA h;omega
  subst he
  exact ext (by kernel_rfl) rfl rfl
theorem Nv(rc:RC)(l:List Lt)(n:Int)(hl:∀x∈l,az x=true)(AR:l.length<=5000)(hn:0<=n/\n<=1099511627776)(hk:DU l (cu n l))
 (hY:∀(z:ZZ) (x:Lt) (b:Bool),lB z.1->lB z.2->0<=x.n/\x.n<=1099511627776->dQ Tryz.prog [cH (aA x),.dv (B b)] 5 (Av 0 rc z) 0 fun r k=>r=[.dv (B true)]/\k=Av 1 rc (gA z (x,b))):aj Tryz.prog 276 [.eN 0,.ptr 3 0,.ptr 4 0] 7 (k0F rc l n) 2 [] (k1F rc l n 1 l.length):=by
 have h1:=abj rc l n hl AR hn hk hY
 have h2:=cU 8 (K0:=k2F rc l n) h1 ⟨⟨_,rfl,rfl,fun j hj=>(by match j,hj with|0,_=>exact .refl _|1,_=>exact .refl _|2,_=>exact .cells (.sH .nil)|3,_=>exact .refl _|4,_=>exact .refl _|5,_=>exact .refl _|6,_=>exact .refl _|7,_=>exact .refl _|j+9,_=>exact .refl _)⟩,jl.refl _ _ _ _⟩
 have h3:=cU 7 (K0:=k3F rc l n) h2 ⟨⟨_,rfl,rfl,fun j hj=>(by match j,hj with|0,_=>exact .refl _|1,_=>exact .cells (.sH .nil)|2,_=>exact .refl _|3,_=>exact .refl _|4,_=>exact .refl _|5,_=>exact .refl _|6,_=>exact .refl _|8,_=>exact .refl _|j+9,_=>exact .refl _)⟩,jl.refl _ _ _ _⟩
 have h4:=jE (K2:=k4F rc l n) (args2:=[.eN 0,.ptr 3 0,.ptr 4 0]) h3 rfl rfl (fun j hj=>(by match j,hj with|0,_=>exact .inl ⟨rfl,rfl⟩|1,_=>exact .inl ⟨rfl,rfl⟩|2,_=>exact .inr ⟨_,_,rfl,rfl,.born .nil⟩|3,_=>exact .inl ⟨rfl,rfl⟩|4,_=>exact .inl ⟨rfl,rfl⟩|5,_=>exact .inl ⟨rfl,rfl⟩|6,_=>exact .inl ⟨rfl,rfl⟩|7,_=>exact .inl ⟨rfl,rfl⟩|j+9,_=>exact .inl ⟨rfl,rfl⟩)) (.same _ rfl (.same _ rfl (.same _ rfl .nil)))
 exact jE (K2:=k0F rc l n) (args2:=[.eN 0,.ptr 3 0,.ptr 4 0]) h4 rfl rfl (fun j hj=>(by match j,hj with|0,_=>exact .inl ⟨rfl,rfl⟩|1,_=>exact .inr ⟨_,_,rfl,rfl,.born .nil⟩|2,_=>exact .inl ⟨rfl,rfl⟩|3,_=>exact .inl ⟨rfl,rfl⟩|4,_=>exact .inl ⟨rfl,rfl⟩|5,_=>exact .inl ⟨rfl,rfl⟩|6,_=>exact .inl ⟨rfl,rfl⟩|j+8,_=>exact .inl ⟨rfl,rfl⟩)) (.same _ rfl (.same _ rfl (.same _ rfl .nil)))
theorem AS(l:List Lt)(n:Int):aj Tryz.prog 266 [.dv (aM l),.fn 260 [.ptr 0 0,.ptr 1 0]] 2 [(0,.cells [.dv (I n)]),(1,.cells [.dv (aM l)])] 2 [.fn 276 [.ptr 2 0,.ptr 3 0]] [(0,.cells [.dv (I n)]),(1,.cells [.dv (aM l)]),(2,.cells [.dv (aM l)]),(3,.cells [.fn 260 [.ptr 0 0,.ptr 1 0]])]:=by
 refine cO Tryz.func266 rfl (by kernel_rfl) ?_
 exact ext (by kernel_rfl) rfl rfl
theorem JI(l:List Lt)(n:Int)(hl:∀x∈l,az x=true)(AR:l.length<=5000)(hn:0<=n/\n<=1099511627776)(hk:DU l (cu n l)):aj Tryz.prog 251 [.dv (aM l),.fn 260 [.ptr 0 0,.ptr 1 0]] 2 [(0,.cells [.dv (I n)]),(1,.cells [.dv (aM l)])] 0 [.dv (aM (mA l (cu n l) l.length).1),.dv (aM (mA l (cu n l) l.length).2)] [(0,.cells [.dv (I (n-((cu n l).take l.length).sum))]),(1,.cells [.dv (aM l)])]:=by
 refine cO Tryz.func251 rfl (by kernel_rfl) ?_
 have hi:=Nv (Au Tryz.f251) l n hl AR hn hk fun z x b a1 a2 a3=>zG z x b a1 a2 a3
 refine .inr (cl [0,1] (AS l n) (by kernel_rfl) rfl rfl ?_)
 refine⟨Au Tryz.f251,by kernel_rfl,?_⟩
 refine⟨[6,2,3,4,5,0,1],[.eN 0,.ptr 3 0,.ptr 4 0],k0F (Au Tryz.f251) l n,2,_,hi,by kernel_rfl,⟨rfl,rfl,rfl,tv⟩,⟨⟨rfl,rfl,?_⟩,⟨rf,tv⟩,⟨rf,tv⟩,⟨rf,tv⟩,⟨⟨rfl,rfl,rfl,tv⟩,tv⟩,⟨aJ (by simp),tv⟩,⟨rf,tv⟩,tv⟩,?_⟩
 ·exact kZ (by kernel_rfl)
 rintro rs K2 ⟨rfl,rfl⟩
 refine⟨by kernel_rfl,?_⟩
 conv=>whnf
 exact⟨by kernel_rfl,_,_,⟨rfl,rfl⟩,by kernel_rfl,⟨su _,su _,tv⟩,⟨rf,tv⟩,⟨rf,tv⟩,tv⟩
def k1S(rc:RC)(l:List Lt)(ks:List Int)(v i:Nat):ae:=[(0,.dr rc .ready (((List.replicate 22 .any).set 4 (.ptr 1 0)).set 5 (.ptr 2 0))),(1,.cells [.own 6 v 0 []]),(2,.cells [.own 7 v 0 []]),(3,.cells [.dv (aM l)]),(4,.cells [.fn 250 [.ptr 5 0]]),(5,.cells [.dv (Ints ks)]),(6,.tree v 0 (.aD 3 ((mA l (ks) i).1.map aA))),(7,.tree v 0 (.aD 3 ((mA l (ks) i).2.map aA)))]
def k2S(rc:RC)(l:List Lt)(ks:List Int):ae:=[(0,.dr rc .ready (((List.replicate 22 .any).set 4 (.ptr 1 0)).set 5 (.ptr 2 0))),(1,.cells [.own 6 1 0 []]),(2,.cells [.own 7 0 0 []]),(3,.cells [.dv (aM l)]),(4,.cells [.fn 250 [.ptr 5 0]]),(5,.cells [.dv (Ints ks)]),(6,.tree 1 0 (.aD 3 [])),(7,.tree 0 0 (.aD 3 []))]
def k3S(rc:RC)(l:List Lt)(ks:List Int):ae:=[(0,.dr rc .ready (((List.replicate 22 .any).set 4 (.ptr 1 0)).set 5 (.ptr 2 0))),(1,.cells [.own 6 0 0 []]),(2,.cells [.own 7 0 0 []]),(3,.cells [.dv (aM l)]),(4,.cells [.fn 250 [.ptr 5 0]]),(5,.cells [.dv (Ints ks)]),(6,.tree 0 0 (.aD 3 [])),(7,.tree 0 0 (.aD 3 []))]
def k4S(rc:RC)(l:List Lt)(ks:List Int):ae:=[(0,.dr rc .ready (((List.replicate 22 .any).set 4 (.ptr 1 0)).set 5 (.ptr 2 0))),(1,.cells [.own 6 0 0 []]),(2,.cells [.dv .ax]),(3,.cells [.dv (aM l)]),(4,.cells [.fn 250 [.ptr 5 0]]),(5,.cells [.dv (Ints ks)]),(6,.tree 0 0 (.aD 3 []))]
def k0S(rc:RC)(l:List Lt)(ks:List Int):ae:=[(0,.dr rc .ready (((List.replicate 22 .any).set 4 (.ptr 1 0)).set 5 (.ptr 2 0))),(1,.cells [.dv .ax]),(2,.cells [.dv .ax]),(3,.cells [.dv (aM l)]),(4,.cells [.fn 250 [.ptr 5 0]]),(5,.cells [.dv (Ints ks)])]
theorem abk(rc:RC)(l:List Lt)(ks:List Int)(hl:∀x∈l,az x=true)(AR:l.length<=5000)(hk:DU l (ks))
 (hY:∀(z:ZZ) (x:Lt) (b:Bool),lB z.1->lB z.2->0<=x.n/\x.n<=1099511627776->dQ Tryz.prog [cH (aA x),.dv (B b)] 5 (Av 0 rc z) 0 fun r k=>r=[.dv (B true)]/\k=Av 1 rc (gA z (x,b))):aj Tryz.prog 276 [.eN 0,.ptr 3 0,.ptr 4 0] 8 (k1S rc l ks 1 0) 0 [] (k1S rc l ks 1 l.length):=by
 refine cO Tryz.func276 rfl (by kernel_rfl) ?_
 have ll:(l.map aA).length=l.length:=WY ..
 refine⟨Nat,fun i=>⟨8,[(0,.eN 0),(1,.ptr 3 0),(2,.ptr 4 0),(7,.dv (aM l)),(8,.dv (I l.length)),(9,.dv (I i))],k1S rc l ks 1 i⟩,fun i=>i<=l.length,fun i=>l.length-i,0,fun _=>rfl,jn (by simp only[ll];rfl) rfl rfl rfl,adx _,?_⟩
 rintro i hi
 refine T5 (fun h=>?_) fun h=>?_
 ·have au:i<l.length:=by have:=adz h;omega
  obtain⟨x,hx⟩:∃x,l[i]?=some x:=⟨_,IF au⟩
  have ix:(l.map aA)[(i:Int).toNat]?=some (aA x):=by rw[abW];simp[hx]
  have Dn:=ai.1 (hl x (ab6 hx))
  obtain⟨k,qM,SH,hk3⟩:=hk i x hx
  obtain⟨z1,z2,z3,z4⟩:=JH hl hk i hi
  have eG:=zH hx qM
  have jI:=B5 z1 z3 (by omega)
  have cx:=B5 z2 z4 (by omega)
  have A5:lB (gA (mA l (ks) i) (⟨x.f,x.a,k⟩,true)).1:=B5 (n:=i+1) (iJ z1 (by dsimp only;omega)) (Nat.le_trans (fh (mA l (ks) i).1 ⟨x.f,x.a,k⟩) (by omega)) (by omega)
  refine⟨aA x,fun _=>⟨by omega,ix⟩,?_⟩
  refine .inr (cl [5] (Uz ks i k qM) (by kernel_rfl) rfl rfl ?_)
  refine .inl (Us [0,1,2,6,7] (hY (mA l (ks) i) ⟨x.f,x.a,k⟩ true jI cx (by dsimp only;omega)) (by kernel_rfl) rfl rfl ?_)
  repeat refine gG ?_
  refine⟨fun _=>by omega,?_⟩
  repeat refine gG ?_
  refine⟨fun _=>by omega,?_⟩
  repeat refine gG ?_
  refine .inl (Us [0,1,2,6,7] (hY (gA (mA l (ks) i) (⟨x.f,x.a,k⟩,true)) ⟨x.f,x.a+k,x.n-k⟩ false A5 cx (by dsimp only;omega)) (by kernel_rfl) rfl rfl ?_)
  refine⟨rfl,fun _=>rfl,fun _ _=>rfl,T5 (fun h=>by cases h) fun _=>?_⟩
  exact⟨fun _=>by omega,i+1,jn rfl (by simp only[k1S,eG];rfl) rfl rfl,au,mlt au⟩
 ·have he:i=l.length:=by have:=adA h;omega
  subst he
  exact ext (by kernel_rfl) rfl rfl
theorem Nw(rc:RC)(l:List Lt)(ks:List Int)(hl:∀x∈l,az x=true)(AR:l.length<=5000)(hk:DU l (ks))
 (hY:∀(z:ZZ) (x:Lt) (b:Bool),lB z.1->lB z.2->0<=x.n/\x.n<=1099511627776->dQ Tryz.prog [cH (aA x),.dv (B b)] 5 (Av 0 rc z) 0 fun r k=>r=[.dv (B true)]/\k=Av 1 rc (gA z (x,b))):aj Tryz.prog 276 [.eN 0,.ptr 3 0,.ptr 4 0] 6 (k0S rc l ks) 2 [] (k1S rc l ks 1 l.length):=by
 have h1:=abk rc l ks hl AR hk hY
 have h2:=cU 7 (K0:=k2S rc l ks) h1 ⟨⟨_,rfl,rfl,fun j hj=>(by match j,hj with|0,_=>exact .refl _|1,_=>exact .refl _|2,_=>exact .cells (.sH .nil)|3,_=>exact .refl _|4,_=>exact .refl _|5,_=>exact .refl _|6,_=>exact .refl _|j+8,_=>exact .refl _)⟩,jl.refl _ _ _ _⟩
 have h3:=cU 6 (K0:=k3S rc l ks) h2 ⟨⟨_,rfl,rfl,fun j hj=>(by match j,hj with|0,_=>exact .refl _|1,_=>exact .cells (.sH .nil)|2,_=>exact .refl _|3,_=>exact .refl _|4,_=>exact .refl _|5,_=>exact .refl _|7,_=>exact .refl _|j+8,_=>exact .refl _)⟩,jl.refl _ _ _ _⟩
 have h4:=jE (K2:=k4S rc l ks) (args2:=[.eN 0,.ptr 3 0,.ptr 4 0]) h3 rfl rfl (fun j hj=>(by match j,hj with|0,_=>exact .inl ⟨rfl,rfl⟩|1,_=>exact .inl ⟨rfl,rfl⟩|2,_=>exact .inr ⟨_,_,rfl,rfl,.born .nil⟩|3,_=>exact .inl ⟨rfl,rfl⟩|4,_=>exact .inl ⟨rfl,rfl⟩|5,_=>exact .inl ⟨rfl,rfl⟩|6,_=>exact .inl ⟨rfl,rfl⟩|j+8,_=>exact .inl ⟨rfl,rfl⟩)) (.same _ rfl (.same _ rfl (.same _ rfl .nil)))
 exact jE (K2:=k0S rc l ks) (args2:=[.eN 0,.ptr 3 0,.ptr 4 0]) h4 rfl rfl (fun j hj=>(by match j,hj with|0,_=>exact .inl ⟨rfl,rfl⟩|1,_=>exact .inr ⟨_,_,rfl,rfl,.born .nil⟩|2,_=>exact .inl ⟨rfl,rfl⟩|3,_=>exact .inl ⟨rfl,rfl⟩|4,_=>exact .inl ⟨rfl,rfl⟩|5,_=>exact .inl ⟨rfl,rfl⟩|j+7,_=>exact .inl ⟨rfl,rfl⟩)) (.same _ rfl (.same _ rfl (.same _ rfl .nil)))
theorem AT(l:List Lt)(ks:List Int):aj Tryz.prog 266 [.dv (aM l),.fn 250 [.ptr 0 0]] 1 [(0,.cells [.dv (Ints ks)])] 2 [.fn 276 [.ptr 1 0,.ptr 2 0]] [(0,.cells [.dv (Ints ks)]),(1,.cells [.dv (aM l)]),(2,.cells [.fn 250 [.ptr 0 0]])]:=by
 refine cO Tryz.func266 rfl (by kernel_rfl) ?_
 exact ext (by kernel_rfl) rfl rfl
theorem JJ(l:List Lt)(ks:List Int)(hl:∀x∈l,az x=true)(AR:l.length<=5000)(hk:DU l (ks)):aj Tryz.prog 251 [.dv (aM l),.fn 250 [.ptr 0 0]] 1 [(0,.cells [.dv (Ints ks)])] 0 [.dv (aM (mA l (ks) l.length).1),.dv (aM (mA l (ks) l.length).2)] [(0,.cells [.dv (Ints ks)])]:=by
 refine cO Tryz.func251 rfl (by kernel_rfl) ?_
 have hi:=Nw (Au Tryz.f251) l ks hl AR hk fun z x b a1 a2 a3=>zG z x b a1 a2 a3
 refine .inr (cl [0] (AT l ks) (by kernel_rfl) rfl rfl ?_)
 refine⟨Au Tryz.f251,by kernel_rfl,?_⟩
 refine⟨[5,1,2,3,4,0],[.eN 0,.ptr 3 0,.ptr 4 0],k0S (Au Tryz.f251) l ks,2,_,hi,by kernel_rfl,⟨rfl,rfl,rfl,tv⟩,⟨⟨rfl,rfl,?_⟩,⟨rf,tv⟩,⟨rf,tv⟩,⟨rf,tv⟩,⟨⟨rfl,rfl,tv⟩,tv⟩,⟨rf,tv⟩,tv⟩,?_⟩
 ·exact kZ (by kernel_rfl)
 rintro rs K2 ⟨rfl,rfl⟩
 refine⟨by kernel_rfl,?_⟩
 conv=>whnf
 exact⟨by kernel_rfl,_,_,⟨rfl,rfl⟩,by kernel_rfl,⟨su _,su _,tv⟩,⟨rf,tv⟩,tv⟩
end
section
open Go.TM
variable [bp]
theorem k6(s:List Lt)(x:Lt)(hs:bB s=true)(hx:az x=true):aN Tryz.prog 144 [aM s,aA x] [aM (aR s x)]:=by
 obtain⟨h1,h2⟩:=eU hs
 have Dn:=ai.1 hx
 refine pO Tryz.func144 rfl (by kernel_rfl) rfl ?_
 refine .inl ⟨_,fun _=>(ey s (by omega)).ok,?_⟩
 repeat refine gG ?_
 refine .inl ⟨_,fun _=>(BJ x).ok,?_⟩
 rw[hs,hx]
 repeat refine gG ?_
 refine T5 (fun h=>by cases h) fun _=>?_
 refine .inr (cl [] (eD s (by omega)) (by kernel_rfl) rfl rfl ?_)
 refine .inr (cl [1] (vz s x ⟨by omega,fun y hy=>by have:=ai.1 (h2 y hy);omega⟩ (by omega)) (by kernel_rfl) rfl rfl ?_)
 exact⟨by kernel_rfl,su _,tv⟩
theorem wA(l:List Lt)(n:Int):aj Tryz.prog 248 [.dv (aM l),.dv (I n)] 0 [] 2 [.fn 260 [.ptr 1 0,.ptr 0 0]] [(0,.cells [.dv (aM l)]),(1,.cells [.dv (I n)])]:=by
 refine cO Tryz.func248 rfl (by kernel_rfl) ?_
 exact ext (by kernel_rfl) rfl rfl
theorem GK(s:List Lt)(n:Int)(mx:Bool)(hs:bB s=true)(hn:0<=n/\n<=1099511627776)(hc:br s<n):aN Tryz.prog 236 [aM s,I n,B mx] [aM [],aM [],I 10]:=by
 obtain⟨h1,h2⟩:=eU hs
 refine pO Tryz.func236 rfl (by kernel_rfl) rfl ?_
 refine .inl ⟨_,fun _=>(ey s (by omega)).ok,?_⟩
 rw[hs]
 repeat refine gG ?_
 refine T5 (fun h=>?_) fun _=>?_
 ·simp[bw]at h;omega
 refine .inl ⟨_,fun _=>(jF s (by omega)).ok,?_⟩
 refine T5 (fun _=>?_) fun h=>absurd hc (adA h)
 exact⟨DV.aI 3,DV.aI 3,rf,tv⟩
theorem Yl{s:List Lt}{n:Int}(hs:∀x∈s,az x=true)(hn:0<=n):DU s (cu n s):=fun i x hx=>by
 have h1:=DR s n i x hx
 have h2:=DT s n hn (fun y hy=>by have:=ai.1 (hs y hy);omega) i
 have:=ai.1 (hs x (ab6 hx))
 exact⟨_,h1,by omega,by omega⟩
theorem GL(s:List Lt)(n:Int)(mx:Bool)(hs:bB s=true)(hn:0<=n/\n<=1099511627776)(hc:¬br s<n)(V3:(mx&&decide (0<n))=false):aN Tryz.prog 236 [aM s,I n,B mx] [aM (eP s n mx).1,aM (eP s n mx).2,I 0]:=by
 obtain⟨h1,h2⟩:=eU hs
 have ecn:pg s n mx=cu n s:=by unfold pg;rw[V3];rfl
 refine pO Tryz.func236 rfl (by kernel_rfl) rfl ?_
 refine .inl ⟨_,fun _=>(ey s (by omega)).ok,?_⟩
 rw[hs]
 repeat refine gG ?_
 refine T5 (fun h=>?_) fun _=>?_
 ·simp[bw]at h;omega
 refine .inl ⟨_,fun _=>(jF s (by omega)).ok,?_⟩
 refine T5 (fun h=>absurd (adz h) hc) fun _=>?_
 refine .inr (cl [] (wA s n) (by kernel_rfl) rfl rfl ?_)
 repeat refine gG ?_
 refine T5 (fun h=>?_) fun _=>?_
 ·have h:=c6 h
  rw[h.1]at V3
  have:=h.2
  rw[this]at V3;cases V3
 have hd:=JI s n h2 (by omega) hn (Yl h2 hn.1)
 refine .inr (cl [1,0] hd (by kernel_rfl) rfl rfl ?_)
 unfold eP
 rw[ecn]
 exact⟨rf,rf,rf,tv⟩
def w8(l:List Int)(i:Nat):List Int:=l.take i++List.replicate (l.length-i) 0
theorem Q7(l:List Int)(i:Nat)(h:i<=l.length):(w8 l i).length=l.length:=by simp[w8];omega
theorem Nx{l:List Int}{i:Nat}{x:Int}(h:l[i]?=some x):(w8 l i).set i x=w8 l (i+1):=by
 have hi:=(W8.1 h).1
 unfold w8
 have:l.length-i=(l.length-(i+1))+1:=by omega
 rw[List.set_append,if_neg (by rw[adD];omega),ads,h,this,List.replicate_succ]
 simp[Nat.min_eq_left (Nat.le_of_lt hi)]
theorem Q8{l:List Int}{i:Nat}(h:i<l.length):(w8 l i)[i]?=some 0:=by
 unfold w8
 rw[List.getElem?_append_right (by rw[adD];omega),List.getElem?_replicate,if_pos (by simp;omega)]
theorem LO(l:List Int):(pk (.aD 1 (l.map I))).Le (Ints l):=DV.Le.of_eq (by
 show DV.sl 1 (xx (l.map I))=_
 rw[fT (fun _=>rfl)])
theorem Ym{s:List Lt}{n:Int}(hs:∀x∈s,az x=true)(hn:0<=n)(Yn:0<(s.map (·.n)).sum)(hle:n<=(s.map (·.n)).sum):DU s (Ar n (s.map (·.n))):=fun i x hx=>by
 have hi:i<(s.map (·.n)).length:=by rw[WY];exact(W8.1 hx).1
 have hb:=VP hn (fun w hw=>by obtain⟨y,hy,rfl⟩:=adK.1 hw;have:=ai.1 (hs y hy);omega) Yn hle hi
 have hl:i<(Ar n (s.map (·.n))).length:=by rw[Lm];exact hi
 have VZ:(s.map (·.n)).getD i 0=x.n:=by rw[acb,abW,hx];rfl
 rw[VZ]at hb
 generalize Ar n (s.map (·.n))=ks at*
 refine⟨ks.getD i 0,?_,hb.1,hb.2⟩
 rw[acb,IF hl];rfl
theorem GM(s:List Lt)(n:Int)(hs:bB s=true)(hn:0<n/\n<=1099511627776)(hc:¬br s<n)(jv:aN Tryz.prog 249 [I n,Ints (s.map (·.n))] [Ints (Ar n (s.map (·.n))),I 0]):aN Tryz.prog 236 [aM s,I n,B true] [aM (eP s n true).1,aM (eP s n true).2,I 0]:=by
 obtain⟨h1,h2⟩:=eU hs
 have HV:br s=(s.map (·.n)).sum:=by unfold br;rw[hs];rfl
 have ecn:pg s n true=Ar n (s.map (·.n)):=by unfold pg;rw[adF hn.1];rfl
 have ll:(s.map aA).length=s.length:=WY ..
 have lw:(s.map (·.n)).length=s.length:=WY ..
 refine pO Tryz.func236 rfl (by kernel_rfl) rfl ?_
 refine .inl ⟨_,fun _=>(ey s (by omega)).ok,?_⟩
 rw[hs]
 repeat refine gG ?_
 refine T5 (fun h=>?_) fun _=>?_
 ·simp[bw]at h;omega
 refine .inl ⟨_,fun _=>(jF s (by omega)).ok,?_⟩
 refine T5 (fun h=>absurd (adz h) hc) fun _=>?_
 refine .inr (cl [] (wA s n) (by kernel_rfl) rfl rfl ?_)
 repeat refine gG ?_
 refine T5 (fun _=>?_) fun h=>?_
 ·refine⟨I 0,⟨rf,tv⟩,by omega,by omega,?_,by omega,false,(fun h=>by cases h),?_⟩
  ·rw[show(nth kp (nth kp 22).elem).bytes=8 by kernel_rfl];omega
  have e0:List.replicate (((s.map aA).length:Int)).toNat (I 0)=(w8 (s.map (·.n)) 0).map I:=by unfold w8;simp
  rw[e0]
  refine⟨Nat,fun i=>⟨3,[(0,.dv (aM s)),(1,.dv (I n)),(10,.own 2 0 0 []),(43,.dv (aM s)),(44,.dv (I s.length)),(45,.dv (I i))],[(2,.tree 0 0 (.aD 1 ((w8 (s.map (·.n)) i).map I)))]⟩,fun i=>i<=s.length,fun i=>s.length-i,0,fun _=>rfl,jn (by simp only[ll];rfl) rfl rfl rfl,adx _,?_⟩
  rintro i hi
  refine T5 (fun h=>?_) fun h=>?_
  ·have au:i<s.length:=by have:=adz h;omega
   obtain⟨x,hx⟩:∃x,s[i]?=some x:=⟨_,IF au⟩
   have ix:(s.map aA)[(i:Int).toNat]?=some (aA x):=by rw[abW];simp[hx]
   have hwx:(s.map (·.n))[i]?=some x.n:=by rw[abW,hx];rfl
   have eG:=Nx hwx
   have kP:=Q7 (s.map (·.n)) i (by omega)
   refine⟨aA x,fun _=>⟨by omega,ix⟩,?_⟩
   refine⟨fun _=>⟨by omega,by rw[WY,kP,lw];omega⟩,[I x.n],⟨rf,tv⟩,I 0,by rw[abW];simp[Q8 (show i<(s.map (·.n)).length by rw[lw];exact au)],?_⟩
   exact⟨fun _=>by omega,i+1,jn rfl (by simp only[<-eG,List.map_set];rfl) rfl rfl,au,mlt au⟩
  ·have he:i=s.length:=by have:=adA h;omega
   subst he
   have GF:w8 (s.map (·.n)) s.length=s.map (·.n):=by unfold w8;rw[<-lw,ady];simp
   rw[GF]
   refine .inl (.inr ⟨_,fun _=>⟨[I n,Ints (s.map (·.n))],⟨rf,LO _,tv⟩,jv⟩,?_⟩)
   refine T5 (fun h=>by cases h) fun _=>?_
   have hd:=JJ s (Ar n (s.map (·.n))) h2 (by omega) (Ym h2 (by omega) (by omega) (by omega))
   refine .inr (cl [3] hd (by kernel_rfl) rfl rfl ?_)
   unfold eP
   rw[ecn]
   exact⟨rf,rf,rf,tv⟩
 ·exact absurd ⟨rfl,adF hn.1⟩ (lM h)
def ou:Prop:=∀(t:Int) (ws:List Int),0<=t/\t<=1099511627776->(∀w∈ws,0<=w/\w<=1099511627776)->ws.length<=5000->0<ws.sum->t<=ws.sum->aN Tryz.prog 249 [I t,Ints ws] [Ints (Ar t ws),I 0]
theorem zI(hS:ou)(s:List Lt)(n:Int)(mx:Bool)(hn:0<=n/\n<=1099511627776)(hs:bB s=true):aN Tryz.prog 236 [aM s,I n,B mx] (Gc s n mx):=by
 unfold Gc
 by_cases hc:br s<n
 ·rw[adF hc];exact GK s n mx hs hn hc
 ·rw[adG hc]
  cases V3:mx&&decide (0<n)with
  |false=>exact GL s n mx hs hn hc V3
  |true=>
   simp only[adT,decide_eq_true_eq]at V3
   obtain⟨rfl,Nt⟩:=V3
   obtain⟨h1,h2⟩:=eU hs
   have HV:br s=(s.map (·.n)).sum:=by unfold br;rw[hs];rfl
   exact GM s n hs ⟨Nt,hn.2⟩ hc (hS n _ hn (fun w hw=>by obtain⟨y,hy,rfl⟩:=adK.1 hw;exact j5 (h2 y hy)) (by rw[WY];omega) (by omega) (by omega))
end
end Go.Proofs.YtmojfblpbcficaaGreatDoor
