import Derived.Test.YtfpebgpgabjieaaGreatDoorHM28
import Derived.Test.YtfpebgpgabjieaaGreatDoorHM30
import Derived.Test.YtfpebgpgabjieaaGreatDoorHM19
import Derived.Test.YtfpebgpgabjieaaGreatDoorHM26
import Derived.Test.YtfpebgpgabjieaaGreatDoorHM17
import Derived.Test.YtfpebgpgabjieaaGreatDoorHM25
set_option linter.all false
open Go.TM.oA Go.TM.oB Go.TM.oC Go.TM.oD Go.TM.oE
namespace Go.Proofs.YtfpebgpgabjieaaGreatDoor
set_option maxRecDepth 100000
set_option maxHeartbeats 4000000
section
open Go.TM
def mK(l:List It):ae:=[(0,.cells (.dv (I 0)::fp (bK l).cells++[.own 1 0 0 [],.own 2 0 0 [],.dv .aH,.dv .aH,.own 3 0 0 [],.own 4 0 0 []])),(1,.tree 0 0 (.omap eZ [])),(2,.tree 0 0 (.omap cS [])),(3,.tree 0 0 (.omap cS [])),(4,.tree 0 0 (.omap cS []))]
def aa6(sh:Int)(l:List It):ae:=[(1,.tree 0 0 (.omap eZ [])),(2,.tree 0 0 (.omap cS [])),(3,.tree 0 0 (.omap cS [])),(4,.tree 0 0 (.omap cS [])),(5,.cells (.dv (I sh)::fp (bK l).cells++[.own 1 0 0 [],.own 2 0 0 [],.dv .aH,.dv .aH,.own 3 0 0 [],.own 4 0 0 []]))]
def aa7(x y:It):Bool:=bif (bif (bif !(x.nm.toList==y.nm.toList)then true else !(x.ob==y.ob))then true else !(x.mx==y.mx))then true else !(x.co==y.co)
def y9(x y:It):Bool:=!decide (x.nm=y.nm)||(!(x.ob==y.ob)||(!(x.mx==y.mx)|| !(x.co==y.co)))
theorem Kz(x y:It):aa7 x y=y9 x y:=by
 unfold aa7 y9
 rw[show(x.nm.toList==y.nm.toList)=decide (x.nm=y.nm)by rw[adO,Ke,decide_eq_true_eq]]
 cases decide (x.nm=y.nm)<;>cases x.ob==y.ob<;>cases x.mx==y.mx<;>rfl
def wA(l:List It)(v:Int):Int:=if v≠0 then v else if l.length<5 then 9 else if((List.range 5).any fun i=>y9 (l.getD i (dV ⟨#[]⟩)) (aj.getD i (dV ⟨#[]⟩)))=true then 9 else 0
variable [aW]
theorem gE(sh:Int)(l:List It)(h:¬(0<=sh/\sh<=11)):ai Tryz.prog 21 [I sh,bK l] [.eJ,I 1]:=by
 refine pO Tryz.func21 rfl (by kernel_rfl) rfl ?_
 repeat refine gG ?_
 refine adh (fun _=>?_) fun hc=>?_
 ·exact⟨rf,rf,tv⟩
 ·exfalso
  simp only[cond_eq_ite]at hc
  split at hc
  ·cases hc
  ·rename_i h1
   have h1:=adA (Bool.eq_false_iff.2 h1)
   have h2:=adA hc
   omega
theorem qz(sh:Int)(l:List It)(v:Int)(h:0<=sh/\sh<=11)(hv:ai Tryz.prog 63 [bK l] [I v])(h0:v≠0):ai Tryz.prog 21 [I sh,bK l] [.eJ,I v]:=by
 refine pO Tryz.func21 rfl (by kernel_rfl) rfl ?_
 repeat refine gG ?_
 refine adh (fun hc=>?_) fun _=>?_
 ·simp at hc;omega
 refine .inl ⟨_,fun _=>hv.ok,?_⟩
 refine adh (fun _=>?_) fun hc=>?_
 ·exact⟨rf,rf,tv⟩
 ·exact absurd (show v=0 by simpa using hc) h0
theorem bV(sh:Int)(l:List It)(h:0<=sh/\sh<=11)(hv:ai Tryz.prog 63 [bK l] [I 0])(hc:ai Tryz.prog 64 [bK l] [bK l]):aw Tryz.prog 21 [.dv (I sh),cP (bK l)] 0 [] 6 [.ptr 5 0,.dv (I 0)] (aa6 sh l):=by
 refine cO Tryz.func21 rfl (by kernel_rfl) ?_
 repeat refine gG ?_
 refine adh (fun hc=>?_) fun _=>?_
 ·simp[bw]at hc;omega
 refine .inl ⟨_,fun _=>hv.ok,?_⟩
 refine adh (fun h=>by cases h) fun _=>?_
 refine .inl ⟨_,fun _=>hc.ok,?_⟩
 refine⟨eZ,cS,cS,cS,?_⟩
 exact ext (by kernel_rfl) rfl rfl
theorem cJ(l:List It)(hc:ai Tryz.prog 64 [bK l] [bK l]):aw Tryz.prog 24 [.ptr 0 0] 5 (mK l) 0 [cP (bK l)] (mK l):=by
 refine cO Tryz.func24 rfl (by kernel_rfl) ?_
 refine .inl ⟨_,fun _=>hc.ok,?_⟩
 exact ext (by kernel_rfl) rfl rfl
theorem eG(l:List It)(v:Int)(hl:l.length<=10)(hv:ai Tryz.prog 63 [bK l] [I v])(hc:v=0->ai Tryz.prog 64 [bK l] [bK l]):aw Tryz.prog 22 [.ptr 0 0,cP (bK l)] 5 (mK aj) 0 [.dv (I (wA l v))] (if wA l v=0 then mK l else mK aj):=by
 have ll:(l.map fT).length=l.length:=adi ..
 obtain⟨R,hR⟩:∃R,wA l v=R:=⟨_,rfl⟩
 rw[hR]
 unfold wA at hR
 refine cO Tryz.func22 rfl (by kernel_rfl) ?_
 refine .inl ⟨_,fun _=>hv.ok,?_⟩
 refine adh (fun h=>?_) fun h=>?_
 ·have h0:v≠0:=by simpa using h
  rw[if_pos h0]at hR
  subst hR
  rw[if_neg h0]
  exact ext (by kernel_rfl) rfl rfl
 ·have h0:v=0:=by simpa using h
  rw[if_neg (by omega)]at hR
  subst h0
  have h5:(aj.map fT).length=5:=rfl
  refine⟨by kernel_rfl,adh (fun h=>?_) fun h=>?_⟩
  ·have h2:l.length<5:=by have:=adz h;rw[ll,h5]at this;omega
   rw[if_pos h2]at hR
   subst hR
   exact ext (by kernel_rfl) rfl rfl
  ·have h2:¬l.length<5:=by have:=adA h;rw[ll,h5]at this;omega
   rw[if_neg h2]at hR
   clear h
   refine⟨Nat,fun i=>⟨6,[(0,.ptr 0 0),(3,.ptr 5 0),(28,.dv (.sl 7 (aj.map fT))),(29,.dv (I 5)),(30,.dv (I i))],mK aj++[(5,.cells (fp (bK l).cells))]⟩,fun i=>i<=5/\((List.range i).any fun i=>y9 (l.getD i (dV ⟨#[]⟩)) (aj.getD i (dV ⟨#[]⟩)))=false,fun i=>5-i,0,fun _=>rfl,jn rfl rfl rfl rfl,⟨adx _,rfl⟩,?_⟩
   rintro i ⟨hi,h0⟩
   refine adh (fun h=>?_) fun h=>?_
   ·have aB:i<5:=by have h2:=adz h;have:(i:Int)<5:=h2;omega
    clear h
    obtain⟨x,hx⟩:∃x,l[i]?=some x:=⟨_,abK (by omega)⟩
    obtain⟨y,hy⟩:∃x,aj[i]?=some x:=⟨_,abK aB⟩
    have ix:(l.map fT)[(i:Int).toNat]?=some (fT x):=by rw[adk];simp[hx]
    have iy:(aj.map fT)[(i:Int).toNat]?=some (fT y):=by rw[adk];simp[hy]
    have hg:y9 (l.getD i (dV ⟨#[]⟩)) (aj.getD i (dV ⟨#[]⟩))=y9 x y:=by
     rw[adn,adn,hx,hy];rfl
    have hn:((List.range (i+1)).any fun i=>y9 (l.getD i (dV ⟨#[]⟩)) (aj.getD i (dV ⟨#[]⟩)))=y9 x y:=by
     rw[List.range_succ,List.any_append,h0];simp only[List.any_cons,List.any_nil,Bool.or_false,Bool.false_or];exact hg
    refine⟨_,fun _=>⟨by omega,iy⟩,_,fun _=>⟨by omega,ix⟩,?_⟩
    repeat refine gG ?_
    refine adh (fun h=>?_) fun h=>?_
    ·have hm:y9 x y=true:=(Kz x y).symm.trans h
     have:((List.range 5).any fun i=>y9 (l.getD i (dV ⟨#[]⟩)) (aj.getD i (dV ⟨#[]⟩)))=true:=List.any_eq_true.2 ⟨i,adL.2 aB,hg.trans hm⟩
     rw[if_pos this]at hR
     subst hR
     exact ext (by kernel_rfl) rfl rfl
    ·have hm:y9 x y=false:=(Kz x y).symm.trans h
     exact⟨fun _=>by omega,i+1,jn rfl rfl rfl rfl,⟨aB,hn.trans hm⟩,by dsimp only;omega⟩
   ·have he:i=5:=by have h2:=adA h;have:¬(i:Int)<5:=h2;omega
    subst he
    rw[if_neg (by rw[h0];decide)]at hR
    subst hR
    refine .inl ⟨_,fun _=>(hc rfl).ok,?_⟩
    rw[if_pos rfl]
    exact ext (by kernel_rfl) rfl rfl
theorem QC(l:List It)(hl:l.length<=100):ai Tryz.prog 65 [.sl 7 (l.map fT),.sl 7 (l.map fT)] [B true]:=by
 have ll:(l.map fT).length=l.length:=adi ..
 refine pO Tryz.func65 rfl (by kernel_rfl) rfl ?_
 refine adh (fun h=>by simp at h) fun _=>?_
 refine⟨Nat,fun i=>⟨0,[(0,.dv (.sl 7 (l.map fT))),(1,.dv (.sl 7 (l.map fT))),(12,.dv (I l.length)),(13,.dv (I i))],[]⟩,fun i=>i<=l.length,fun i=>l.length-i,0,fun _=>rfl,jn (by simp only[ll];rfl) rfl rfl rfl,adx _,?_⟩
 intro i hi
 refine adh (fun h=>?_) fun h=>?_
 ·have aB:i<l.length:=by have:=adz h;omega
  obtain⟨x,hx⟩:∃x,l[i]?=some x:=⟨_,abK aB⟩
  have ix:(l.map fT)[(i:Int).toNat]?=some (fT x):=by rw[adk];simp[hx]
  refine⟨_,fun _=>⟨by omega,ix⟩,_,fun _=>⟨by omega,ix⟩,?_⟩
  refine⟨by kernel_rfl,adh (fun h=>?_) fun _=>?_⟩
  ·exfalso
   simp at h
  ·exact⟨fun _=>by omega,i+1,jn rfl rfl rfl rfl,aB,mlt aB⟩
 ·exact⟨rf,tv⟩
theorem QD:ai Tryz.prog 66 [eN,eN,.fn 67 []] [B true]:=ar (pol:=dB) (fuel:=1000) aG mixed az (by kernel_rfl)
theorem QE:ai Tryz.prog 68 [iE,iE,.fn 69 []] [B true]:=ar (pol:=dB) (fuel:=1000) aG mixed az (by kernel_rfl)
theorem QF:ai Tryz.prog 73 [fc,fc,.fn 74 []] [B true]:=ar (pol:=dB) (fuel:=1000) aG mixed az (by kernel_rfl)
theorem cd(l:List It)(hl:l.length<=100):aw Tryz.prog 23 [cP (bK l),cP (bK l)] 0 [] 0 [.dv (B true)] []:=by
 refine cO Tryz.func23 rfl (by kernel_rfl) ?_
 refine .inl ⟨_,fun _=>(QC l hl).ok,?_⟩
 repeat refine gG ?_
 refine .inl ⟨_,fun _=>QD.ok,?_⟩
 repeat refine gG ?_
 refine .inl ⟨_,fun _=>QE.ok,?_⟩
 repeat refine gG ?_
 refine .inl ⟨_,fun _=>QF.ok,?_⟩
 repeat refine gG ?_
 exact ext (by kernel_rfl) rfl rfl
end
section
open Go.TM
theorem KA:∀(l:List Int) (i:Nat),i<l.length->(kE l i).sum=l.sum+1
 |a::l,0,_=>by simp[kE];omega
 |a::l,i+1,h=>by
  have:=KA l i (by simpa using h)
  unfold kE at*
  simp only[List.set_cons_succ,List.sum_cons,List.getD_cons_succ]
  omega
theorem F2:∀(o:List Nat) (l:List Int),(∀i∈o,i<l.length)->(o.foldl kE l).sum=l.sum+o.length
 |[],l,_=>by simp
 |i::o,l,h=>by
  rw[List.foldl_cons,F2 o _ fun k hk=>by rw[wT];exact h k (adq _ hk),KA l i (h i adu),List.length_cons]
  omega
theorem QG{rs qs:List Int}(hl:qs.length=rs.length){m:Nat}(hm:m<=rs.length):(plus rs qs m).sum=qs.sum+m:=by
 obtain⟨o,ho⟩:=HO rs
 rw[<-yk ho hl m,F2 _ _ fun i hi=>?_,adD,ho.len]
 ·congr 2;omega
 ·have:=ho.perm.mem_iff.1 (List.mem_of_mem_take hi)
  rw[adL]at this;omega
theorem UP{t:Int}{ws:List Int}(hs:0<ws.sum):(zL t ws).sum=t:=by
 have h:=wU (t:=t) hs
 have hc:(rL t ws.sum ws).countP (fun x=>decide (0<x))<=(rL t ws.sum ws).length:=List.countP_le_length
 unfold zL
 rw[QG (by simp[qL,rL]) (by omega)]
 have:(((gf t ws.sum ws).toNat:Nat):Int)=gf t ws.sum ws:=by omega
 rw[this]
 unfold gf;omega
theorem QH{s:List Lt}{n:Int}(mx:Bool)(hn:0<=n)(hs:∀x∈s,0<=x.n)(ht:n<=cM s):(pK s n mx).sum=n:=by
 unfold pK
 by_cases h:0<n
 ·cases mx with
  |true=>
   rw[adF h]
   exact UP (show 0<(s.map (·.n)).sum by rw[pL];omega)
  |false=>exact(yA hn hs).2.2 ht
 ·rw[adG h,Bool.and_false]
  exact(yA hn hs).2.2 ht
theorem KB{s:List Lt}{ks:List Int}(hk:ks.length=s.length):∀i,i<=s.length->cM (mi s ks i).1=(ks.take i).sum/\cM (mi s ks i).2=cM (s.take i)-(ks.take i).sum
 |0,_=>by simp[mi,cM]
 |i+1,h=>by
  obtain⟨h1,h2⟩:=KB hk i (by omega)
  obtain⟨x,hx⟩:∃x,s[i]?=some x:=⟨_,abK (show i<s.length by omega)⟩
  obtain⟨k,Fj⟩:∃k,ks[i]?=some k:=⟨_,abK (show i<ks.length by omega)⟩
  rw[yB hx Fj,uM hx,ads,Fj,List.sum_append]
  unfold tkF
  simp only[ye,Option.toList_some,List.sum_cons,List.sum_nil]
  omega
theorem QI{s:List Lt}{n:Int}(mx:Bool)(hn:0<=n)(hs:∀x∈s,aJ x=true)(ht:n<=cM s):cM (fJ s n mx).1=n/\cM (fJ s n mx).2=cM s-n:=by
 have hc:=(wX mx hn hs ht).1
 have h:=KB hc s.length (adM _)
 rw[ady,<-hc,ady,QH mx hn (fun x hx=>(mU (hs x hx)).1) ht,hc]at h
 exact h
theorem KC{s:List Lt}{n:Int}(mx:Bool)(hn:0<=n)(hs:∀x∈s,aJ x=true)(ht:n<=cM s):(∀y∈(fJ s n mx).1,aJ y=true)/\(∀y∈(fJ s n mx).2,aJ y=true)/\(fJ s n mx).1.length<=s.length/\(fJ s n mx).2.length<=s.length:=
 HY hs (wX mx hn hs ht) s.length (adM _)
end
section
open Go.TM
theorem je{κ β:Type}[DecidableEq κ]{m:List (κ×β)}{k:κ}{x:β}{p:κ×β}(h:p∈aN m k x):p=(k,x)\/p∈m:=by
 induction m with
 |nil=>exact .inl (ado.1 h)
 |cons q r ih=>
  obtain⟨a,v⟩:=q
  simp[aN]at h
  split at h
  ·grind
  ·grind
theorem MK{κ β:Type}[DecidableEq κ]{m:List (κ×β)}{k:κ}{x y:β}(h:aV m k=some y):(aN m k x).length=m.length:=by
 have:=congrArg List.length (uL m k x)
 rwa[if_pos (adK.2 ⟨_,mR h,rfl⟩),adi,adi]at this
theorem QJ:cT []=0:=rfl
theorem tE(it:Int)(l:List Lt)(k:Ky):∀m:SM,b8 (aN m k l) it=b8 m it+if k.2=it then cT l-cT (bY m k)else 0
 |[]=>by
  simp only[aN,b8,CR,bY,aV,List.map_cons,List.sum_cons,Option.getD_none,QJ]
  split<;>omega
 |(q,v)::r=>by
  have ih:=tE it l k r
  unfold aN
  by_cases e:q=k
  ·subst e
   rw[if_pos rfl]
   simp[b8,CR,bY,aV,List.map_cons,Option.getD_some]
   grind
  ·rw[if_neg e]
   have:bY ((q,v)::r) k=bY r k:=by simp_all [bY,aV,if_neg]
   rw[this]
   simp[b8,List.map_cons,List.sum_cons]at*
   rw[ih];omega
theorem Dg{s:List Lt}(h:bE s=true):cT s=cM s:=by grind [cT]
theorem gj{l:List Lt}(h:∀x∈l,aJ x=true)(h2:l.length<=4096):bE l=true:=by
 simp_all [bE,decide_eq_true_eq]
structure Good(R:RL):Prop where
 sh:0<=R.sh/\R.sh<=11
 sp:R.sp.length<=40
 fl:R.fl.length<=160
 nk:Nk R.st
 st:R.st.length<=R.fl.length
 yP:∀p∈R.st,(∀x∈p.2,aJ x=true)/\p.2.length<=R.fl.length
 tb:∀it,b8 R.st it<=1099511627776
 NL:∀f∈R.fl,f.ps.length<=160/\f.md.length<=160/\R.sh*4294967296<=f.id/\f.id<R.sh*4294967296+R.fl.length/\f.step<=R.sh*4294967296+R.sp.length/\(f.kind=5->∃g,0<=g/\f.ps=[⟨g,0,3⟩])
theorem Good.rg{R:RL}(h:Good R):RG R where
 sh:=by have:=h.sh;omega
 fl:=by have:=h.fl;omega
 sp:=by have:=h.sp;omega
 st:=by have:=h.fl;have:=h.st;omega
 yP p hp:=⟨(h.yP p hp).1,by have:=h.fl;have:=(h.yP p hp).2;omega⟩
 ps f hf:=by have:=(h.NL f hf).1;omega
theorem Good.tz{R:RL}(h:Good R)(k:Ky):(∀x∈bY R.st k,aJ x=true)/\(bY R.st k).length<=R.fl.length:=by
 by_cases hs:bY R.st k=[]
 ·grind
 ·exact h.yP _ (CY hs)
structure IL(sh:Int)(s:dI)(m:eS):Prop where
 base:dG m=true
 ps:(s.kind=5/\m.fr=0/\∃g,0<=g/\g<=9223372036854775807/\m.ps=[⟨g,0,3⟩])\/(s.kind≠5/\s.kind≠9/\m.ps=[])
theorem Dh(R:RL)(s:dI)(m:eS)(hf:0<m.fr)(hp:m.ps=[]):bz R s m=if cT (bY R.st (m.fr,m.it))<m.n then(10,R)else(0,{ R with
 st:=if 0<m.to then aN (aN R.st (m.fr,m.it) (fJ (bY R.st (m.fr,m.it)) m.n (w6 m.it)).2) (m.to,m.it) (aT (bY (aN R.st (m.fr,m.it) (fJ (bY R.st (m.fr,m.it)) m.n (w6 m.it)).2) (m.to,m.it)) ⟨R.sh*4294967296+R.fl.length,0,m.n⟩)else aN R.st (m.fr,m.it) (fJ (bY R.st (m.fr,m.it)) m.n (w6 m.it)).2
 fl:=R.fl++[fe R s m (fJ (bY R.st (m.fr,m.it)) m.n (w6 m.it)).1 []] }):=by
 have e:Br R s.kind m=bif decide (cT (bY R.st (m.fr,m.it))<m.n)then(10,[],R.st)else(0,(fJ (bY R.st (m.fr,m.it)) m.n (w6 m.it)).1,aN R.st (m.fr,m.it) (fJ (bY R.st (m.fr,m.it)) m.n (w6 m.it)).2):=by
  simp_all [Br,if_pos]
 unfold bz
 grind
def F3(R:RL)(k:Int)(m:eS):Int:=if k=5 then uS R.sh R.fl m.ps else if k=9 then tw R.fl m.it m.ps else 0
theorem QK(R:RL)(s:dI)(m:eS)(hf:m.fr=0)(ht:0<m.to):bz R s m=if F3 R s.kind m≠0 then(F3 R s.kind m,R)else if 1099511627776<b8 R.st m.it+m.n then(4,R)else(0,{ R with
 st:=aN R.st (m.to,m.it) (aT (bY R.st (m.to,m.it)) ⟨R.sh*4294967296+R.fl.length,0,m.n⟩)
 fl:=R.fl++[fe R s m (if s.kind=5\/s.kind=9 then m.ps else[]) (bif tx s.kind then q7 R.fl (R.sh*4294967296+R.sp.length)else[])] }):=by
 have e:Br R s.kind m=(F3 R s.kind m,if s.kind=5\/s.kind=9 then m.ps else[],R.st):=by
  simp_all [Br,F3,if_neg]
 simp_all [bz,if_pos]
theorem Di{l:List Lt}{x:Lt}{n:Nat}(hl:(∀y∈l,aJ y=true)/\l.length<=n)(hx:0<=x.f/\0<=x.a/\1<=x.n/\x.a+x.n<=1099511627776)(hn:n<=4000):((∀y∈aT l x,aJ y=true)/\(aT l x).length<=n+1)/\cT (aT l x)=cT l+x.n:=by
 grind [iF,fb,Dg,gj,ye]
theorem IN{R:RL}(hG:Good R):∀f:j4,(f.ps.length<=160/\f.md.length<=160/\f.id=R.sh*4294967296+R.fl.length/\f.step=R.sh*4294967296+R.sp.length/\(f.kind=5->∃g,0<=g/\f.ps=[⟨g,0,3⟩]))->∀x∈R.fl++[f],x.ps.length<=160/\x.md.length<=160/\R.sh*4294967296<=x.id/\x.id<R.sh*4294967296+(R.fl++[f]).length/\x.step<=R.sh*4294967296+R.sp.length/\(x.kind=5->∃g,0<=g/\x.ps=[⟨g,0,3⟩]):=by
 intro f hf x hx
 rw[adv,List.length_singleton]
 rcases adr.1 hx with hx|hx
 ·obtain⟨a1,a2,a3,a4,a5,a6⟩:=hG.NL x hx
  grind
 grind
def G5(R:RL)(s:dI)(m:eS)(tk:List Lt×List Lt):RL:={ R with
 st:=if 0<m.to then aN (aN R.st (m.fr,m.it) tk.2) (m.to,m.it) (aT (bY R.st (m.to,m.it)) ⟨R.sh*4294967296+R.fl.length,0,m.n⟩)else aN R.st (m.fr,m.it) tk.2
 fl:=R.fl++[fe R s m tk.1 []] }
theorem Wm{R:RL}{s:dI}{m:eS}(hG:Good R)(hl:R.fl.length+1<=160)(hb:dG m=true)(fo:0<m.fr)(hk:s.kind≠5)(tk:List Lt×List Lt)(hn:m.n<=cM (bY R.st (m.fr,m.it)))(t1:tk.1.length<=160)(t2:∀y∈tk.2,aJ y=true)(t4:tk.2.length<=R.fl.length+1)(ts:cM tk.2=cM (bY R.st (m.fr,m.it))-m.n):
 Good (G5 R s m tk)/\(G5 R s m tk).fl.length=R.fl.length+1/\∀j,b8 (G5 R s m tk).st j=if m.it=j then b8 R.st j+(if m.fr=0 then m.n else 0)-(if m.to=0 then m.n else 0)else b8 R.st j:=by
 have hb:=adz hb
 have hS:=hG.tz (m.fr,m.it)
 have fC:=hG.sh
 have ry:0<=R.sh*4294967296+R.fl.length:=by omega
 have hex:∃y,aV R.st (m.fr,m.it)=some y:=by
  cases hg:aV R.st (m.fr,m.it)with
  |some y=>grind
  |none=>
   grind [bY,cM]
 obtain⟨y,hy⟩:=hex
 have dw:bY (aN R.st (m.fr,m.it) tk.2) (m.to,m.it)=bY R.st (m.to,m.it):=by
  simp_all [jb,if_neg]
 have acm:∀j,b8 (aN R.st (m.fr,m.it) tk.2) j=b8 R.st j+if m.it=j then -m.n else 0:=by
  grind [tE,Dg,gj]
 have hT:=Di (x:=⟨R.sh*4294967296+R.fl.length,0,m.n⟩) (hG.tz (m.to,m.it)) ⟨ry,by simp,by grind,by grind⟩ (by omega)
 have l1:=MK (x:=tk.2) hy
 have l2:=yQ (aN R.st (m.fr,m.it) tk.2) (m.to,m.it) (aT (bY R.st (m.to,m.it)) ⟨R.sh*4294967296+R.fl.length,0,m.n⟩)
 have aq:=hG.st
 have QL:∀j,b8 (if 0<m.to then aN (aN R.st (m.fr,m.it) tk.2) (m.to,m.it) (aT (bY R.st (m.to,m.it)) ⟨R.sh*4294967296+R.fl.length,0,m.n⟩)else aN R.st (m.fr,m.it) tk.2) j=if m.it=j then b8 R.st j+(if m.fr=0 then m.n else 0)-(if m.to=0 then m.n else 0)else b8 R.st j:=by
  intro j
  rw[if_neg (by omega:¬m.fr=0)]
  by_cases kp:0<m.to
  ·rw[if_pos kp,if_neg (by omega:¬m.to=0),tE,acm,dw,hT.2]
   grind
  grind
 unfold G5
 refine⟨⟨fC,hG.sp,by grind,?_,?_,?_,?_,?_⟩,by grind,QL⟩
 ·simp only
  split
  ·exact(hG.nk.put _ _).put _ _
  ·exact hG.nk.put _ _
 ·grind
 ·intro p hp
  simp only[adv,List.length_singleton]at hp⊢
  have h1:p∈aN R.st (m.fr,m.it) tk.2->(∀x∈p.2,aJ x=true)/\p.2.length<=R.fl.length+1:=fun hp=>by
   rcases je hp with rfl|hp
   ·grind
   ·exact⟨(hG.yP p hp).1,by have:=(hG.yP p hp).2;omega⟩
  split at hp
  ·rcases je hp with rfl|hp
   ·grind
   grind
  grind
 ·intro j
  have:=QL j
  have:=hG.tb j
  simp only at*
  rw[QL j]
  split
  ·rw[if_neg (by omega)]
   split<;>omega
  ·omega
 ·exact(IN hG) _ ⟨by simp only[fe];omega,by simp[fe],rfl,rfl,fun h=>absurd h hk⟩
def wL(R:RL)(s:dI)(m:eS)(l:List Lt)(md:List Int):RL:={ R with
 st:=aN R.st (m.to,m.it) (aT (bY R.st (m.to,m.it)) ⟨R.sh*4294967296+R.fl.length,0,m.n⟩)
 fl:=R.fl++[fe R s m l md] }
theorem Yf{R:RL}{s:dI}{m:eS}(hG:Good R)(hl:R.fl.length+1<=160)(hb:dG m=true)(oH:m.fr=0)(l:List Lt)(md:List Int)(hc:¬1099511627776<b8 R.st m.it+m.n)(h0:l.length<=160)(h1:md.length<=160)(h5:s.kind=5->∃g,0<=g/\l=[⟨g,0,3⟩]):
 Good (wL R s m l md)/\(wL R s m l md).fl.length=R.fl.length+1/\∀j,b8 (wL R s m l md).st j=if m.it=j then b8 R.st j+(if m.fr=0 then m.n else 0)-(if m.to=0 then m.n else 0)else b8 R.st j:=by
 have hb:=adz hb
 have fC:=hG.sh
 have ry:0<=R.sh*4294967296+R.fl.length:=by omega
 have hT:=Di (x:=⟨R.sh*4294967296+R.fl.length,0,m.n⟩) (hG.tz (m.to,m.it)) ⟨ry,by simp,by grind,by grind⟩ (by omega)
 have l2:=yQ R.st (m.to,m.it) (aT (bY R.st (m.to,m.it)) ⟨R.sh*4294967296+R.fl.length,0,m.n⟩)
 have aq:=hG.st
 have QL:∀j,b8 (aN R.st (m.to,m.it) (aT (bY R.st (m.to,m.it)) ⟨R.sh*4294967296+R.fl.length,0,m.n⟩)) j=if m.it=j then b8 R.st j+(if m.fr=0 then m.n else 0)-(if m.to=0 then m.n else 0)else b8 R.st j:=by
  intro j
  rw[if_pos oH,if_neg (by omega:¬m.to=0),tE,hT.2]
  grind
 unfold wL
 refine⟨⟨fC,hG.sp,by grind,hG.nk.put _ _,?_,?_,?_,?_⟩,by grind,QL⟩
 ·grind
 ·intro p hp
  simp[adv,List.length_singleton]at hp⊢
  rcases je hp with rfl|hp
  ·grind
  ·exact⟨(hG.yP p hp).1,by have:=(hG.yP p hp).2;omega⟩
 ·intro j
  have:=hG.tb j
  grind
 ·exact(IN hG) _ ⟨h0,h1,rfl,rfl,h5⟩
theorem KE{R:RL}{s:dI}{m:eS}(hG:Good R)(hl:R.fl.length+1<=160)(hm:IL R.sh s m)(h0:(bz R s m).1=0):
 Good (bz R s m).2/\(bz R s m).2.fl.length=R.fl.length+1/\∀j,b8 (bz R s m).2.st j=if m.it=j then b8 R.st j+(if m.fr=0 then m.n else 0)-(if m.to=0 then m.n else 0)else b8 R.st j:=by
 have hb:=adz hm.base
 have hS:=hG.tz (m.fr,m.it)
 have fC:=hG.sh
 have ou:=hG.fl
 have ry:=by omega
 have NL:=IN hG
 by_cases fo:0<m.fr
 ·have hk:s.kind≠5/\m.ps=[]:=by
   rcases hm.ps with h|h
   ·omega
   grind
  rw[Dh R s m fo hk.2]at h0⊢
  by_cases hc:cT (bY R.st (m.fr,m.it))<m.n
  ·rw[if_pos hc]at h0;cases h0
  rw[if_neg hc]
  have hn:m.n<=cM (bY R.st (m.fr,m.it)):=by rw[Dg (gj hS.1 (by omega))]at hc;omega
  obtain⟨t1,t2,t3,t4⟩:=KC _ (by omega) hS.1 hn
  have dw:bY (aN R.st (m.fr,m.it) (fJ (bY R.st (m.fr,m.it)) m.n (w6 m.it)).2) (m.to,m.it)=bY R.st (m.to,m.it):=by
   simp_all [jb,if_neg]
  simp only[dw]
  exact Wm hG hl hm.base fo hk.1 _ hn (by omega) t2 (by omega) ((QI (w6 m.it) (by omega) hS.1 hn).2)
 ·have oH:m.fr=0:=by omega
  rw[QK R s m oH (by omega)]at h0⊢
  by_cases he:F3 R s.kind m≠0
  ·rw[if_pos he]at h0;exact absurd h0 he
  rw[if_neg he]at h0⊢
  by_cases hc:1099511627776<b8 R.st m.it+m.n
  ·rw[if_pos hc]at h0;cases h0
  rw[if_neg hc]
  have h1:(bif tx s.kind then q7 R.fl (R.sh*4294967296+R.sp.length)else[]).length<=160:=by
   have:=CX R.fl (R.sh*4294967296+R.sp.length)
   cases tx s.kind
   ·exact adx _
   ·exact Nat.le_trans this (by omega)
  refine Yf hG hl hm.base oH _ _ hc ?_ h1 fun h=>?_
  ·rcases hm.ps with⟨h,_,g,_,_,h2⟩|⟨h,h3,h2⟩
   ·rw[if_pos (.inl h),h2];simp
   ·rw[h2];split<;>simp
  ·rcases hm.ps with⟨_,_,g,g0,_,h2⟩|⟨h5,_⟩
   ·exact⟨g,g0,by rw[if_pos (.inl h),h2]⟩
   ·exact absurd h h5
end
section
open Go.TM
def dj(x y:Lt):Prop:=∀f u,fa x f u->¬fa y f u
def Dj(l:List Lt):Prop:=l.Pairwise dj
theorem mn{l r:List Lt}:Dj (l++r)↔Dj l/\Dj r/\∀f u,has l f u->¬has r f u:=by
 unfold Dj
 rw[List.pairwise_append]
 refine⟨fun⟨h1,h2,h3⟩=>⟨h1,h2,fun f u ⟨x,hx,hu⟩ ⟨y,hy,hv⟩=>h3 x hx y hy f u hu hv⟩,fun⟨h1,h2,h3⟩=>⟨h1,h2,fun x hx y hy f u hu hv=>h3 f u ⟨x,hx,hu⟩ ⟨y,hy,hv⟩⟩⟩
theorem QM(x:Lt):Dj [x]:=adQ _ _
theorem aa8{l:List Lt}(h:NS l):Dj l:=h.pF.imp fun {x y} hg f u h1 h2=>by
 grind [Ab,fa]
theorem QN{l:List Lt}{x:Lt}(h:Dj (l++[x]))(hl:∀y∈l,0<=y.n)(hx:0<=x.n):Dj (aT l x):=by
 obtain⟨h1,_,h3⟩:=mn.1 h
 unfold aT
 split
 ·grind
 split
 ·rename_i y hy
  split
  ·have e:=iu hy
   rw[e]at h1
   obtain⟨a1,_,a3⟩:=mn.1 h1
   refine mn.2 ⟨a1,QM _,fun f u hu hv=>?_⟩
   have hv:=dY.1 hv
   by_cases c:fa y f u
   ·grind [dY]
   ·refine h3 f u (by grind [eD]) (dY.2 ?_)
    grind [fa]
  grind
 grind
theorem QO{l:List Lt}{x:Lt}(hl:∀y∈l,0<=y.n)(hx:0<=x.n):∀y∈aT l x,0<=y.n:=by
 unfold aT
 split
 ·grind
 split
 ·rename_i y hy
  have hyl:=hl y (List.mem_of_getLast? hy)
  split
  ·intro z hz
   rcases adr.1 hz with hz|hz
   ·exact hl z ((List.dropLast_sublist _).subset hz)
   ·rw[ado]at hz;subst hz;simp;omega
  ·intro z hz
   rcases adr.1 hz with hz|hz
   ·exact hl z hz
   ·rw[ado]at hz;subst hz;exact hx
 ·grind
theorem F4{f u:Int}:∀(r l:List Lt),(∀y∈l,0<=y.n)->(∀y∈r,0<=y.n)->has (r.foldl aT l) f u->has l f u\/has r f u
 |[],l,_,_,h=>.inl h
 |x::r,l,hl,hr,h=>by
  rcases F4 r _ (QO hl (hr x adu)) (fun y hy=>hr y (adq _ hy)) h with h|h
  ·grind [yd,bn]
  grind [bn]
theorem Dk:∀(r l:List Lt),Dj (l++r)->(∀y∈l,0<=y.n)->(∀y∈r,0<=y.n)->Dj (r.foldl aT l)
 |[],l,h,_,_=>by grind
 |x::r,l,h,hl,hr=>by
  have hx:=hr x adu
  rw[show l++x::r=(l++[x])++r by simp]at h
  obtain⟨h1,h2,h3⟩:=mn.1 h
  refine Dk r _ (mn.2 ⟨QN h1 hl hx,h2,fun f u hu=>h3 f u (eD.2 ?_)⟩) (QO hl hx) fun y hy=>hr y (adq _ hy)
  grind [yd,dY]
theorem KF{g:Lt->List Lt}:∀{s:List Lt},Dj s->(∀y∈s,Dj (g y)/\∀f u,has (g y) f u->fa y f u)->Dj (s.flatMap g)
 |[],_,_=>.nil
 |y::s,h,hg=>by
  rw[show y::s=[y]++s from rfl]at h
  obtain⟨_,h2,h3⟩:=mn.1 h
  rw[List.flatMap_cons]
  have hy:=hg y adu
  refine mn.2 ⟨hy.1,KF h2 fun z hz=>hg z (adq _ hz),fun f u hu hv=>?_⟩
  obtain⟨z,hz,hv⟩:=pG.1 hv
  exact h3 f u (dY.2 (hy.2 f u hu)) ⟨z,hz,(hg z (adq _ hz)).2 f u hv⟩
theorem aa9{s P:List Lt}(h:Dj s)(hs:∀x∈s,1<=x.n)(hP:∀y∈P,1<=y.n):Dj (mu s P):=by
 have hr:=fun x hx=>sZ (hs x hx) hP
 refine Dk _ [] ?_ (nofun) fun y hy=>?_
 ·rw[List.nil_append]
  exact KF h fun x hx=>⟨aa8 (hr x hx).1,fun f u hu=>((hr x hx).2 f u).1 hu |>.1⟩
 ·obtain⟨x,hx,hy⟩:=List.mem_flatMap.1 hy
  have:=(hr x hx).1.pos y hy;omega
theorem Yg{x y:Lt}(h:dj y x)(hy:1<=y.n)(hx:1<=x.n):gV x y=[y]:=by
 unfold gV
 rw[if_pos]
 refine Decidable.byContradiction fun hc=>?_
 have h1:=h y.f (max y.a x.a)
 grind [fa]
theorem F5:∀(r l:List Lt),cM (r.foldl aT l)=cM l+cM r
 |[],l=>by simp[cM]
 |x::r,l=>by rw[List.foldl_cons,F5 r,ye,show x::r=[x]++r from rfl,iX [x] r];grind [cM]
theorem F6:∀(r l:List Lt),(r.foldl aT l).length<=l.length+r.length
 |[],l=>adM _
 |x::r,l=>by
  have h1:=fb l x
  have h2:=F6 r (aT l x)
  grind
theorem za{x:Lt}(hx:1<=x.n):∀{s:List Lt},(∀y∈s,1<=y.n)->(∀f u,has s f u->¬fa x f u)->(s.flatMap fun y=>mQ y [x])=s
 |[],_,_=>rfl
 |y::s,hs,h=>by
  have e:mQ y [x]=gV x y:=by simp[mQ,jq]
  rw[List.flatMap_cons,e,Yg (fun f u hu=>h f u (bn.2 (.inl hu))) (hs y adu) hx,za hx (fun z hz=>hs z (adq _ hz)) fun f u hu=>h f u (bn.2 (.inr hu))]
  rfl
theorem aba{s:List Lt}{x y:Lt}(h:Dj s)(hs:∀z∈s,1<=z.n)(hy:y∈s)(hx:1<=x.n)(hi:y.f=x.f/\y.a<=x.a/\x.a+x.n<=y.a+y.n):cM (mu s [x])=cM s-x.n/\(mu s [x]).length<=s.length+1:=by
 obtain⟨s1,s2,rfl⟩:=List.append_of_mem hy
 obtain⟨_,h2,h3⟩:=mn.1 h
 rw[show y::s2=[y]++s2 from rfl]at h2
 obtain⟨_,_,h4⟩:=mn.1 h2
 have dz:∀f u,fa x f u->fa y f u:=fun f u hu=>by grind [fa]
 have e:mQ y [x]=gV x y:=by simp[mQ,jq]
 have ef:((s1++y::s2).flatMap fun z=>mQ z [x])=s1++gV x y++s2:=by
  rw[List.flatMap_append,List.flatMap_cons,(za hx (fun z hz=>hs z (adr.2 (.inl hz))) fun f u hu hv=>h3 f u hu (bn.2 (.inl (dz f u hv)))),(za hx (fun z hz=>hs z (adr.2 (.inr (adq _ hz)))) fun f u hu hv=>h4 f u (dY.2 (dz f u hv)) hu),e,adJ]
 have c:cM (gV x y)=y.n-x.n/\(gV x y).length<=2:=by
  unfold gV
  rw[if_neg (by omega)]
  grind [cM]
 have a2:=F6 (s1++gV x y++s2) []
 unfold mu
 rw[ef]
 refine⟨?_,?_⟩
 ·rw[(F5 _ []),iX,iX,iX,show y::s2=[y]++s2 from rfl,iX [y] s2,c.1];grind [cM]
 ·simp[adv,List.length_cons,List.length_nil]at a2⊢;omega
def Zm(q:Lt×Int):Lt:=⟨q.1.f,q.1.a+q.2,q.1.n-q.2⟩
theorem KG:∀(l:List (Lt×Int)) (p:List Lt×List Lt),(l.foldl tkF p).2=(l.map Zm).foldl aT p.2
 |[],p=>rfl
 |q::l,p=>by rw[List.foldl_cons,KG l,List.map_cons,List.foldl_cons];rfl
theorem UQ{s:List Lt}{n:Int}(mx:Bool)(h:Dj s)(hn:0<=n)(hs:∀x∈s,aJ x=true)(ht:n<=cM s):Dj (fJ s n mx).2/\∀f u,has (fJ s n mx).2 f u->has s f u:=by
 obtain⟨c1,c2⟩:=wX mx hn hs ht
 unfold fJ mi
 generalize pK s n mx=ks at c1 c2
 rw[List.take_of_length_le (by grind),KG]
 have hq:∀q∈s.zip ks,0<=q.2/\q.2<=q.1.n:=fun q hq=>by
  obtain⟨i,hi⟩:=adE hq
  rw[List.getElem?_zip_eq_some]at hi
  have:=c2 i q.1 hi.1
  rwa[adn,hi.2]at this
 have hnn:∀y∈(s.zip ks).map Zm,0<=y.n:=fun y hy=>by
  obtain⟨q,hm,rfl⟩:=adK.1 hy
  grind [Zm]
 refine⟨Dk _ [] ?_ (nofun) hnn,fun f u hu=>?_⟩
 ·rw[List.nil_append]
  refine List.pairwise_map.2 ?_
  have hz:((s.zip ks).map Prod.fst).Pairwise dj:=by rwa[List.map_fst_zip (by omega)]
  refine(List.pairwise_map.1 hz).imp_of_mem fun {a b} ha hb hab f u h1 h2=>hab f u ?_ ?_
  ·grind [fa,Zm]
  grind [fa,Zm]
 ·rcases F4 _ [] (nofun) hnn hu with h|⟨y,hy,h⟩
  ·exact absurd h cA
  ·obtain⟨q,hm,rfl⟩:=adK.1 hy
   refine⟨q.1,(List.of_mem_zip hm).1,?_⟩
   grind [fa,Zm]
end
section
open Go.TM
structure Dx(R:RL):Prop where
 dj:∀p∈R.st,Dj p.2/\∀x∈p.2,x.f<R.sh*4294967296+R.fl.length
 ids:∀(i:Nat) (f:j4),R.fl[i]?=some f->f.id=R.sh*4294967296+i
 rv:∀f∈R.fl,f.kind=9->f.fr=0->∃x,aJ x=true/\f.ps=[x]/\x.f<R.sh*4294967296+R.fl.length
 fn:∀f∈R.fl,(1<=f.n/\f.n<=1099511627776)/\0<=f.it/\f.it<5
 ky:∀p∈R.st,1<=p.1.1/\p.1.1<=1073741824/\0<=p.1.2/\p.1.2<5
theorem Dx.tz{R:RL}(h:Dx R)(k:Ky):Dj (bY R.st k)/\∀x∈bY R.st k,x.f<R.sh*4294967296+R.fl.length:=by
 by_cases hs:bY R.st k=[]
 ·rw[hs];exact⟨.nil,nofun⟩
 ·exact h.dj _ (CY hs)
theorem Dx.put{R:RL}(h:Dx R)(hG:Good R)(k:Ky){n:Int}(hn:1<=n):Dj (aT (bY R.st k) ⟨R.sh*4294967296+R.fl.length,0,n⟩)/\∀x∈aT (bY R.st k) ⟨R.sh*4294967296+R.fl.length,0,n⟩,x.f<R.sh*4294967296+R.fl.length+1:=by
 obtain⟨h1,h2⟩:=h.tz k
 refine⟨QN (mn.2 ⟨h1,QM _,fun f u ⟨y,hy,hu⟩ hv=>?_⟩) (fun y hy=>(mU (((hG.tz k).1) y hy)).1) (by grind),fun x hx=>?_⟩
 ·grind [dY,fa]
 ·have e:aT (bY R.st k) ⟨R.sh*4294967296+R.fl.length,0,n⟩=bY R.st k++[⟨R.sh*4294967296+R.fl.length,0,n⟩]:=by
   unfold aT
   rw[if_neg (by grind)]
   split
   ·grind
   simp_all
  grind
theorem Dx.NL{R:RL}(h:Dx R){f:j4}(hn:(1<=f.n/\f.n<=1099511627776)/\0<=f.it/\f.it<5)(ry:f.id=R.sh*4294967296+R.fl.length)(hr:f.kind=9->f.fr=0->∃x,aJ x=true/\f.ps=[x]/\x.f<R.sh*4294967296+R.fl.length):
 (∀(i:Nat) (g:j4),(R.fl++[f])[i]?=some g->g.id=R.sh*4294967296+i)/\(∀g∈R.fl++[f],g.kind=9->g.fr=0->∃x,aJ x=true/\g.ps=[x]/\x.f<R.sh*4294967296+(R.fl++[f]).length)/\∀g∈R.fl++[f],(1<=g.n/\g.n<=1099511627776)/\0<=g.it/\g.it<5:=by
 rw[adv,List.length_singleton]
 refine⟨fun i g hg=>?_,fun g hg h9 h0=>?_,fun g hg=>?_⟩
 ·rw[List.getElem?_append]at hg
  split at hg
  ·exact h.ids i g hg
  grind
 ·rcases adr.1 hg with hg|hg
  ·obtain⟨x,h1,h2,h3⟩:=h.rv g hg h9 h0;grind
  grind
 ·rcases adr.1 hg with hg|hg
  ·exact h.fn g hg
  grind
theorem QP{R:RL}{s:dI}{m:eS}(h:Dx R)(hG:Good R)(hb:dG m=true)(fo:0<m.fr)(tk:List Lt×List Lt)(h1:Dj tk.2)(h2:∀x∈tk.2,x.f<R.sh*4294967296+R.fl.length):Dx (G5 R s m tk):=by
 have hb:=adz hb
 obtain⟨f1,f2,f3⟩:=h.NL (f:=fe R s m tk.1 []) ⟨⟨hb.2.2.1,hb.2.2.2.1⟩,hb.1,hb.2.1⟩ rfl fun _ h0=>absurd h0 (show¬m.fr=0 by omega)
 obtain⟨p1,p2⟩:=h.put hG (m.to,m.it) (n:=m.n) (by omega)
 have hk:∀p∈(G5 R s m tk).st,1<=p.1.1/\p.1.1<=1073741824/\0<=p.1.2/\p.1.2<5:=fun p hp=>by
  have hp:p∈if 0<m.to then aN (aN R.st (m.fr,m.it) tk.2) (m.to,m.it) (aT (bY R.st (m.to,m.it)) ⟨R.sh*4294967296+R.fl.length,0,m.n⟩)else aN R.st (m.fr,m.it) tk.2:=hp
  have h4:p∈aN R.st (m.fr,m.it) tk.2->1<=p.1.1/\p.1.1<=1073741824/\0<=p.1.2/\p.1.2<5:=fun hp=>by
   rcases je hp with rfl|hp
   ·grind
   ·exact h.ky p hp
  split at hp
  ·rcases je hp with rfl|hp
   ·grind
   grind
  grind
 refine⟨fun p hp=>?_,f1,f2,f3,hk⟩
 show Dj p.2/\∀x∈p.2,x.f<R.sh*4294967296+(R.fl++[fe R s m tk.1 []]).length
 rw[adv,List.length_singleton]
 have h3:p∈aN R.st (m.fr,m.it) tk.2->Dj p.2/\∀x∈p.2,x.f<R.sh*4294967296+((R.fl.length+1)):=fun hp=>by
  rcases je hp with rfl|hp
  ·grind
  ·exact⟨(h.dj p hp).1,fun x hx=>by have:=(h.dj p hp).2 x hx;omega⟩
 have hp:p∈if 0<m.to then aN (aN R.st (m.fr,m.it) tk.2) (m.to,m.it) (aT (bY R.st (m.to,m.it)) ⟨R.sh*4294967296+R.fl.length,0,m.n⟩)else aN R.st (m.fr,m.it) tk.2:=hp
 split at hp
 ·rcases je hp with rfl|hp
  ·grind
  ·exact h3 hp
 ·exact h3 hp
theorem Wn{R:RL}{s:dI}{m:eS}(h:Dx R)(hG:Good R)(hb:dG m=true)(kp:0<m.to)(l:List Lt)(md:List Int)(hr:s.kind=9->m.fr=0->∃x,aJ x=true/\l=[x]/\x.f<R.sh*4294967296+R.fl.length):Dx (wL R s m l md):=by
 have hb:=adz hb
 obtain⟨f1,f2,f3⟩:=h.NL (f:=fe R s m l md) ⟨⟨hb.2.2.1,hb.2.2.2.1⟩,hb.1,hb.2.1⟩ rfl hr
 obtain⟨p1,p2⟩:=h.put hG (m.to,m.it) (n:=m.n) (by omega)
 refine⟨fun p hp=>?_,f1,f2,f3,fun p hp=>?_⟩
 rotate_left
 ·rcases je hp with rfl|hp
  ·grind
  ·exact h.ky p hp
 show Dj p.2/\∀x∈p.2,x.f<R.sh*4294967296+(R.fl++[fe R s m l md]).length
 rw[adv,List.length_singleton]
 rcases je hp with rfl|hp
 ·grind
 ·exact⟨(h.dj p hp).1,fun x hx=>by have:=(h.dj p hp).2 x hx;omega⟩
end
section
open Go.TM
theorem val_one{x:Lt}(h:aJ x=true):bE [x]=true:=gj (fun y hy=>by grind) (by simp)
theorem Dl{l:List Lt}(h:bE l=true):∀x∈l,1<=x.n:=fun x hx=>(ak.1 ((fI h).2 x hx)).2.2.1
theorem Yh{l:List Lt}(h:bE l=true):kF l=cW l:=by grind [kF]
theorem UR{l:List Lt}(h:bE l=true):bE (cW l)=true:=by
 grind [qw,fI,gj]
theorem QQ{a b:List Lt}(ha:bE a=true)(hb:bE b=true):uP a b=mu (cW a) b:=by
 grind [uP,Im,Yh,UR]
theorem KH{a b:List Lt}(ha:bE a=true)(hb:bE b=true):rY a b=true↔∀f u,has a f u->has b f u:=by
 unfold rY
 rw[ha,hb,QQ ha hb,Bool.true_and,Bool.true_and,adR]
 grind [TS,Dl]
theorem US{a b:List Lt}(ha:bE a=true)(hb:bE b=true)(hm:bE (mu (cW a) b)=true):CO a b=[]↔∀f u,has a f u->¬has b f u:=by
 unfold CO
 rw[hb,cond_true,QQ ha hb,QQ ha hm]
 grind [TU,Dl]
theorem KI(s P:List Lt):Fu s P s.length=mu s P:=by unfold Fu mu;grind
theorem UT{x:Lt}(hx:aJ x=true):cW [x]=[x]:=J9 ⟨adQ _ _,fun y hy=>by grind [List.mem_singleton,ak]⟩
theorem UU{x y:Lt}(hx:aJ x=true)(hy:aJ y=true):bE (mu (cW [x]) [y])=true:=by
 have h:=yL (fun z hz=>by rw[ado]at hz;subst hz;exact hx) (fun z hz=>by rw[ado]at hz;subst hz;exact hy) 1
 grind [UT,Fu,mu,KI,gj,Nat.le_trans]
theorem KJ{x y:Lt}(hx:aJ x=true)(hy:aJ y=true):CO [x] [y]=[]↔∀f u,fa x f u->¬fa y f u:=by
 simp_all [US,val_one,UU,dY]
theorem UW{R:RL}{s:dI}{m:eS}{x y:Lt}(hG:Good R)(hb:dG m=true)(fo:0<m.fr)(hp:m.ps=[x])(hx:aJ x=true)(hy:y∈bY R.st (m.fr,m.it))(hi:y.f=x.f/\y.a<=x.a/\x.a+x.n<=y.a+y.n):
 rY [x] (bY R.st (m.fr,m.it))=true/\bz R s m=(0,G5 R s m ([x],mu (bY R.st (m.fr,m.it)) [x])):=by
 have hb:=adz hb
 have hS:=hG.tz (m.fr,m.it)
 have ou:=hG.fl
 have hv:=gj hS.1 (by omega)
 have hw:=(KH (val_one hx) hv).2 fun f u hu=>⟨y,hy,by grind [dY,fa]⟩
 have e:Br R s.kind m=(0,[x],aN R.st (m.fr,m.it) (mu (bY R.st (m.fr,m.it)) [x])):=by
  simp_all [Br,Im,val_one]
 have dw:bY (aN R.st (m.fr,m.it) (mu (bY R.st (m.fr,m.it)) [x])) (m.to,m.it)=bY R.st (m.to,m.it):=by
  simp_all [jb,if_neg]
 refine⟨hw,?_⟩
 unfold bz
 rw[e,if_neg (by simp),if_neg (by omega),if_neg (by omega:¬m.fr=0)]
 simp[dw]
 rfl
def G6(fl:List j4)(g:Int):List Lt:=((fl.filter fun f=>f.kind==9&&f.fr==0).flatMap (·.ps)).filter fun x=>x.f==g
def kI(fl:List j4)(g:Int):Option (List Lt):=if G6 fl g=[]then none else some (cW (G6 fl g))
theorem IP{fl:List j4}{g:Int}{z:Lt}:z∈G6 fl g↔z.f=g/\∃f∈fl,f.kind=9/\f.fr=0/\z∈f.ps:=by
 unfold G6
 grind
theorem IQ{R:RL}(h:Dx R){g:Int}:∀z∈G6 R.fl g,aJ z=true:=fun z hz=>by
 obtain⟨_,f,h1,h2,h3,h4⟩:=IP.1 hz
 obtain⟨x,q1,q2,_⟩:=h.rv f h1 h2 h3
 grind
theorem abb{fl:List j4}{f:j4}(h:¬(f.kind=9/\f.fr=0))(g:Int):G6 (fl++[f]) g=G6 fl g:=by
 simp_all [G6,List.filter_cons]
theorem Yi{fl:List j4}{f:j4}{x:Lt}(h9:f.kind=9)(h0:f.fr=0)(hp:f.ps=[x])(g:Int):G6 (fl++[f]) g=G6 fl g++if x.f=g then[x]else[]:=by
 simp_all [G6,List.filter_cons,List.append_nil]
theorem QR{R:RL}(h:Dx R){f:j4}{x:Lt}(h9:f.kind=9)(h0:f.fr=0)(hp:f.ps=[x])(hx:aJ x=true)(g:Int):kI (R.fl++[f]) g=if x.f=g then some (cW ((kI R.fl x.f).getD []++[x]))else kI R.fl g:=by
 unfold kI
 rw[Yi h9 h0 hp]
 by_cases e:x.f=g
 ·subst e
  rw[if_pos rfl,if_pos rfl,if_neg (by simp)]
  have dK:=fun z hz=>(ak.1 (IQ h (g:=x.f) z hz)).2.2.1
  have hx1:=(ak.1 hx).2.2.1
  have a1:∀z∈G6 R.fl x.f++[x],1<=z.n:=fun z hz=>by
   grind
  have s1:=gA dK
  by_cases e2:G6 R.fl x.f=[]
  ·grind
  ·rw[if_neg e2,Option.getD_some]
   have a2:∀z∈cW _++[x],1<=z.n:=fun z hz=>by
    rcases adr.1 hz with hz|hz
    ·exact s1.1.pos z hz
    grind
   have s2:=gA a1
   have s3:=gA a2
   refine congrArg some (s2.1.uniq s3.1 fun f u=>?_)
   grind [eD]
 grind
theorem KK{R:RL}(hD:Dx R){m:eS}{x:Lt}{f:j4}(hp:m.ps=[x])(hx:aJ x=true)(fC:0<=R.sh)(hf:f∈R.fl)(ry:f.id=x.f)(h1:f.to=0/\f.kind≠6/\f.it=m.it/\x.a+x.n<=f.n):
 tw R.fl m.it m.ps=if(kD [x] ((kI R.fl x.f).getD [])).1=[]then 0 else 10:=by
 have hfn:=(hD.fn f hf).1
 have cI:R.fl.any (okF m.it x)=true:=by
  rw[List.any_eq_true]
  refine⟨f,hf,?_⟩
  unfold okF
  rw[adF ⟨h1.2.1,h1.1,h1.2.2.1⟩,Bool.true_and]
  grind [KH,val_one,ak,dY,fa]
 have hns:NS ((kI R.fl x.f).getD [])/\∀g u,has ((kI R.fl x.f).getD []) g u↔has (G6 R.fl x.f) g u:=by
  unfold kI
  split
  ·rename_i e;rw[e];exact⟨NS.nil,fun _ _=>Iff.rfl⟩
  ·exact gA fun z hz=>(ak.1 (IQ hD z hz)).2.2.1
 have hdiv:=Kb (fun z hz=>by rw[ado]at hz;subst hz;exact(ak.1 hx).2.2.1) hns.1
 have V1:R.fl.any (FI x)=false↔(kD [x] ((kI R.fl x.f).getD [])).1=[]:=by
  rw[hdiv,List.any_eq_false]
  constructor
  ·intro h g u hu hv
   obtain⟨z,hz,hv⟩:=(hns.2 g u).1 hv
   obtain⟨_,q,a1,a2,a3,a4⟩:=IP.1 hz
   obtain⟨z',b1,b2,_⟩:=hD.rv q a1 a2 a3
   grind [List.mem_singleton,FI,decide_eq_true,decide_eq_false,KJ,dY]
  ·intro h q hq hc
   unfold FI at hc
   rw[adT,adT,adR,adR]at hc
   obtain⟨z,b1,b2,_⟩:=hD.rv q hq hc.1.1 hc.1.2
   have hm:=by have:=hc.2;simpa using this
   rw[b2]at hm
   refine hm ((KJ b1 hx).2 fun g u hu hv=>?_)
   refine h g u (dY.2 hv) ((hns.2 g u).2 ⟨z,IP.2 ⟨?_,q,hq,hc.1.1,hc.1.2,by grind⟩,hu⟩)
   rw[hu.1,hv.1]
 rw[hp]
 unfold tw
 rw[cI]
 by_cases e:(kD [x] ((kI R.fl x.f).getD [])).1=[]
 ·rw[if_pos e,V1.2 e];rfl
 grind
end
section
open Go.TM
def cpK(a b:IM Int):ae:=[(0,.tree 0 0 (.omap cS (oN a))),(1,.tree 0 0 (.omap cS (oN b)))]
variable [aW]
structure LpC where
 left:IM Int
 done:IM Int
def UX(a b:IM Int):IM Int:=b.foldl (fun m p=>aN m p.1 p.2) a
theorem tF{α:Type}:∀{l:List α} {i:Nat} {x:α},l[i]?=some x->l.Perm (x::l.eraseIdx i)
 |[],i,x,h=>by simp at h
 |y::l,0,x,h=>by simp at h;subst h;simp
 |y::l,i+1,x,h=>by
  have:=tF (l:=l) (i:=i) (x:=x) (by simpa using h)
  rw[List.eraseIdx_cons_succ]
  exact(this.cons y).trans (List.Perm.swap x y _)
theorem qA{α β:Type}(f:α->β):∀(l:List α) (i:Nat),(l.eraseIdx i).map f=(l.map f).eraseIdx i
 |[],_=>rfl
 |_::_,0=>rfl
 |_::l,i+1=>by simp only[List.eraseIdx_cons_succ,List.map_cons,qA f l i]
theorem Dm(a b:IM Int):bX Tryz.prog 52 [.own 0 0 0 [],.own 1 0 0 []] 2 (cpK a b) 0 (fun rs k=>∃done:IM Int,done.Perm b/\rs=[]/\k=cpK (UX a done) b):=by
 refine mF aG mixed (eY _) (fL _) Tryz.func52 rfl rfl (by kernel_rfl) ?_
 refine⟨LpC,fun z=>⟨3,[(0,.own 0 0 0 []),(7,.ptr 2 0)],[(0,.tree 0 0 (.omap cS (oN (UX a z.done)))),(1,.held),(2,.lG 1 [] (.omap cS (oN b)) (oN z.left) none)]⟩,fun z=>(z.done++z.left).Perm b,fun z=>z.left.length,⟨b,[]⟩,fun z=>rfl,?_,List.Perm.refl _,?_⟩
 ·exact⟨⟨rfl,rfl,tv⟩,⟨⟨rfl,rfl⟩,tv,⟨rfl,rfl,rfl,rfl,.inl rfl,tv⟩,tv⟩,rfl,rfl⟩
 ·rintro⟨left,done⟩ g1
  simp only at g1
  refine⟨tv,fun h5=>⟨(fun h6=>by cases h6),fun _=>?_⟩,fun pos cc ma=>⟨fun _=>?_,fun h6=>by cases h6⟩⟩
  ·have hz:left=[]:=List.map_eq_nil_iff.1 h5
   subst hz
   rw[List.append_nil]at g1
   exact⟨_,_,⟨done,g1,rfl,rfl⟩,by kernel_rfl,tv,⟨rfl,rfl⟩,⟨rfl,rfl⟩,tv⟩
  ·have ma:(left.map fun p=>DV.fV (eI p.1) (eI p.2))[pos]?=some cc:=ma
   rw[adk]at ma
   obtain⟨⟨k,x⟩,hk,rfl⟩:∃p,left[pos]?=some p/\cc=DV.fV (eI p.1) (eI p.2):=by
    cases hq:left[pos]? with
    |none=>rw[hq]at ma;cases ma
    |some p=>rw[hq]at ma;exact⟨p,rfl,by simpa using ma.symm⟩
   have GV:((done++[(k,x)])++left.eraseIdx pos).Perm b:=by
    rw[adJ];exact((tF hk).append_left done).symm.trans g1
   have hc:UX a (done++[(k,x)])=aN (UX a done) k x:=by unfold UX;rw[adI];rfl
   refine⟨uU x,j7,eI k,rfl,rfl,I x,⟨rf,tv⟩,rfl,false,fun _=>⟨nX (UX a done) _,uU _⟩,?_⟩
   rw[show dh (oN (UX a done)) (eI k) (I x)=oN (UX a (done++[(k,x)]))by rw[hc];exact cY jd (UX a done) k x]
   rw[show(oN left).eraseIdx pos=oN (left.eraseIdx pos)from(qA _ left pos).symm]
   refine⟨⟨left.eraseIdx pos,done++[(k,x)]⟩,?_,GV,?_⟩
   ·exact⟨⟨rfl,rfl,tv⟩,⟨⟨rfl,rfl⟩,tv,⟨rfl,rfl,rfl,rfl,.inl rfl,tv⟩,tv⟩,rfl,rfl⟩
   ·have:=(adj.1 hk).1
    show(left.eraseIdx pos).length<left.length
    rw[List.length_eraseIdx_of_lt this];omega
structure LpM where
 left:IM (List Lt)
 done:IM (List Lt)
def Dn(a b:IM (List Lt)):IM (List Lt):=b.foldl (fun m p=>aN m p.1 p.2) a
def UY(a b:IM (List Lt)):ae:=[(0,.tree 0 0 (.omap cS (pQ a))),(1,.tree 0 0 (.omap cS (pQ b)))]
theorem Dp(a b:IM (List Lt)):bX Tryz.prog 53 [.own 0 0 0 [],.own 1 0 0 []] 2 (UY a b) 0 (fun rs k=>∃done:IM (List Lt),done.Perm b/\rs=[]/\k=UY (Dn a done) b):=by
 refine mF aG mixed (eY _) (fL _) Tryz.func53 rfl rfl (by kernel_rfl) ?_
 refine⟨LpM,fun z=>⟨3,[(0,.own 0 0 0 []),(7,.ptr 2 0)],[(0,.tree 0 0 (.omap cS (pQ (Dn a z.done)))),(1,.held),(2,.lG 1 [] (.omap cS (pQ b)) (pQ z.left) none)]⟩,fun z=>(z.done++z.left).Perm b,fun z=>z.left.length,⟨b,[]⟩,fun z=>rfl,?_,List.Perm.refl _,?_⟩
 ·exact⟨⟨rfl,rfl,tv⟩,⟨⟨rfl,rfl⟩,tv,⟨rfl,rfl,rfl,rfl,.inl rfl,tv⟩,tv⟩,rfl,rfl⟩
 ·rintro⟨left,done⟩ g1
  simp only at g1
  refine⟨tv,fun h5=>⟨(fun h6=>by cases h6),fun _=>?_⟩,fun pos cc ma=>⟨fun _=>?_,fun h6=>by cases h6⟩⟩
  ·have hz:left=[]:=List.map_eq_nil_iff.1 h5
   subst hz
   rw[List.append_nil]at g1
   exact⟨_,_,⟨done,g1,rfl,rfl⟩,by kernel_rfl,tv,⟨rfl,rfl⟩,⟨rfl,rfl⟩,tv⟩
  ·have ma:(left.map fun p=>DV.fV (eI p.1) (aR p.2))[pos]?=some cc:=ma
   rw[adk]at ma
   obtain⟨⟨k,x⟩,hk,rfl⟩:∃p,left[pos]?=some p/\cc=DV.fV (eI p.1) (aR p.2):=by
    cases hq:left[pos]? with
    |none=>rw[hq]at ma;cases ma
    |some p=>rw[hq]at ma;exact⟨p,rfl,by simpa using ma.symm⟩
   have GV:((done++[(k,x)])++left.eraseIdx pos).Perm b:=by
    rw[adJ];exact((tF hk).append_left done).symm.trans g1
   have hc:Dn a (done++[(k,x)])=aN (Dn a done) k x:=by unfold Dn;rw[adI];rfl
   refine⟨gi x,j7,eI k,rfl,rfl,aR x,⟨rf,tv⟩,rfl,false,fun _=>⟨De (Dn a done) _,gi _⟩,?_⟩
   rw[show dh (pQ (Dn a done)) (eI k) (aR x)=pQ (Dn a (done++[(k,x)]))by rw[hc];exact cY jd (Dn a done) k x]
   rw[show(pQ left).eraseIdx pos=pQ (left.eraseIdx pos)from(qA _ left pos).symm]
   refine⟨⟨left.eraseIdx pos,done++[(k,x)]⟩,?_,GV,?_⟩
   ·exact⟨⟨rfl,rfl,tv⟩,⟨⟨rfl,rfl⟩,tv,⟨rfl,rfl,rfl,rfl,.inl rfl,tv⟩,tv⟩,rfl,rfl⟩
   ·have:=(adj.1 hk).1
    show(left.eraseIdx pos).length<left.length
    rw[List.length_eraseIdx_of_lt this];omega
end
section
open Go.TM
section
variable {κ β:Type} [DecidableEq κ]
def ML(a b:List (κ×β)):List (κ×β):=b.foldl (fun m p=>aN m p.1 p.2) a
theorem Bx{m m':List (κ×β)}(h:Nk m)(h':Nk m')(e:∀k,aV m k=aV m' k):m.Perm m':=by
 have nd:∀{l:List (κ×β)},Nk l->l.Nodup:=fun hl=>(List.pairwise_map.1 hl).imp fun h e=>h (congrArg _ e)
 refine(List.perm_ext_iff_of_nodup (nd h) (nd h')).2 fun⟨k,x⟩=>⟨fun hm=>?_,fun hm=>?_⟩
 ·exact mR (by rw[<-e k];exact CB h hm)
 ·exact mR (by rw[e k];exact CB h' hm)
theorem uV:∀(b a:List (κ×β)),Nk a->Nk (ML a b)
 |[],_,h=>h
 |p::b,a,h=>uV b _ (h.put p.1 p.2)
theorem mY:∀(b a:List (κ×β)),Nk b->∀k,aV (ML a b) k=(aV b k).or (aV a k)
 |[],_,_,_=>rfl
 |(q,x)::b,a,h,k=>by
  have hb:Nk b:=(List.nodup_cons.1 h).2
  have hq:q∉b.map (·.1):=(List.nodup_cons.1 h).1
  show aV (ML (aN a q x) b) k=_
  rw[mY b _ hb k,iY]
  by_cases hk:q=k
  ·subst hk
   rw[mS hq,if_pos rfl]
   simp[aV]
  ·rw[if_neg hk]
   simp[aV,hk]
theorem F7{a b d:List (κ×β)}(ha:Nk a)(hb:Nk b)(h:d.Perm b):(ML a d).Perm (ML a b):=by
 have hd:Nk d:=hb.perm h.symm
 refine Bx (uV d a ha) (uV b a ha) fun k=>?_
 rw[mY d a hd,mY b a hb,A3 hd h]
end
theorem lY{P:Program}{f:Nat}{a:List AV}{m ex:Nat}{K:ae}{R R':List AV->ae->Prop}[aW](h:bX P f a m K ex R)(hi:∀r k,R r k->R' r k):bX P f a m K ex R':=
 ⟨h.1,fun w G vs nr di hr=>Calls.mono (h.2 w G vs nr di hr) fun e w' ⟨v,r,k,G',h1,h2,h3⟩=>⟨v,r,k,G',h1,hi r k h2,h3⟩⟩
variable [aW]
theorem F8(a b:IM Int)(ha:Nk a)(hb:Nk b):aw Tryz.prog 52 [.own 0 0 0 [],.own 1 0 0 []] 2 (cpK a b) 0 [] (cpK (ML a b) b):=
 rO (lY (Dm a b) fun r k ⟨done,hp,h1,h2⟩=>⟨h1,h2▸.cons (.omap 0 0 cS ((F7 ha hb hp).map _)) (.refl _)⟩)
theorem vO(a b:IM (List Lt))(ha:Nk a)(hb:Nk b):aw Tryz.prog 53 [.own 0 0 0 [],.own 1 0 0 []] 2 (UY a b) 0 [] (UY (ML a b) b):=
 rO (lY (Dp a b) fun r k ⟨done,hp,h1,h2⟩=>⟨h1,h2▸.cons (.omap 0 0 cS ((F7 ha hb hp).map _)) (.refl _)⟩)
end
section
open Go.TM
def Aj(a b:Nat)(P:PL):ae:=[(0,.cells (.dv (I P.sh)::fp oF++[.own 1 0 0 [],.own 2 0 0 [],.own 3 a 0 [],.own 4 b 0 [],.own 5 0 0 [],.own 6 0 0 []])),(1,.tree 0 0 (.omap eZ (qR P.st))),(2,.tree 0 0 (.omap cS (oN P.cj))),(3,.tree a 0 (.aI 7 (P.sp.map aZ))),(4,.tree b 0 (.aI 11 (P.fl.map bB))),(5,.tree 0 0 (.omap cS (pQ P.imp))),(6,.tree 0 0 (.omap cS (pQ P.ret)))]
def By(m:SM)(d:SM):SM:=d.foldl (fun m p=>if p.2=[]then s0 m p.1 else aN m p.1 p.2) m
def Wo(P:PL)(c:Ch)(d:SM):PL:={ P with st:=By P.st d,cj:=ML P.cj c.cj,imp:=ML P.imp c.imp,ret:=ML P.ret c.ret,fl:=P.fl++c.fl,sp:=P.sp++[c.sp] }
structure LpS where
 left:SM
 done:SM
def poK(P:PL)(c:Ch)(z:LpS):ae:=Aj 1 1 { P with st:=By P.st z.done }++[(9,.held),(10,.tree 0 0 (.omap cS (oN c.cj))),(11,.tree 0 0 (.omap cS (pQ c.imp))),(12,.tree 0 0 (.omap cS (pQ c.ret))),(13,.cells (.ptr 0 0::(fp (aZ c.sp).cells++[.own 9 0 0 [],.own 10 0 0 [],.own 11 0 0 [],.own 12 0 0 [],.own 14 0 0 [],.own 15 0 0 []]))),(14,.tree 0 0 (.aI 11 (c.fl.map bB))),(15,.tree 0 0 (.aI 1 (c.sk.map I))),(16,.lG 9 [] (.omap eZ (qR c.st)) (qR z.left) none)]
def KL(a b:Nat)(P:PL)(S F:List DV):ae:=[(0,.cells (.dv (I P.sh)::fp oF++[.own 1 0 0 [],.own 2 0 0 [],.own 3 a 0 [],.own 4 b 0 [],.own 5 0 0 [],.own 6 0 0 []])),(1,.tree 0 0 (.omap eZ (qR P.st))),(2,.tree 0 0 (.omap cS (oN P.cj))),(3,.tree a 0 (.aI 7 S)),(4,.tree b 0 (.aI 11 F)),(5,.tree 0 0 (.omap cS (pQ P.imp))),(6,.tree 0 0 (.omap cS (pQ P.ret)))]
theorem QS(P:PL)(c:Ch)(d:SM):KL 1 1 (Wo P c d) (P.sp.map aZ++[aZ c.sp]) (P.fl.map bB++c.fl.map bB)=Aj 1 1 (Wo P c d):=by
 unfold KL Aj Wo;simp only[adB,List.map_cons,List.map_nil]
variable [aW]
theorem F9(P:PL)(s:dI)(c:Ch)(hn:Nk P.cj/\Nk P.imp/\Nk P.ret/\Nk c.cj/\Nk c.imp/\Nk c.ret)(hf:P.fl.length<=800000/\c.fl.length<=100000/\P.sp.length<=900000)(h:aw Tryz.prog 51 [.ptr 0 0,cP (aZ s)] 7 (mw P) 8 [.ptr 12 0,.dv (I 0)] (QB P c)):bX Tryz.prog 17 [.ptr 0 0,cP (aZ s)] 7 (Aj 1 1 P) 0 (fun rs k=>∃done:SM,done.Perm c.st/\rs=[.dv (I c.sp.id),.dv (I 0)]/\k=Aj 1 1 (Wo P c done)):=by
 refine mF aG mixed (eY _) (fL _) Tryz.func17 rfl rfl (by kernel_rfl) ?_
 repeat refine gG ?_
 refine .inr (cl [0,1,2,3,4,5,6] h (by kernel_rfl) rfl rfl ?_)
 refine adh (fun h=>(by cases h)) fun _=>?_
 refine⟨LpS,fun z=>⟨17,[(0,.ptr 0 0),(6,.ptr 13 0),(23,.ptr 16 0)],poK P c z⟩,fun z=>(z.done++z.left).Perm c.st,fun z=>z.left.length,⟨c.st,[]⟩,fun z=>rfl,?_,List.Perm.refl _,?_⟩
 ·refine⟨⟨rfl,rfl,rfl,tv⟩,?_,rfl,rfl⟩
  repeat' first|exact trivial|rfl|exact rf|refine adh ?_ ?_
  all_goals exact .inl rfl
 ·rintro⟨left,done⟩ g1
  simp only at g1
  refine⟨tv,fun h5=>⟨(fun h6=>by cases h6),fun _=>?_⟩,fun pos cc ma=>⟨fun _=>?_,fun h6=>by cases h6⟩⟩
  ·have hz:left=[]:=List.map_eq_nil_iff.1 h5
   subst hz
   rw[List.append_nil]at g1
   refine .inr (cl [2,10] (F8 P.cj c.cj hn.1 hn.2.2.2.1) (by kernel_rfl) rfl rfl ?_)
   refine adh (by kernel_rfl) ?_
   refine .inr (cl [5,11] (vO P.imp c.imp hn.2.1 hn.2.2.2.2.1) (by kernel_rfl) rfl rfl ?_)
   refine adh (by kernel_rfl) ?_
   refine .inr (cl [6,12] (vO P.ret c.ret hn.2.2.1 hn.2.2.2.2.2) (by kernel_rfl) rfl rfl ?_)
   refine adh (by kernel_rfl) ?_
   refine .inr (.inl ⟨Bn Wg c.fl,c.fl.map bB,bW.refl _,bF (by simp;omega),by simp;omega,?_⟩)
   refine adh (by kernel_rfl) ?_
   refine .inl ⟨[aZ c.sp],rfl,⟨rf,rf,rf,rf,rf,rf,rf,tv⟩,(by simp;rfl),?_⟩
   refine .inr ⟨[aZ c.sp],bW.refl _,bS (by simp;omega),by simp;omega,?_⟩
   refine adh (by kernel_rfl) ?_
   exact⟨_,KL 1 1 (Wo P c done) (P.sp.map aZ++[aZ c.sp]) (P.fl.map bB++c.fl.map bB),⟨done,g1,rfl,QS P c done⟩,by kernel_rfl,⟨rf,rf,tv⟩,bl (k:=KL 1 1 (Wo P c done) (P.sp.map aZ++[aZ c.sp]) (P.fl.map bB++c.fl.map bB)) rfl⟩
  ·have ma:(left.map fun p=>DV.fV (r5 p.1) (aR p.2))[pos]?=some cc:=ma
   rw[adk]at ma
   obtain⟨⟨k,l⟩,hk,rfl⟩:∃p,left[pos]?=some p/\cc=DV.fV (r5 p.1) (aR p.2):=by
    cases hq:left[pos]? with
    |none=>rw[hq]at ma;cases ma
    |some p=>rw[hq]at ma;exact⟨p,rfl,by simpa using ma.symm⟩
   have GV:((done++[(k,l)])++left.eraseIdx pos).Perm c.st:=by
    rw[adJ];exact((tF hk).append_left done).symm.trans g1
   have hc:By P.st (done++[(k,l)])=if l=[]then s0 (By P.st done) k else aN (By P.st done) k l:=by unfold By;rw[adI];rfl
   refine⟨gi l,?_⟩
   rw[show(qR left).eraseIdx pos=qR (left.eraseIdx pos)from(qA _ left pos).symm]
   refine adh (fun h=>?_) fun h=>?_
   ·have hl:l=[]:=by cases l with
     |nil=>rfl
     |cons=>cases h
    rw[if_pos hl]at hc
    refine⟨mX,r5 k,rfl,rfl,?_⟩
    rw[show iJ (qR (By P.st done)) (r5 k)=qR (By P.st (done++[(k,l)]))by rw[hc];exact T0 jc (By P.st done) k]
    refine adh (by kernel_rfl) ?_
    refine⟨⟨left.eraseIdx pos,done++[(k,l)]⟩,?_,GV,?_⟩
    ·refine⟨⟨rfl,rfl,rfl,tv⟩,?_,rfl,rfl⟩
     repeat' first|exact trivial|rfl|exact rf|refine adh ?_ ?_
     all_goals exact .inl rfl
    ·have:=(adj.1 hk).1
     show(left.eraseIdx pos).length<left.length
     rw[List.length_eraseIdx_of_lt this];omega
   ·have hl:l≠[]:=fun e=>by subst e;cases h
    rw[if_neg hl]at hc
    refine⟨mX,r5 k,rfl,rfl,aR l,⟨rf,tv⟩,rfl,false,fun _=>⟨nW (By P.st done) _,gi _⟩,?_⟩
    rw[show dh (qR (By P.st done)) (r5 k) (aR l)=qR (By P.st (done++[(k,l)]))by rw[hc];exact cY jc (By P.st done) k l]
    refine adh (by kernel_rfl) ?_
    refine⟨⟨left.eraseIdx pos,done++[(k,l)]⟩,?_,GV,?_⟩
    ·refine⟨⟨rfl,rfl,rfl,tv⟩,?_,rfl,rfl⟩
     repeat' first|exact trivial|rfl|exact rf|refine adh ?_ ?_
     all_goals exact .inl rfl
    ·have:=(adj.1 hk).1
     show(left.eraseIdx pos).length<left.length
     rw[List.length_eraseIdx_of_lt this];omega
end
section
open Go.TM
theorem Dq:∀(d m:SM),Nk m->Nk (By m d)
 |[],_,h=>h
 |p::d,m,h=>by
  show Nk (By (if p.2=[]then s0 m p.1 else aN m p.1 p.2) d)
  refine Dq d _ ?_
  split
  ·exact h.del _
  ·exact h.put _ _
theorem tG:∀(d m:SM),Nk m->Nk d->∀k,aV (By m d) k=(match aV d k with
 |some l=>if l=[]then none else some l
 |none=>aV m k)
 |[],_,_,_,_=>rfl
 |(q,l)::d,m,hm,h,k=>by
  have hd:Nk d:=(List.nodup_cons.1 h).2
  have hq:q∉d.map (·.1):=(List.nodup_cons.1 h).1
  show aV (By (if l=[]then s0 m q else aN m q l) d) k=_
  have T8:Nk (if l=[]then s0 m q else aN m q l):=by
   split
   ·exact hm.del _
   ·exact hm.put _ _
  rw[tG d _ T8 hd k]
  by_cases hk:q=k
  ·subst hk
   rw[mS hq]
   simp only[aV,if_true]
   split
   ·rw[E7 hm,if_pos rfl]
   ·rw[iY,if_pos rfl]
  ·simp only[aV,if_neg hk]
   cases aV d k with
   |some x=>rfl
   |none=>
    simp only
    split
    ·rw[E7 hm,if_neg hk]
    ·rw[iY,if_neg hk]
theorem QT{m d b:SM}(hm:Nk m)(hb:Nk b)(h:d.Perm b):(By m d).Perm (By m b):=by
 have hd:Nk d:=hb.perm h.symm
 refine Bx (Dq d m hm) (Dq b m hm) fun k=>?_
 rw[tG d m hm hd,tG b m hm hb,A3 hd h]
variable [aW]
theorem IS(P:PL)(s:dI)(c:Ch)(hn:Nk P.cj/\Nk P.imp/\Nk P.ret/\Nk c.cj/\Nk c.imp/\Nk c.ret)(hf:P.fl.length<=800000/\c.fl.length<=100000/\P.sp.length<=900000)(aq:Nk P.st/\Nk c.st)(h:aw Tryz.prog 51 [.ptr 0 0,cP (aZ s)] 7 (mw P) 8 [.ptr 12 0,.dv (I 0)] (QB P c)):aw Tryz.prog 17 [.ptr 0 0,cP (aZ s)] 7 (Aj 1 1 P) 0 [.dv (I c.sp.id),.dv (I 0)] (Aj 1 1 (Wo P c c.st)):=
 rO (lY (F9 P s c hn hf h) fun r k ⟨done,hp,h1,h2⟩=>⟨h1,h2▸.cons (.refl _) (.cons (.omap 0 0 eZ ((QT aq.1 aq.2 hp).map _)) (.refl _))⟩)
end
section
open Go.TM
variable [aW]
theorem jg{f:Nat}{P:PL}{c:Ch}{a rs:List AV}{K':ae}{ex:Nat}(h:aw Tryz.prog f a 14 (dP 1 1 P c) ex rs K'):aw Tryz.prog f a 14 (dP 0 0 P c) ex rs K':=
 cQ 5 (K0:=dP 0 0 P c) (cQ 6 (K0:=dP 1 0 P c) h ⟨⟨_,rfl,rfl,fun j hj=>(by match j,hj with|0,_=>exact .cells (.same _ (.same _ (.same _ (.same _ (.same _ (.same _ (.same _ (.same _ (.same _ (.same _ (.same _ (.same _ (.same _ (.qW .nil))))))))))))))|1,_=>exact .refl _|2,_=>exact .refl _|3,_=>exact .refl _|4,_=>exact .refl _|5,_=>exact .refl _|j+7,_=>exact .refl _)⟩,iI.refl _ _ _ _⟩)
  ⟨⟨_,rfl,rfl,fun j hj=>(by match j,hj with|0,_=>exact .cells (.same _ (.same _ (.same _ (.same _ (.same _ (.same _ (.same _ (.same _ (.same _ (.same _ (.same _ (.same _ (.qW (.same _ .nil))))))))))))))|1,_=>exact .refl _|2,_=>exact .refl _|3,_=>exact .refl _|4,_=>exact .refl _|6,_=>exact .refl _|j+7,_=>exact .refl _)⟩,iI.refl _ _ _ _⟩
theorem QU{f:Nat}{P:PL}{a rs:List AV}{K':ae}{ex:Nat}(h:aw Tryz.prog f a 7 (Aj 1 1 P) ex rs K'):aw Tryz.prog f a 7 (mw P) ex rs K':=
 cQ 3 (K0:=mw P) (cQ 4 (K0:=Aj 1 0 P) h ⟨⟨_,rfl,rfl,fun j hj=>(by match j,hj with|0,_=>exact .cells (.same _ (.same _ (.same _ (.same _ (.same _ (.same _ (.same _ (.same _ (.qW (.same _ (.same _ .nil)))))))))))|1,_=>exact .refl _|2,_=>exact .refl _|3,_=>exact .refl _|5,_=>exact .refl _|6,_=>exact .refl _|j+7,_=>exact .refl _)⟩,iI.refl _ _ _ _⟩)
  ⟨⟨_,rfl,rfl,fun j hj=>(by match j,hj with|0,_=>exact .cells (.same _ (.same _ (.same _ (.same _ (.same _ (.same _ (.same _ (.qW (.same _ (.same _ (.same _ .nil)))))))))))|1,_=>exact .refl _|2,_=>exact .refl _|4,_=>exact .refl _|5,_=>exact .refl _|6,_=>exact .refl _|j+7,_=>exact .refl _)⟩,iI.refl _ _ _ _⟩
end
end Go.Proofs.YtfpebgpgabjieaaGreatDoor
