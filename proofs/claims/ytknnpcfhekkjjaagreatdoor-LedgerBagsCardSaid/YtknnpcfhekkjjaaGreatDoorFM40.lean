import Derived.Test.YtknnpcfhekkjjaaGreatDoorFM47
import Derived.Test.YtknnpcfhekkjjaaGreatDoorFM39
import Derived.Test.YtknnpcfhekkjjaaGreatDoorFM30
import Derived.Test.YtknnpcfhekkjjaaGreatDoorFM38
import Derived.Test.YtknnpcfhekkjjaaGreatDoorFM22
set_option linter.all false
namespace Go.Proofs.YtknnpcfhekkjjaaGreatDoor
set_option maxRecDepth 100000
set_option maxHeartbeats 8000000
section
open Go.TM
def Out(sh g:Int):Prop:=0<=g/\g<=9223372036854775807/\(g-sh*4294967296<0\/1000<=g-sh*4294967296)
structure NX(sh:Int)(s:dW):Prop where
 len:1<=s.mv.length/\s.mv.length<=3
 aL:vU s.aL
 mv:(s.kind=5/\∃m g,s.mv=[m]/\m.fr=0/\m.n=3/\m.ps=[⟨g,0,3⟩]/\Out sh g)\/(j9 s.kind=false/\∀m∈s.mv,m.ps=[])
theorem NX.one{sh a t kd fr to it n:Int}(hk:j9 kd=false):NX sh (iX a t kd fr to it n []):=
 ⟨⟨by simp[iX],by simp[iX]⟩,by unfold vU;simp[iX],.inr ⟨hk,fun m hm=>by simp only[iX,abN]at hm;subst hm;rfl⟩⟩
theorem DD(R:RL)(n:List Int)(p:Int)(hs:0<=R.sh/\R.sh<=11):NX R.sh (ey R n p):=by
 unfold ey
 have b3:=eu n (p+3) 4 (by omega)
 have b4:=eu n (p+4) 9 (by omega)
 split
 ·exact⟨⟨by simp,by simp⟩,by unfold vU;simp,.inr ⟨rfl,fun m hm=>by
   simp only[abO,List.mem_nil_iff,or_false]at hm
   rcases hm with rfl|rfl<;>rfl⟩⟩
 split
 ·refine⟨⟨by simp,?_⟩,by unfold vU;simp,.inr ⟨rfl,fun m hm=>?_⟩⟩
  ·simp only[List.length_cons];split<;>simp
  ·simp only[abO]at hm
   rcases hm with rfl|hm
   ·rfl
   ·split at hm
    ·rw[abN]at hm;subst hm;rfl
    ·cases hm
 split
 ·exact NX.one rfl
 split
 ·exact NX.one rfl
 split
 ·have hr:1+pick n (p+3) 4=1\/1+pick n (p+3) 4=2\/1+pick n (p+3) 4=3\/1+pick n (p+3) 4=4:=by omega
  generalize 1+pick n (p+3) 4=r at hr
  have key:∀(r:Int) (f:Bool) (x:Pc),(r=1\/r=2\/r=3\/r=4)->x.tk.length+x.bk.length<=3/\x.tk.length+x.gv.length<=3/\1<=x.tk.length->∀a t tm,NX R.sh ⟨0,4,a,t,bif f then -2-r else r,tm,rT a tm x.tk++rU a tm (bif f then x.bk else x.gv)⟩:=by
   intro r f x hr h1 a t tm
   refine⟨⟨by simp[rT,rU];omega,by cases f<;>simp[rT,rU]<;>omega⟩,?_,.inr ⟨rfl,fun m hm=>?_⟩⟩
   ·unfold vU;cases f<;>simp<;>omega
   ·rcases abQ.1 hm with hm|hm<;>(simp only[rT,rU,ab9]at hm;obtain⟨q,_,rfl⟩:=hm;rfl)
  rcases hr with rfl|rfl|rfl|rfl
  ·exact key 1 (bif (1:Int)==1 then pick n (p+4) 3==0 else false) (dB[1]'(by decide)) (.inl rfl) (by decide) _ _ _
  ·exact key 2 (bif (2:Int)==1 then pick n (p+4) 3==0 else false) (dB[2]'(by decide)) (.inr (.inl rfl)) (by decide) _ _ _
  ·exact key 3 (bif (3:Int)==1 then pick n (p+4) 3==0 else false) (dB[3]'(by decide)) (.inr (.inr (.inl rfl))) (by decide) _ _ _
  ·exact key 4 (bif (4:Int)==1 then pick n (p+4) 3==0 else false) (dB[4]'(by decide)) (.inr (.inr (.inr rfl))) (by decide) _ _ _
 split
 ·exact NX.one rfl
 ·refine⟨⟨by simp[iX],by simp[iX]⟩,by unfold vU;simp[iX],.inl ⟨rfl,_,_,rfl,rfl,rfl,rfl,?_⟩⟩
  have h1:(R.sh+1).tmod 12=R.sh+1/\R.sh<=10\/(R.sh+1).tmod 12=0/\R.sh=11:=by
   rw[Int.tmod_eq_emod_of_nonneg (by omega)];omega
  unfold Out
  rcases h1 with⟨h1,h2⟩|⟨h1,h2⟩<;>rw[h1]<;>omega
def Gen(sh:Int)(s:dW):Prop:=j9 s.kind=false\/(∀m∈s.mv,m.ps=[])\/∀m∈s.mv,∃g,g<=9223372036854775807/\m.ps=[⟨g,0,3⟩]/\(s.kind=5\/m.fr=0/\Out sh g)
theorem IL{sh:Int}{s:dW}(h:NX sh s):Gen sh s/\s.mv.length<=4/\vU s.aL/\∀m∈s.mv,m.ps.length<=20:=by
 have hl:=h.len
 rcases h.mv with⟨hk,m,g,e,e1,e2,e3,e4⟩|⟨hk,hp⟩
 ·refine⟨.inr (.inr fun m' Zh=>?_),by omega,h.aL,fun m' Zh=>?_⟩<;>(rw[e,abN]at Zh;subst Zh)
  ·exact⟨g,e4.2.1,e3,.inl hk⟩
  ·rw[e3];simp
 ·exact⟨.inl hk,by omega,h.aL,fun m hm=>by rw[hp m hm];decide⟩
theorem Wy{sh now:Int}{s:dW}(h:Gen sh s)(hp:iM now s=true):∀m∈s.mv,Ap sh s m:=by
 intro m hm
 simp only[iM,acj]at hp
 have hv:=ab6.1 hp.1.2 m hm
 unfold vX at hv
 rw[acj]at hv
 refine⟨hv.1,?_⟩
 have Gn:=abY hv.1
 cases hk:j9 s.kind with
 |false=>
  rw[hk]at hv
  have hn:¬(s.kind=5\/s.kind=7\/s.kind=9):=abZ hk
  exact .inr (.inr ⟨by omega,by omega,abY hv.2⟩)
 |true=>
  rw[hk]at hv
  have hy:s.kind=5\/s.kind=7\/s.kind=9:=abY hk
  have h2:=hv.2
  simp only[cond_true,acj,decide_eq_true_eq]at h2
  rcases h with h|h|h
  ·rw[h]at hk;cases hk
  ·have:=h2.1.2
   rw[h m hm,tl]at this
   omega
  ·obtain⟨g,g1,e,ho⟩:=h m hm
   have g0:0<=g:=by
    have:=(hU h2.1.1).2 ⟨g,0,3⟩ (by rw[e];exact abN.2 rfl)
    exact(ax.1 this).1
   have ZP:kh s.kind m=true:=by
    have:=hp.2
    rw[ab5 (by omega),ab5 (by omega)]at this
    simp only[cond_false,acj]at this
    exact ab6.1 this.1 m hm
   unfold kh at ZP
   rcases hy with h5|h7|h9
   ·rw[if_pos (.inr h5)]at ZP
    exact .inl ⟨h5,abY ZP,g,g0,g1,e⟩
   ·rw[if_neg (by omega),if_neg (by omega),if_pos h7]at ZP
    have:=abY ZP
    rcases ho with ho|ho<;>omega
   ·rcases ho with ho|ho
    ·omega
    ·exact .inr (.inl ⟨h9,ho.1,g,g0,g1,e,ho.2.2.2⟩)
theorem DE{R:RL}{s:dW}(h:Gen R.sh s/\s.mv.length<=4/\vU s.aL/\∀m∈s.mv,m.ps.length<=20):pw R s:=⟨h.2.2.1,h.2.1,h.2.2.2,fun hp=>Wy h.1 hp⟩
end
section
open Go.TM
theorem Qx(k:Ky):∀m:SM,b9 (b5 m k)<=cE m k.2
 |[]=>by simp[b5,aR,cE,tl]
 |(q,v)::r=>by
  have ih:=Qx k r
  have h0:=(yW k.2 r).1
  have h1:=(Ph k.2 (q,v)).1
  simp only[cE,List.map_cons,List.sum_cons]at*
  by_cases e:q=k
  ·subst e
   have:b5 ((q,v)::r) q=v:=by unfold b5;simp[aR]
   rw[this]
   have:Ao q.2 (q,v)=b9 v:=if_pos rfl
   omega
  ·have:b5 ((q,v)::r) k=b5 r k:=by unfold b5;simp only[aR];rw[if_neg e]
   rw[this];omega
theorem vd{R:RL}(h:Good R)(a it:Int):0<=cQ R a it/\cQ R a it<=1099511627776:=by
 have h1:=Qx (a,it) R.st
 have h2:=h.tb it
 have h3:=(C2 (b5 R.st (a,it))).1
 unfold cQ
 exact⟨h3,by simp only at h1;omega⟩
theorem qm{now:Int}{s:dW}(hk:0<=s.kind/\s.kind<=10)(h4:s.kind≠4)(ML:s.kind≠10)(ha:0<=s.gE/\s.gE<=1073741824)(ht:now<=s.tick/\s.tick<=1099511627776)(hl:1<=s.mv.length/\s.mv.length<=64)(hr:s.aL=-1/\s.times=0)(hm:∀m∈s.mv,vX m (j9 s.kind)=true/\kh s.kind m=true):iM now s=true:=by
 unfold iM yX
 rw[ab5 h4,ab5 ML]
 simp only[cond_false,acj,decide_eq_true_eq,ab6]
 exact⟨⟨⟨⟨hk.1,hk.2,ha.1,ha.2⟩,ht.1,ht.2,hl.1,hl.2⟩,fun m hx=>(hm m hx).1⟩,fun m hx=>(hm m hx).2,hr⟩
theorem Mp{now:Int}{s:dW}(hk:s.kind=4)(ha:0<=s.gE/\s.gE<=1073741824)(ht:now<=s.tick/\s.tick<=1099511627776)(hl:1<=s.mv.length/\s.mv.length<=64)(hm:s.mv.all (fun m=>vX m false)=true)(hc:oF s=true):iM now s=true:=by
 unfold iM yX
 rw[hk,show j9 4=false from rfl,hm,hc]
 simp only[decide_true,cond_true,Bool.and_true,acj,decide_eq_true_eq]
 exact⟨⟨by omega,by omega,ha.1,ha.2⟩,ht.1,ht.2,hl.1,hl.2⟩
theorem pM{m:fa}(h:eG m=true)(hp:m.ps=[]):vX m false=true:=by
 unfold vX;rw[h,hp];rfl
theorem lV{fr to it n:Int}{ps:List Lt}(h:0<=it/\it<5/\1<=n/\n<=1099511627776/\fr≠to/\0<=fr/\0<=to/\fr<=1073741824/\to<=1073741824):eG ⟨fr,to,it,n,ps⟩=true:=ab4 h
theorem Wz(a t tm r:Int)(f:Bool)(x:Pc)(hx:dB[r.toNat]?=some x)(ha:a=1\/a=2\/a=3\/a=4)(WA:tm=1\/tm=2)(hr:r=1\/f=false/\(r=2\/r=3\/r=4)):
 oF ⟨0,4,a,t,bif f then -2-r else r,tm,rT a tm x.tk++rU a tm (bif f then x.bk else x.gv)⟩=true/\(rT a tm x.tk++rU a tm (bif f then x.bk else x.gv)).all (fun m=>vX m false)=true:=by
 rcases hr with rfl|⟨rfl,rfl|rfl|rfl⟩<;>(injection hx with hx;subst hx)<;>rcases ha with rfl|rfl|rfl|rfl<;>rcases WA with rfl|rfl<;>first|exact⟨rfl,rfl⟩|(cases f<;>exact⟨rfl,rfl⟩)
theorem Uw{x:Int}(h:0<=x):0<=x.tmod 5/\x.tmod 5<5:=by rw[Int.tmod_eq_emod_of_nonneg h];omega
theorem Ux(n:List Int)(p:Int):(Ks n p=1\/Ks n p=2\/Ks n p=3\/Ks n p=4)/\1<=Ta n p/\Ta n p<=5/\Ks n p≠Ta n p:=by
 have h1:=eu n (p+1) 4 (by omega)
 have h2:=eu n (p+2) 4 (by omega)
 unfold Ta Ks
 split<;>omega
theorem Qy{R:RL}(hG:Good R)(hn:dS R.sp<=(R.sp.length:Int).tdiv 2)(n:List Int)(p:Int):iM (dS R.sp) (ey R n p)=true:=by
 obtain⟨ha,iZ,ca,hab⟩:=Ux n p
 have hi:=eu n (p+3) 5 (by omega)
 have my:=hG.sp
 have ht:dS R.sp<=(R.sp.length:Int).tdiv 2/\(R.sp.length:Int).tdiv 2<=1099511627776:=⟨hn,by rw[Int.tdiv_eq_ediv_of_nonneg (by omega)];omega⟩
 have hN:1<=Uv R n p/\Uv R n p<=1099511627776:=by
  have hb:=vd hG (Ks n p) (Tb n p)
  have key:∀M,1<=M->M<=1099511627776->1<=1+pick n (p+4) M/\1+pick n (p+4) M<=1099511627776:=fun M h1 h2=>by
   have:=eu n (p+4) M h1;omega
  exact key _ (by split<;>omega) (by split<;>omega)
 have hI:0<=Tb n p/\Tb n p<5:=hi
 have one:∀(kd fr to it k:Int),(0<=kd/\kd<=10)->kd≠4->kd≠10->j9 kd=false->eG ⟨fr,to,it,k,[]⟩=true->kh kd ⟨fr,to,it,k,[]⟩=true->iM (dS R.sp) (iX (Ks n p) ((R.sp.length:Int).tdiv 2) kd fr to it k [])=true:=fun kd fr to it k h1 h2 h3 h4 h5 h6=>
  qm h1 h2 h3 (by simp only[iX];omega) ht (by simp[iX]) ⟨rfl,rfl⟩ fun m hm=>by
   simp only[iX,abN]at hm;subst hm
   exact⟨by simp only[iX,h4];exact pM h5 rfl,h6⟩
 unfold ey
 simp only[]
 split
 ·have h12:=eu n (p+4) 12 (by omega)
  have h9:=eu n (p+5) 9 (by omega)
  have h5:=Uw (x:=Tb n p+1) (by omega)
  refine qm ⟨by simp,by simp⟩ (by simp) (by simp) (by simp only;omega) ht (by simp) ⟨rfl,rfl⟩ fun m hm=>?_
  simp only[abO,List.mem_nil_iff,or_false]at hm
  rcases hm with rfl|rfl
  ·exact⟨pM (lV (by omega)) rfl,rfl⟩
  ·exact⟨pM (lV (by omega)) rfl,rfl⟩
 split
 ·refine qm ⟨by simp,by simp⟩ (by simp) (by simp) (by simp only;omega) ht ⟨by simp,by simp only[List.length_cons];split<;>simp⟩ ⟨rfl,rfl⟩ fun m hm=>?_
  rcases abO.1 hm with rfl|hm
  ·exact⟨pM (lV (by omega)) rfl,ab4 (by simp only;omega)⟩
  ·split at hm
   ·rename_i dq
    rw[abN]at hm;subst hm
    have hb:=vd hG (Ta n p) (zu n p)
    have hp5:=eu n (p+5) (cQ R (Ta n p) (zu n p)) (by omega)
    have hk:=Uw (x:=Tb n p+1+pick n (p+5) 4) (by have:=eu n (p+5) 4 (by omega);omega)
    have hk:0<=zu n p/\zu n p<5:=hk
    exact⟨pM (lV (by omega)) rfl,ab4 (by simp only;omega)⟩
   ·cases hm
 split
 ·exact one 3 _ _ _ _ (by omega) (by omega) (by omega) rfl (lV (by omega)) (ab4 (by simp only;omega))
 split
 ·exact one 1 _ _ _ _ (by omega) (by omega) (by omega) rfl (lV (by omega)) rfl
 split
 ·have h3:=eu n (p+3) 4 (by omega)
  have h2:=eu n (p+5) 2 (by omega)
  obtain⟨r,hr⟩:∃r,r=1+pick n (p+3) 4:=⟨_,rfl⟩
  obtain⟨tm,WA⟩:∃tm,tm=1+pick n (p+5) 2:=⟨_,rfl⟩
  rw[<-hr,<-WA]
  have ZQ:r=1\/r=2\/r=3\/r=4:=by omega
  have hf:r=1\/(bif r==1 then pick n (p+4) 3==0 else false)=false/\(r=2\/r=3\/r=4):=by
   rcases ZQ with rfl|rfl|rfl|rfl
   ·exact .inl rfl
   ·exact .inr ⟨rfl,.inl rfl⟩
   ·exact .inr ⟨rfl,.inr (.inl rfl)⟩
   ·exact .inr ⟨rfl,.inr (.inr rfl)⟩
  generalize (bif r==1 then pick n (p+4) 3==0 else false)=f at*
  obtain⟨x,hx,LY⟩:∃x,dB[r.toNat]?=some x/\1<=x.tk.length/\x.tk.length<=10/\x.gv.length<=10/\x.bk.length<=10:=by
   rcases ZQ with rfl|rfl|rfl|rfl<;>exact⟨_,rfl,by decide⟩
  rw[hx]
  have hc:=Wz (Ks n p) ((R.sp.length:Int).tdiv 2) tm r f x hx ha (by omega) hf
  refine Mp rfl (by simp only;omega) ht ⟨?_,?_⟩ hc.2 hc.1
  ·simp[rT,rU];omega
  ·cases f<;>simp[rT,rU]<;>omega
 split
 ·exact one 6 _ _ _ _ (by omega) (by omega) (by omega) rfl (lV (by omega)) rfl
 ·have h9:=eu n (p+4) 9 (by omega)
  have sa:=hG.sh
  have hg:0<=(R.sh+1).tmod 12*4294967296+pick n (p+4) 9:=by
   rw[Int.tmod_eq_emod_of_nonneg (by omega)];omega
  generalize (R.sh+1).tmod 12*4294967296+pick n (p+4) 9=g at*
  refine qm ⟨by simp[iX],by simp[iX]⟩ (by simp[iX]) (by simp[iX]) (by simp only[iX];omega) ht (by simp[iX]) ⟨rfl,rfl⟩ fun m hm=>?_
  simp only[iX,abN]at hm;subst hm
  refine⟨?_,rfl⟩
  simp only[iX]
  rw[show j9 5=true from rfl]
  unfold vX
  rw[lV (by omega)]
  have e3:b9 [⟨g,0,3⟩]=3:=by rw[lx (Aw hg)];rfl
  have e4:me [⟨g,0,3⟩]=[⟨g,0,3⟩]:=by unfold me;rw[Aw hg,cond_true,P6]
  simp only[Aw hg,e4,e3];rfl
end
section
open Go.TM
theorem Qz{R:RL}{s:dW}{m:fa}(hG:Good R)(hm:Ap R.sh s m)(h0:(cw R s m).1=0)(a j:Int)(ha:0<a):
 b9 (b5 (cw R s m).2.st (a,j))=b9 (b5 R.st (a,j))+if j=m.it then(if a=m.to then m.n else 0)-(if a=m.fr then m.n else 0)else 0:=by
 have hb:=abY hm.base
 have hS:=hG.th (m.fr,m.it)
 have sa:=hG.sh
 have oH:=hG.fl
 have vJ:0<=R.sh*4294967296+R.fl.length:=by omega
 have hT:=y4 (x:=⟨R.sh*4294967296+R.fl.length,0,m.n⟩) (hG.th (m.to,m.it)) ⟨vJ,by simp,by simp only;omega,by simp only;omega⟩ (by omega)
 by_cases dQ:0<m.fr
 ·have hk:m.ps=[]:=by
   rcases hm.ps with h|h|h
   ·omega
   ·omega
   ·exact h.2.2
  rw[xc R s m dQ hk]at h0⊢
  by_cases hc:b9 (b5 R.st (m.fr,m.it))<m.n
  ·rw[if_pos hc]at h0;cases h0
  rw[if_neg hc]
  have hv:=gz hS.1 (by omega)
  have hn:m.n<=dD (b5 R.st (m.fr,m.it)):=by rw[lx hv]at hc;omega
  obtain⟨t1,t2,t3,t4⟩:=Ke (wK m.it) (by omega:0<=m.n) hS.1 hn
  have ts:=(FD (wK m.it) (by omega:0<=m.n) hS.1 hn).2
  generalize fW (b5 R.st (m.fr,m.it)) m.n (wK m.it)=tk at*
  have b7:b5 (aS R.st (m.fr,m.it) tk.2) (m.to,m.it)=b5 R.st (m.to,m.it):=by
   rw[iN,if_neg];intro h;injection h with h1;omega
  have e1:b9 (b5 (aS R.st (m.fr,m.it) tk.2) (a,j))=b9 (b5 R.st (a,j))-if j=m.it then(if a=m.fr then m.n else 0)else 0:=by
   rw[iN]
   by_cases h1:(m.fr,m.it)=(a,j)
   ·injection h1 with h1 h2
    subst h1;subst h2
    rw[if_pos rfl,if_pos rfl,if_pos rfl,lx (gz t2 (by omega)),lx hv,ts]
   ·rw[if_neg h1]
    split
    ·split
     ·rename_i h2 h3;subst h2;subst h3;exact absurd rfl h1
     ·omega
    ·omega
  simp only
  rw[b7]
  by_cases ka:0<m.to
  ·rw[if_pos ka,iN]
   by_cases h1:(m.to,m.it)=(a,j)
   ·injection h1 with h1 h2
    subst h1;subst h2
    rw[if_pos rfl,hT.2,if_pos rfl,if_pos rfl,if_neg (by omega)]
    simp only;omega
   ·rw[if_neg h1,e1]
    split
    ·rename_i h3
     have h2:¬a=m.to:=fun h2=>h1 (by rw[h2,h3])
     rw[if_neg h2];omega
    ·omega
  ·rw[if_neg ka,e1,if_neg (by omega:¬a=m.to)]
   split<;>omega
 ·have rP:m.fr=0:=by omega
  have ka:0<m.to:=by omega
  rw[C6 R s m rP ka]at h0⊢
  by_cases he:zT R s.kind m≠0
  ·rw[if_pos he]at h0;exact absurd h0 he
  rw[if_neg he]at h0⊢
  by_cases hc:1099511627776<cE R.st m.it+m.n
  ·rw[if_pos hc]at h0;cases h0
  rw[if_neg hc]
  simp only
  rw[iN,if_neg (by omega:¬a=m.fr)]
  by_cases h1:(m.to,m.it)=(a,j)
  ·injection h1 with h1 h2
   subst h1;subst h2
   rw[if_pos rfl,hT.2,if_pos rfl,if_pos rfl]
   simp only;omega
  ·rw[if_neg h1]
   split
   ·rename_i h3
    have h2:¬a=m.to:=fun h2=>h1 (by rw[h2,h3])
    rw[if_neg h2];omega
   ·omega
theorem IN{R:RL}{s:dW}{m:fa}(hb:eG m=true)(h5:s.kind≠5)(h9:s.kind≠9)(hp:m.ps=[])(hT:m.fr=0->cE R.st m.it+m.n<=1099511627776):
 (cw R s m).1=if 0<m.fr/\b9 (b5 R.st (m.fr,m.it))<m.n then 10 else 0:=by
 have hb:=abY hb
 by_cases dQ:0<m.fr
 ·rw[xc R s m dQ hp]
  by_cases hc:b9 (b5 R.st (m.fr,m.it))<m.n
  ·rw[if_pos hc,if_pos ⟨dQ,hc⟩]
  ·rw[if_neg hc,if_neg (show¬(0<m.fr/\b9 (b5 R.st (m.fr,m.it))<m.n)from fun h=>hc h.2)]
 ·have he:zT R s.kind m=0:=by unfold zT;rw[if_neg h5,if_neg h9]
  have:=hT (by omega)
  rw[C6 R s m (by omega) (by omega),if_neg (show¬zT R s.kind m≠0 from fun h=>h he),if_neg (show¬1099511627776<cE R.st m.it+m.n by omega),if_neg (show¬(0<m.fr/\b9 (b5 R.st (m.fr,m.it))<m.n)from fun h=>dQ h.1)]
end
section
open Go.TM
def Xu(m:fa):Bool:=decide (m.fr<=5/\m.to<=5/\(m.fr=0->m.n<=14))
theorem WB(a tm r:Int)(f:Bool)(x:Pc)(hx:dB[r.toNat]?=some x)(ha:a=1\/a=2\/a=3\/a=4)(WA:tm=1\/tm=2)(hr:r=1\/r=2\/r=3\/r=4):(rT a tm x.tk++rU a tm (bif f then x.bk else x.gv)).all Xu=true:=by
 rcases hr with rfl|rfl|rfl|rfl<;>(injection hx with hx;subst hx)<;>rcases ha with rfl|rfl|rfl|rfl<;>rcases WA with rfl|rfl<;>cases f<;>rfl
theorem Kt(R:RL)(n:List Int)(p:Int):∀m∈(ey R n p).mv,Xu m=true:=by
 obtain⟨ha,iZ,ca,hab⟩:=Ux n p
 have h12:=eu n (p+4) 12 (by omega)
 have h9:=eu n (p+5) 9 (by omega)
 have nb:∀fr to it k ps,(fr<=5/\to<=5/\(fr=0->k<=14))->Xu ⟨fr,to,it,k,ps⟩=true:=fun _ _ _ _ _ h=>ab4 h
 have one:∀a t kd fr to it k ps,(fr<=5/\to<=5/\(fr=0->k<=14))->∀m∈(iX a t kd fr to it k ps).mv,Xu m=true:=fun a t kd fr to it k ps h m hm=>by
  simp only[iX,abN]at hm;subst hm;exact nb _ _ _ _ _ h
 unfold ey
 simp only[]
 split
 ·intro m hm
  simp only[abO,List.mem_nil_iff,or_false]at hm
  rcases hm with rfl|rfl
  ·exact nb _ _ _ _ _ (by omega)
  ·exact nb _ _ _ _ _ (by omega)
 split
 ·intro m hm
  rcases abO.1 hm with rfl|hm
  ·exact nb _ _ _ _ _ (by omega)
  ·split at hm
   ·rw[abN]at hm;subst hm;exact nb _ _ _ _ _ (by omega)
   ·cases hm
 split
 ·exact one _ _ _ _ _ _ _ _ (by omega)
 split
 ·exact one _ _ _ _ _ _ _ _ (by omega)
 split
 ·have h3:=eu n (p+3) 4 (by omega)
  have h2:=eu n (p+5) 2 (by omega)
  obtain⟨r,hr⟩:∃r,r=1+pick n (p+3) 4:=⟨_,rfl⟩
  obtain⟨tm,WA⟩:∃tm,tm=1+pick n (p+5) 2:=⟨_,rfl⟩
  rw[<-hr,<-WA]
  have ZQ:r=1\/r=2\/r=3\/r=4:=by omega
  generalize (bif r==1 then pick n (p+4) 3==0 else false)=f at*
  obtain⟨x,hx⟩:∃x,dB[r.toNat]?=some x:=by rcases ZQ with rfl|rfl|rfl|rfl<;>exact⟨_,rfl⟩
  rw[hx]
  exact ab6.1 (WB (Ks n p) tm r f x hx ha (by omega) ZQ)
 split
 ·exact one _ _ _ _ _ _ _ _ (by omega)
 ·exact one _ _ _ _ _ _ _ _ (by omega)
theorem QA{R:RL}{s:dW}(hG:Good R)(hl:R.fl.length+s.mv.length<=160)(hm:∀m∈s.mv,Ap R.sh s m)(hw:∀m∈s.mv,Xu m=true):∀(i:Nat) (j:Int),cE (cI R s i).2.st j<=cE R.st j+14*i
 |0,j=>by show cE R.st j<=_;omega
 |i+1,j=>by
  have ih:=QA hG hl hm hw i j
  obtain⟨h1,h2⟩:=nY hG hl hm i
  by_cases h0:(cI R s i).1=0
  ·cases hx:s.mv[i]? with
   |none=>
    have:cI R s (i+1)=cI R s i:=by unfold cI;rw[abR,hx];simp
    rw[this];omega
   |some m=>
    have hi:=(abI.1 hx).1
    have pE:=hm m (abK hx)
    rw[jR hx h0]
    by_cases hp:(cw (cI R s i).2 s m).1=0
    ·have:=(C7 h1 (by omega) (by rw[(rY R s i).2];exact pE) hp).2.2 j
     rw[this]
     have hb:=abY pE.base
     have hq:=abY (hw m (abK hx))
     split
     ·split<;>split<;>omega
     ·omega
    ·rw[Gb hp];omega
  ·rw[lU h0 1];omega
theorem Tc{R:RL}{s:dW}(hG:Good R)(hl:R.fl.length+s.mv.length<=160)(hl4:s.mv.length<=4)(h5:s.kind≠5)(h9:s.kind≠9)(hm:∀m∈s.mv,Ap R.sh s m)(hw:∀m∈s.mv,Xu m=true)(hT:∀j,cE R.st j<=1000000){i:Nat}{m:fa}(hx:s.mv[i]?=some m)(h0:(cI R s i).1=0):
 (cI R s (i+1)).1=(if 0<m.fr/\cQ (cI R s i).2 m.fr m.it<m.n then 10 else 0)/\
 ((cI R s (i+1)).1=0->∀a j,0<a->cQ (cI R s (i+1)).2 a j=cQ (cI R s i).2 a j+if j=m.it then(if a=m.to then m.n else 0)-(if a=m.fr then m.n else 0)else 0):=by
 have hi:=(abI.1 hx).1
 have wD:=abK hx
 have pE:=hm m wD
 have hq:=abY (hw m wD)
 obtain⟨h1,h2⟩:=nY hG hl hm i
 have hp:m.ps=[]:=by
  rcases pE.ps with h|h|h
  ·exact absurd h.1 h5
  ·exact absurd h.1 h9
  ·exact h.2.2
 have htb:=QA hG hl hm hw i m.it
 have:=hT m.it
 rw[jR hx h0]
 exact⟨IN pE.base h5 h9 hp (fun hf=>by have:=hq.2.2 hf;omega),fun h=>Qz h1 (by rw[(rY R s i).2];exact pE) h⟩
def QB(R:RL):Prop:=dS R.sp<=(R.sp.length:Int).tdiv 2
theorem Td(R:RL)(n:List Int)(p:Int):(ey R n p).tick=(R.sp.length:Int).tdiv 2:=by
 unfold ey
 simp only[]
 split
 ·rfl
 split
 ·rfl
 split
 ·rfl
 split
 ·rfl
 split
 ·split<;>rfl
 split<;>rfl
theorem IP{R:RL}(n:List Int)(p:Int):QB (GN R (ey R n p)):=by
 show dS (R.sp++[gU R (ey R n p)])<=((R.sp++[gU R (ey R n p)]).length:Int).tdiv 2
 rw[Gd,show(gU R (ey R n p)).tick=(ey R n p).tick from rfl,Td,abU,List.length_singleton,Int.tdiv_eq_ediv_of_nonneg (by omega),Int.tdiv_eq_ediv_of_nonneg (by omega)]
 omega
def qB(f:Int->Int):List Int:=[f 0,f 1,f 2,f 3,f 4]
def bH(R:RL)(a:Int):List Int:=qB (cQ R a)
def MP(it n:Int):List Int:=(List.replicate 5 0).set it.toNat n
theorem ZR{k:Int}(h:0<=k/\k<5):k=0\/k=1\/k=2\/k=3\/k=4:=by omega
theorem DF{it:Int}(n:Int)(h:0<=it/\it<5):MP it n=qB fun j=>if j=it then n else 0:=by
 rcases ZR h with rfl|rfl|rfl|rfl|rfl<;>rfl
theorem rZ{f g:Int->Int}(h:∀j,0<=j->j<5->f j=g j):qB f=qB g:=by
 unfold qB
 rw[h 0 (by omega) (by omega),h 1 (by omega) (by omega),h 2 (by omega) (by omega),h 3 (by omega) (by omega),h 4 (by omega) (by omega)]
theorem Ku(f:Int->Int){k:Int}(h:0<=k/\k<5):(qB f)[k.toNat]?=some (f k):=by
 rcases ZR h with rfl|rfl|rfl|rfl|rfl<;>rfl
theorem iQ{f:Int->Int}{i:Nat}{x:Int}(h:(qB f)[i]?=some x):i<5/\x=f i:=by
 match i,h with
 |0,h=>exact⟨by omega,(Option.some.inj h).symm⟩
 |1,h=>exact⟨by omega,(Option.some.inj h).symm⟩
 |2,h=>exact⟨by omega,(Option.some.inj h).symm⟩
 |3,h=>exact⟨by omega,(Option.some.inj h).symm⟩
 |4,h=>exact⟨by omega,(Option.some.inj h).symm⟩
theorem Gp{f:Int->Int}{p:Int->Prop}(h:∀j,0<=j->j<5->p (f j)):∀x∈qB f,p x:=fun x hx=>by
 obtain⟨i,hi⟩:=ab3 hx
 obtain⟨h1,rfl⟩:=iQ hi
 exact h _ (by omega) (by omega)
theorem zv{R R':RL}{m:fa}(hb:eG m=true)(h:∀a j,0<a->cQ R' a j=cQ R a j+if j=m.it then(if a=m.to then m.n else 0)-(if a=m.fr then m.n else 0)else 0):
 (∀a,0<a->a≠m.fr->a≠m.to->bH R a=bH R' a)/\(0<m.fr->List.zipWith (·-·) (bH R m.fr) (MP m.it m.n)=bH R' m.fr)/\(0<m.to->List.zipWith (·+·) (bH R m.to) (MP m.it m.n)=bH R' m.to):=by
 have hb:=abY hb
 rw[DF m.n ⟨hb.1,hb.2.1⟩]
 refine⟨fun a ha h1 h2=>rZ fun j _ _=>?_,fun hf=>?_,fun ht=>?_⟩
 ·rw[h _ j ha,if_neg h1,if_neg h2];split<;>omega
 ·show qB (fun j=>cQ R m.fr j-(if j=m.it then m.n else 0))=qB (cQ R' m.fr)
  refine rZ fun j _ _=>?_
  rw[h _ j hf,if_pos rfl,if_neg (show¬m.fr=m.to by omega)]
  split<;>omega
 ·show qB (fun j=>cQ R m.to j+(if j=m.it then m.n else 0))=qB (cQ R' m.to)
  refine rZ fun j _ _=>?_
  rw[h _ j ht,if_pos rfl,if_neg (show¬m.to=m.fr by omega)]
  split<;>omega
end
section
open Go.TM
def xh(x:Int):Prop:=0<=x/\x<=1099511627776
variable [bG]
theorem WC(l:List Int):(qt (.aB 1 (l.map I))).Le (Ints l):=DV.Le.of_eq (by show DV.sl 1 (zQ (l.map I))=_;rw[gK fun _=>rfl])
theorem bI5{n:Nat}(h:n<=1000000):(n:Int)*(nth lR (nth lR 40).elem).bytes<=140737488355328:=by
 rw[show(nth lR (nth lR 40).elem).bytes=8 by kernel_rfl];omega
theorem zw(b:List Int)(hl:b.length<=64)(hb:∀x∈b,xh x):aI Tryz.prog 91 [Ints b] [B true]:=by
 refine pO Tryz.func91 rfl (by kernel_rfl) rfl ?_
 refine abG (fun h=>?_) fun _=>?_
 ·have:=abY h;rw[abH]at this;omega
 refine⟨Nat,fun i=>⟨0,[(8,.dv (Ints b)),(9,.dv (I b.length)),(10,.dv (I i))],[]⟩,fun i=>i<=b.length,fun i=>b.length-i,0,fun _=>rfl,⟨⟨rf,by rw[abH];exact rf,rf,tv⟩,tv,rfl,rfl⟩,abW _,?_⟩
 intro i hi
 refine abG (fun h=>?_) fun _=>⟨rf,tv⟩
 have au:i<b.length:=by have:=abY h;omega
 have hx:=aaj au
 generalize b[i]=x at hx
 have hq:=hb x (abK hx)
 refine⟨I x,fun _=>⟨by omega,by rw[abJ];simp[hx]⟩,?_⟩
 repeat first|apply g1|apply g2|apply g3|apply g4|apply g5
 refine abG (fun h=>?_) fun _=>⟨fun _=>⟨by omega,by omega⟩,i+1,jn rfl rfl rfl rfl,au,mlt au⟩
 ·simp[xh]at hq h;omega
theorem n0(a b:List Int)(he:a.length=b.length)(hl:b.length<=64)(ha:∀x∈a,xh x)(hb:∀x∈b,xh x):aI Tryz.prog 57 [Ints a,Ints b] [B true]:=by
 refine pO Tryz.func57 rfl (by kernel_rfl) rfl ?_
 have e:(((a.map I).length:Int)==((b.map I).length:Int))=true:=by rw[abH,abH,he];exact beq_self_eq_true _
 repeat first|apply g1|apply g2|apply g3|apply g4|apply g5
 refine Or.inl ?_
 refine⟨_,fun _=>(zw a (by omega) ha).ok,?_⟩
 repeat first|apply g1|apply g2|apply g3|apply g4|apply g5
 refine Or.inl ?_
 refine⟨_,fun _=>(zw b hl hb).ok,?_⟩
 repeat first|apply g1|apply g2|apply g3|apply g4|apply g5
 refine⟨DV.Le.of_eq ?_,tv⟩
 rw[e];rfl
theorem vf{f:Nat}(g:Int->Int->Int)(a b:List Int)(he:a.length=b.length)(b7:a≠[])(hl:a.length<=64)(q:Nat)(e:Int)(rs:List DV)
 (hq:(q<a.length/\e≠0/\rs=[.az,I e])\/(q=a.length/\rs=[Ints (List.zipWith g a b),I 0]))
 (cr:∀i x y,i<q->a[i]?=some x->b[i]?=some y->aI Tryz.prog f [I x,I y] [I (g x y),I 0])
 (cW:∀x y,a[q]?=some x->b[q]?=some y->aI Tryz.prog f [I x,I y] [I 0,I e]):aI Tryz.prog 58 [Ints a,Ints b,.fn f []] rs:=by
 refine pO Tryz.func58 rfl (by kernel_rfl) rfl ?_
 have FT:((a.map I).length:Int)=(a.length:Int):=by rw[abH]
 refine⟨I 0,⟨rf,tv⟩,by omega,Int.le_refl _,bI5 (by rw[abH];omega),by omega,false,(fun h=>by cases h),?_⟩
 refine⟨fun x hx d hd=>?_,fun x hx d hd=>?_,fun h=>?_,?_,?_⟩
 ·obtain⟨_,rfl⟩:=List.mem_replicate.1 hx;obtain rfl:=abN.1 hd;rfl
 ·obtain⟨_,_,rfl⟩:=ab9.1 hx;obtain rfl:=abN.1 hd;rfl
 ·have:=congrArg List.length h;simp at this;exact b7 this
 ·simp
 refine⟨Nat,fun i=>⟨1,[(2,.dv (.fn f [])),(8,.own 0 0 0 []),(19,.dv (Ints b)),(20,.dv (I (b.map I).length)),(21,.dv (I i))],[(0,.tree 0 0 (.aB 1 (((List.zipWith g a b).take i++a.drop i).map I)))]⟩,fun i=>i<=q/\i<=b.length,fun i=>b.length-i,0,fun _=>rfl,jn rfl rfl rfl rfl,⟨abW _,abW _⟩,?_⟩
 rintro i ⟨hiq,hi⟩
 have hc:∀i,i<=a.length->(List.zipWith g a b).length=a.length/\(((List.zipWith g a b).take i++a.drop i).map I).length=a.length:=fun i hi=>by simp;omega
 refine abG (fun h=>?_) fun h=>?_
 rotate_left
 ·have hie:i=b.length:=by have:=abZ h;rw[abH]at this;omega
  rcases hq with⟨h1,_⟩|⟨h1,rfl⟩
  ·omega
  have:=WC (List.zipWith g a b)
  refine⟨?_,rf,tv⟩
  rw[List.take_of_length_le (by rw[(hc 0 (by omega)).1];omega),List.drop_eq_nil_iff.2 (by omega),List.append_nil]
  exact this
 have au:i<b.length:=by have:=abY h;rw[abH]at this;omega
 have hx:=aaj (show i<a.length by omega)
 have hy:=aaj au
 generalize a[i]=x at hx
 generalize b[i]=y at hy
 have hz:((List.zipWith g a b).take i++a.drop i)[i]?=some x:=by
  rw[List.getElem?_append_right (by rw[ab2];omega),ab2,(hc 0 (by omega)).1,Nat.min_eq_left (by omega),Nat.sub_self,List.getElem?_drop];exact hx
 refine⟨I y,fun _=>⟨by omega,by rw[abJ];simp[hy]⟩,?_⟩
 refine⟨fun _=>⟨by omega,by rw[(hc i (by omega)).2];omega⟩,I x,fun _=>by rw[abJ,Int.toNat_natCast,hz];rfl,?_⟩
 by_cases aa2:i<q
 ·refine Or.inl ?_
  refine⟨_,fun _=>(cr i x y aa2 hx hy).ok,?_⟩
  refine abG (fun h=>by cases h) fun _=>⟨fun _=>⟨by omega,by rw[(hc i (by omega)).2];omega⟩,[I (g x y)],⟨rf,tv⟩,I x,by rw[abJ,Int.toNat_natCast,hz];rfl,?_⟩
  have j3:(((List.zipWith g a b).take i++a.drop i).map I).set (i:Int).toNat (I (g x y))=((List.zipWith g a b).take (i+1)++a.drop (i+1)).map I:=by
   rw[Int.toNat_natCast,<-List.map_set,List.set_append_right _ _ (by rw[ab2];omega),ab2,(hc 0 (by omega)).1,Nat.min_eq_left (by omega),Nat.sub_self,List.drop_eq_getElem_cons (show i<a.length by omega),List.set_cons_zero,abR,List.getElem?_zipWith,hx,hy]
   simp
  exact⟨fun _=>⟨by omega,by omega⟩,i+1,jn rfl (by simp only[];rw[<-j3];rfl) rfl rfl,⟨by omega,au⟩,mlt au⟩
 ·have BA:i=q:=by omega
  rcases hq with⟨h1,h2,rfl⟩|⟨h1,rfl⟩
  ·refine Or.inl ?_
   refine⟨_,fun _=>(cW x y (BA▸hx) (BA▸hy)).ok,?_⟩
   refine abG (fun _=>⟨rf,rf,tv⟩) fun h=>?_
   rw[bne_eq_false_iff_eq]at h;exact absurd h h2
  ·omega
theorem vg(x y:Int)(hx:xh x)(hy:xh y):aI Tryz.prog 59 [I x,I y] (if x<y then[I 0,I 10]else[I (x-y),I 0]):=by
 unfold xh at hx hy
 refine pO Tryz.func59 rfl (by kernel_rfl) rfl ?_
 refine abG (fun h=>?_) fun h=>?_
 ·rw[if_pos (abY h)];exact⟨rf,rf,tv⟩
 ·rw[if_neg (abZ h)];exact⟨fun _=>⟨by omega,by omega⟩,rf,rf,tv⟩
theorem QC(x:Int)(hx:xh x):aI Tryz.prog 61 [I x] [I x,I 0]:=by
 unfold xh at hx
 refine pO Tryz.func61 rfl (by kernel_rfl) rfl ?_
 refine abG (fun h=>?_) fun _=>⟨rf,rf,tv⟩
 have:=abY h;omega
theorem Mq(x y:Int)(hx:xh x)(hy:xh y)(h:xh (x+y)):aI Tryz.prog 60 [I x,I y] [I (x+y),I 0]:=by
 have hl:=QC (x+y) h
 unfold xh at hx hy
 refine pO Tryz.func60 rfl (by kernel_rfl) rfl ?_
 refine⟨fun _=>⟨by omega,by omega⟩,?_⟩
 refine Or.inl ?_
 refine⟨_,fun _=>hl.ok,?_⟩
 exact⟨rf,rf,tv⟩
theorem Te(a b:List Int)(he:a.length=b.length)(b7:a≠[])(hl:b.length<=64)(ha:∀x∈a,xh x)(hb:∀x∈b,xh x)(cr:∀(i:Nat) (x y:Int),i<a.length->a[i]?=some x->b[i]?=some y->y<=x):aI Tryz.prog 19 [Ints a,Ints b] [Ints (List.zipWith (·-·) a b),I 0]:=by
 have tU:=vf (f:=59) (·-·) a b he b7 (by omega) a.length 0 [Ints (List.zipWith (·-·) a b),I 0] (.inr ⟨rfl,rfl⟩)
  (fun i x y h1 h2 h3=>by
   have:=vg x y (ha x (abK h2)) (hb y (abK h3))
   rw[if_neg (by have:=cr i x y (by omega) h2 h3;omega)]at this;exact this)
  (fun x y h2 h3=>by
   have:=(abI.1 h2).1;omega)
 refine pO Tryz.func19 rfl (by kernel_rfl) rfl ?_
 refine Or.inl ?_
 refine⟨_,fun _=>(n0 a b he hl ha hb).ok,?_⟩
 refine abG (fun h=>by cases h) fun _=>?_
 refine Or.inl ?_
 refine⟨_,fun _=>tU.ok,?_⟩
 exact⟨rf,rf,tv⟩
theorem Tf(a b:List Int)(he:a.length=b.length)(b7:a≠[])(hl:b.length<=64)(ha:∀x∈a,xh x)(hb:∀x∈b,xh x){q:Nat}(hq:q<a.length)(cr:∀(i:Nat) (x y:Int),i<q->a[i]?=some x->b[i]?=some y->y<=x)(cW:∀x y,a[q]?=some x->b[q]?=some y->x<y):aI Tryz.prog 19 [Ints a,Ints b] [.az,I 10]:=by
 have tU:=vf (f:=59) (·-·) a b he b7 (by omega) q 10 [.az,I 10] (.inl ⟨hq,by decide,rfl⟩)
  (fun i x y h1 h2 h3=>by
   have:=vg x y (ha x (abK h2)) (hb y (abK h3))
   rw[if_neg (by have:=cr i x y (by omega) h2 h3;omega)]at this;exact this)
  (fun x y h2 h3=>by
   have:=vg x y (ha x (abK h2)) (hb y (abK h3))
   rw[if_pos (cW x y h2 h3)]at this;exact this)
 refine pO Tryz.func19 rfl (by kernel_rfl) rfl ?_
 refine Or.inl ?_
 refine⟨_,fun _=>(n0 a b he hl ha hb).ok,?_⟩
 refine abG (fun h=>by cases h) fun _=>?_
 refine Or.inl ?_
 refine⟨_,fun _=>tU.ok,?_⟩
 exact⟨rf,rf,tv⟩
theorem Tg(a b:List Int)(he:a.length=b.length)(b7:a≠[])(hl:b.length<=64)(ha:∀x∈a,xh x)(hb:∀x∈b,xh x)(cr:∀(i:Nat) (x y:Int),a[i]?=some x->b[i]?=some y->xh (x+y)):aI Tryz.prog 20 [Ints a,Ints b] [Ints (List.zipWith (·+·) a b),I 0]:=by
 have tU:=vf (f:=60) (·+·) a b he b7 (by omega) a.length 0 [Ints (List.zipWith (·+·) a b),I 0] (.inr ⟨rfl,rfl⟩)
  (fun i x y h1 h2 h3=>by
   exact Mq x y (ha x (abK h2)) (hb y (abK h3)) (cr i x y h2 h3))
  (fun x y h2 h3=>by
   have:=(abI.1 h2).1;omega)
 refine pO Tryz.func20 rfl (by kernel_rfl) rfl ?_
 refine Or.inl ?_
 refine⟨_,fun _=>(n0 a b he hl ha hb).ok,?_⟩
 refine abG (fun h=>by cases h) fun _=>?_
 refine Or.inl ?_
 refine⟨_,fun _=>tU.ok,?_⟩
 exact⟨rf,rf,tv⟩
theorem Mr(it n:Int)(hi:0<=it/\it<5)(hn:1<=n/\n<=1099511627776):aI Tryz.prog 56 [I 5,.agg [I it,I n]] [B true]:=by
 refine pO Tryz.func56 rfl (by kernel_rfl) rfl ?_
 repeat first|apply g1|apply g2|apply g3|apply g4|apply g5
 refine⟨DV.Le.of_eq ?_,tv⟩
 simp;omega
theorem QD(it n:Int)(ke:0<=it/\it<5)(hn:1<=n/\n<=1099511627776):aI Tryz.prog 18 [I 5,.sl 2 [.agg [I it,I n]]] [Ints ((List.replicate 5 0).set it.toNat n),I 0]:=by
 refine pO Tryz.func18 rfl (by kernel_rfl) rfl ?_
 repeat first|apply g1|apply g2|apply g3|apply g4|apply g5
 refine abG (fun h=>by cases h) fun _=>?_
 refine⟨Nat,fun i=>⟨0,[(0,.dv (I 5)),(1,.dv (.sl 2 [.agg [I it,I n]])),(17,.dv (.sl 2 [.agg [I it,I n]])),(18,.dv (I 1)),(19,.dv (I i))],[]⟩,fun i=>i<=1,fun i=>1-i,0,fun _=>rfl,jn rfl rfl rfl rfl,abW _,?_⟩
 intro i hi
 refine abG (fun h=>?_) fun _=>?_
 ·obtain rfl:i=0:=by have:=abY h;omega
  refine⟨.agg [I it,I n],fun _=>⟨by decide,rfl⟩,?_⟩
  refine Or.inl ?_
  refine⟨_,fun _=>(Mr it n ke hn).ok,?_⟩
  refine abG (fun h=>by cases h) fun _=>?_
  exact⟨fun _=>⟨by decide,by decide⟩,1,jn rfl rfl rfl rfl,acb _,by decide⟩
 refine⟨I 0,⟨rf,tv⟩,by decide,by decide,by decide,by decide,false,(fun h=>by cases h),?_⟩
 refine⟨Nat,fun i=>⟨1,[(8,.own 0 0 0 []),(30,.dv (.sl 2 [.agg [I it,I n]])),(31,.dv (I 1)),(32,.dv (I i))],[(0,.tree 0 0 (.aB 1 ((bif Nat.beq i 0 then List.replicate 5 0 else(List.replicate 5 0).set it.toNat n).map I)))]⟩,fun i=>i<=1,fun i=>1-i,0,fun _=>rfl,jn rfl rfl rfl rfl,abW _,?_⟩
 intro i hi
 refine abG (fun h=>?_) fun h=>?_
 rotate_left
 ·obtain rfl:i=1:=by have:=abZ h;omega
  exact⟨WC _,rf,tv⟩
 obtain rfl:i=0:=by have:=abY h;omega
 refine⟨.agg [I it,I n],fun _=>⟨by decide,rfl⟩,?_⟩
 have h5:it=0\/it=1\/it=2\/it=3\/it=4:=by omega
 have h0:((List.replicate 5 (0:Int)).map I)[it.toNat]?=some (I 0):=by rcases h5 with rfl|rfl|rfl|rfl|rfl<;>rfl
 refine⟨fun _=>⟨ke.1,by simp;omega⟩,I 0,fun _=>h0,?_⟩
 refine⟨fun _=>⟨by omega,by omega⟩,?_⟩
 refine⟨fun _=>⟨ke.1,by simp;omega⟩,?_⟩
 refine⟨[I (0+n)],⟨rf,tv⟩,I 0,h0,?_⟩
 refine⟨by kernel_rfl,?_⟩
 have h1:(((List.replicate 5 (0:Int)).map I).set it.toNat (I (0+n)))[it.toNat]?=some (I (0+n)):=by rcases h5 with rfl|rfl|rfl|rfl|rfl<;>rfl
 have h2:((List.replicate 5 (0:Int)).map I).set it.toNat (I (0+n))=((List.replicate 5 (0:Int)).set it.toNat n).map I:=by rw[Int.zero_add,List.map_set]
 refine⟨fun _=>⟨ke.1,by simp;omega⟩,I (0+n),fun _=>h1,?_⟩
 refine abG (fun h=>?_) fun _=>?_
 ·have:=abY h;omega
 exact⟨fun _=>⟨by decide,by decide⟩,1,jn rfl (by simp only[Nat.beq,cond_false];rw[<-h2];rfl) rfl rfl,acb _,by decide⟩
end
end Go.Proofs.YtknnpcfhekkjjaaGreatDoor
