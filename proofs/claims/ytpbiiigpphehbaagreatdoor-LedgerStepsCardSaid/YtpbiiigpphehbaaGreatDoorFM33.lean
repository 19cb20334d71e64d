import Derived.Test.YtpbiiigpphehbaaGreatDoorFM32
set_option linter.all false
namespace Go.Proofs.YtpbiiigpphehbaaGreatDoor
set_option maxRecDepth 100000
set_option maxHeartbeats 4000000
section
open Go.TM
variable [bJ]
def PC(x:Lt)(f:oj):Bool:=decide (f.kind=5)&& !decide (LX f.ps [x]=[])
def uV(sh:Int)(fl:List oj):List Lt->Int
 |[]=>0
 |x::r=>if x.f.tdiv 4294967296=sh\/11<x.f.tdiv 4294967296 then 1 else bif fl.any (PC x)then 8 else uV sh fl r
theorem L1(R:RL)(ps:List Lt)(hl:ps.length<=5000)(hf:R.fl.length<=1000000)(lu:∀f∈R.fl,f.ps.length<=200)(hb:∀x∈ps,0<=x.f/\x.f<=9223372036854775807):aq Tryz.prog 102 [.ptr 0 0,.dv (aS ps)] 4 (dE R) 0 [.dv (I (uV R.sh R.fl ps))] (dE R):=by
 refine cO Tryz.func102 rfl (by kernel_rfl) ?_
 refine⟨Nat,fun i=>⟨4,[(0,.ptr 0 0),(1,.dv (aS ps)),(5,.dv (I i))],dE R⟩,fun i=>i<=ps.length/\uV R.sh R.fl ps=uV R.sh R.fl (ps.drop i),fun i=>ps.length-i,0,fun _=>rfl,jn rfl rfl rfl rfl,⟨abO _,rfl⟩,?_⟩
 rintro i ⟨hi,hd⟩
 have lp:(ps.map aF).length=ps.length:=abz ..
 have lf:(R.fl.map aM).length=R.fl.length:=abz ..
 refine aby ?_ ?_
 ·intro h
  have au:i<ps.length:=by have:=abQ h;omega
  obtain⟨x,hx⟩:∃x,ps[i]?=some x:=⟨_,aaa au⟩
  have LS:=hb x (abC hx)
  have ix:(ps.map aF)[(i:Int).toNat]?=some (aF x):=by rw[abB];simp[hx]
  have aJ:ps.drop i=x::ps.drop (i+1):=by
   rw[List.drop_eq_getElem_cons au,(abA.1 hx).2]
  rw[aJ]at hd
  have q0:=Int.tdiv_nonneg LS.1 (show(0:Int)<=4294967296 by omega)
  have q1:x.f.tdiv 4294967296<=x.f:=Int.tdiv_le_self _ LS.1
  refine⟨aF x,fun _=>⟨by omega,ix⟩,fun _ h=>by omega,fun _=>⟨by omega,by omega⟩,?_⟩
  repeat first|apply g1|apply g2|apply g3|apply g4|apply g5
  refine aby ?_ ?_
  ·intro h
   have hc:x.f.tdiv 4294967296=R.sh\/11<x.f.tdiv 4294967296:=by simpa using h
   rw[hd]
   unfold uV
   rw[if_pos hc]
   exact ext (by kernel_rfl) rfl rfl
  intro h
  have hc:¬(x.f.tdiv 4294967296=R.sh\/11<x.f.tdiv 4294967296):=by simpa using h
  have PD:uV R.sh R.fl ps=bif R.fl.any (PC x)then 8 else uV R.sh R.fl (ps.drop (i+1)):=by rw[hd];exact if_neg hc
  refine⟨Nat,fun j=>⟨4,[(0,.ptr 0 0),(1,.dv (aS ps)),(5,.dv (I i)),(7,.dv (I j))],dE R⟩,fun j=>j<=R.fl.length/\∀f∈R.fl.take j,PC x f=false,fun j=>R.fl.length-j,0,fun _=>rfl,jn rfl rfl rfl rfl,⟨abO _,fun _ h=>by simp at h⟩,?_⟩
  rintro j ⟨hj,br⟩
  refine aby ?_ ?_
  ·intro h
   have Xe:j<R.fl.length:=by have:=abQ h;omega
   obtain⟨f,oe⟩:∃f,R.fl[j]?=some f:=⟨_,aaa Xe⟩
   have Xf:=abC oe
   have jf:(R.fl.map aM)[(j:Int).toNat]?=some (aM f):=by rw[abB];simp[oe]
   have hfp:=lu f Xf
   repeat first|refine g1 ?_|refine g2 ?_|refine g3 ?_|refine⟨fun _=>⟨by omega,by omega⟩,?_⟩|refine⟨aM f,fun _=>jf,?_⟩
   have iQ:((ps.map aF).take ((i:Int)+1).toNat).drop (i:Int).toNat=[x].map aF:=by
    rw[show((i:Int)+1).toNat=i+1 by omega,Int.toNat_natCast,abJ,abB,hx,List.drop_append_of_le_length (by rw[abU];omega),List.drop_of_length_le (by rw[abU];omega)];rfl
   have hm:=(BA f.ps [x] (by omega) (by simp) (by simp only[List.length_cons,List.length_nil];omega) (by
    have:f.ps.length*(f.ps.length*(([x]:List Lt).length+1)+1)<=200*(200*(([x]:List Lt).length+1)+1):=Nat.mul_le_mul hfp (by simp only[List.length_cons,List.length_nil];omega)
    simp only[List.length_cons,List.length_nil]at this⊢;omega)).ok
   unfold aS at hm
   rw[<-iQ]at hm
   refine⟨fun _=>⟨by show(0:Int)<=i;omega,by show(i:Int)<=i+1;omega,by show(i:Int)+1<=_;omega⟩,?_⟩
   repeat first|refine g1 ?_|refine g2 ?_|refine g3 ?_
   refine .inl ⟨_,fun _=>hm,?_⟩
   repeat first|refine g1 ?_|refine g2 ?_|refine g3 ?_
   refine⟨by kernel_rfl,?_⟩
   refine aby ?_ ?_
   ·intro h
    have h:=dV h
    have ht:PC x f=true:=by
     unfold PC
     rw[abW (beq_iff_eq.1 h.1),Bool.true_and,acd,acb]
     intro e
     have h2:=abQ h.2
     rw[e]at h2
     exact absurd h2 (by decide)
    rw[PD,show R.fl.any (PC x)=true from List.any_eq_true.2 ⟨f,Xf,ht⟩]
    exact ext (by kernel_rfl) rfl rfl
   ·intro h
    have h:=lQ h
    have ht:PC x f=false:=by
     rw[<-Bool.not_eq_true]
     intro ht
     unfold PC at ht
     rw[aca,ab8,acd,acb]at ht
     refine h ⟨beq_iff_eq.2 ht.1,abW ?_⟩
     have:=List.length_pos_iff.2 ht.2
     rw[abz];omega
    exact⟨fun _=>⟨by omega,by omega⟩,j+1,jn rfl rfl rfl rfl,⟨by omega,fun q hq=>by
     rw[abJ,oe]at hq
     rcases abI.1 hq with hq|hq
     ·exact br q hq
     ·simp at hq;subst hq;exact ht⟩,mlt Xe⟩
  ·intro h
   have he:j=R.fl.length:=by have:=abR h;omega
   subst he
   rw[abP]at br
   have ha:R.fl.any (PC x)=false:=by rw[List.any_eq_false];intro f hf;rw[br f hf];simp
   rw[ha]at PD
   exact⟨fun _=>⟨by omega,by omega⟩,i+1,jn rfl rfl rfl rfl,⟨by omega,PD⟩,mlt au⟩
 ·intro h
  have he:i=ps.length:=by have:=abR h;omega
  subst he
  rw[List.drop_length]at hd
  rw[hd]
  exact ext (by kernel_rfl) rfl rfl
end
section
open Go.TM
variable [bJ]
def okF(it:Int)(x:Lt)(f:oj):Bool:=decide (f.kind≠6/\f.to=0/\f.it=it)&&tc [x] [⟨f.id,0,f.n⟩]
def Kh(x:Lt)(f:oj):Bool:=decide (f.kind=9)&&decide (f.fr=0)&& !decide (LX f.ps [x]=[])
def uW(fl:List oj)(it:Int):List Lt->Int
 |[]=>0
 |x::r=>bif fl.any (Kh x)|| !fl.any (okF it x)then 10 else uW fl it r
theorem PE{p:oj->Bool}{l:List oj}{j:Nat}{f:oj}(h:l[j]?=some f):(l.take (j+1)).any p=((l.take j).any p||p f):=by
 rw[abJ,h,List.any_append];simp
theorem L2(R:RL)(m:dX)(hl:m.ps.length<=5000)(hf:R.fl.length<=1000000)(lu:∀f∈R.fl,f.ps.length<=200):aq Tryz.prog 103 [.ptr 0 0,cJ (ak m)] 4 (dE R) 0 [.dv (I (uW R.fl m.it m.ps))] (dE R):=by
 refine cO Tryz.func103 rfl (by kernel_rfl) ?_
 refine⟨Nat,fun i=>⟨5,[(0,.ptr 0 0),(3,.ptr 4 0),(5,.dv (I i))],dE R++[(4,.cells (eB (ak m).cells))]⟩,fun i=>i<=m.ps.length/\uW R.fl m.it m.ps=uW R.fl m.it (m.ps.drop i),fun i=>m.ps.length-i,0,fun _=>rfl,jn rfl rfl rfl rfl,⟨abO _,rfl⟩,?_⟩
 rintro i ⟨hi,hd⟩
 have lp:(m.ps.map aF).length=m.ps.length:=abz ..
 have lf:(R.fl.map aM).length=R.fl.length:=abz ..
 refine aby ?_ ?_
 ·intro h
  have au:i<m.ps.length:=by have:=abQ h;omega
  obtain⟨x,hx⟩:∃x,m.ps[i]?=some x:=⟨_,aaa au⟩
  have aJ:m.ps.drop i=x::m.ps.drop (i+1):=by
   rw[List.drop_eq_getElem_cons au,(abA.1 hx).2]
  rw[aJ]at hd
  have PD:uW R.fl m.it m.ps=bif R.fl.any (Kh x)|| !R.fl.any (okF m.it x)then 10 else uW R.fl m.it (m.ps.drop (i+1)):=hd
  have iQ:((m.ps.map aF).take ((i:Int)+1).toNat).drop (i:Int).toNat=[x].map aF:=by
   rw[show((i:Int)+1).toNat=i+1 by omega,Int.toNat_natCast,abJ,abB,hx,List.drop_append_of_le_length (by rw[abU];omega),List.drop_of_length_le (by rw[abU];omega)];rfl
  refine⟨Nat,fun j=>⟨5,[(0,.ptr 0 0),(3,.ptr 4 0),(5,.dv (I i)),(6,.dv (B ((R.fl.take j).any (okF m.it x)))),(7,.dv (I j))],dE R++[(4,.cells (eB (ak m).cells))]⟩,fun j=>j<=R.fl.length/\∀f∈R.fl.take j,Kh x f=false,fun j=>R.fl.length-j,0,fun _=>rfl,jn rfl rfl rfl rfl,⟨abO _,fun _ h=>by simp at h⟩,?_⟩
  rintro j ⟨hj,br⟩
  refine aby ?_ ?_
  ·intro h
   have Xe:j<R.fl.length:=by have:=abQ h;omega
   obtain⟨f,oe⟩:∃f,R.fl[j]?=some f:=⟨_,aaa Xe⟩
   have Xf:=abC oe
   have jf:(R.fl.map aM)[(j:Int).toNat]?=some (aM f):=by rw[abB];simp[oe]
   have hfp:=lu f Xf
   have dQ:=PE (p:=okF m.it x) oe
   have hm:=(BA f.ps [x] (by omega) (by simp) (by simp only[List.length_cons,List.length_nil];omega) (by
    have:f.ps.length*(f.ps.length*(([x]:List Lt).length+1)+1)<=200*(200*(([x]:List Lt).length+1)+1):=Nat.mul_le_mul hfp (by simp only[List.length_cons,List.length_nil];omega)
    simp only[List.length_cons,List.length_nil]at this⊢;omega)).ok
   have hw:=(vL [x] [⟨f.id,0,f.n⟩] (by simp) (by simp) (by simp)).ok
   unfold aS at hm hw
   rw[<-iQ]at hm hw
   refine⟨fun _=>⟨by omega,by omega⟩,aM f,fun _=>jf,?_⟩
   refine .inl ⟨[aF ⟨f.id,0,f.n⟩],rfl,⟨rf,rf,rf,tv⟩,(by simp;rfl),?_⟩
   refine⟨fun _=>⟨by omega,by omega⟩,fun _=>⟨by show(0:Int)<=i;omega,by show(i:Int)<=i+1;omega,by show(i:Int)+1<=_;omega⟩,?_⟩
   refine .inl ⟨_,fun _=>hw,?_⟩
   repeat first|apply g1|apply g2|apply g3|apply g4|apply g5
   have Zj:okF m.it x f=(bif bif bif f.kind !=6 then f.to==0 else false then f.it==m.it else false then tc [x] [⟨f.id,0,f.n⟩]else false):=by
    unfold okF
    rw[ab5];simp[and_assoc]
   refine aby ?_ ?_
   ·intro h
    have cB:okF m.it x f=true:=Zj.trans h
    repeat first|refine g1 ?_|refine g2 ?_|refine g3 ?_|refine⟨fun _=>⟨by omega,by omega⟩,?_⟩
    refine⟨fun _=>⟨by show(0:Int)<=i;omega,by show(i:Int)<=i+1;omega,by show(i:Int)+1<=_;omega⟩,?_⟩
    repeat first|refine g1 ?_|refine g2 ?_|refine g3 ?_
    refine .inl ⟨_,fun _=>hm,?_⟩
    repeat first|refine g1 ?_|refine g2 ?_|refine g3 ?_
    refine⟨by kernel_rfl,?_⟩
    refine aby ?_ ?_
    ·intro h
     have h:=dV h
     have h1:=dV h.1
     have ht:Kh x f=true:=by
      unfold Kh
      rw[abW (beq_iff_eq.1 h1.1),abW (beq_iff_eq.1 h1.2),Bool.true_and,Bool.true_and,acd,acb]
      intro e
      have h2:=abQ h.2
      rw[e]at h2
      exact absurd h2 (by decide)
     rw[PD,show R.fl.any (Kh x)=true from List.any_eq_true.2 ⟨f,Xf,ht⟩]
     exact ext (by kernel_rfl) rfl rfl
    ·intro h
     have h:=lQ h
     have ht:Kh x f=false:=by
      rw[<-Bool.not_eq_true]
      intro ht
      unfold Kh at ht
      simp only[aca,ab8,acd,acb]at ht
      refine h ⟨by rw[beq_iff_eq.2 ht.1.1,beq_iff_eq.2 ht.1.2];rfl,abW ?_⟩
      have:=List.length_pos_iff.2 ht.2
      rw[abz];omega
     exact⟨fun _=>⟨by omega,by omega⟩,j+1,jn (by simp only[dQ,cB,Bool.or_true];rfl) rfl rfl rfl,⟨by omega,fun q hq=>by
      rw[abJ,oe]at hq
      rcases abI.1 hq with hq|hq
      ·exact br q hq
      ·simp at hq;subst hq;exact ht⟩,mlt Xe⟩
   ·intro h
    have cB:okF m.it x f=false:=Zj.trans h
    repeat first|refine g1 ?_|refine g2 ?_|refine g3 ?_|refine⟨fun _=>⟨by omega,by omega⟩,?_⟩
    refine⟨fun _=>⟨by show(0:Int)<=i;omega,by show(i:Int)<=i+1;omega,by show(i:Int)+1<=_;omega⟩,?_⟩
    repeat first|refine g1 ?_|refine g2 ?_|refine g3 ?_
    refine .inl ⟨_,fun _=>hm,?_⟩
    repeat first|refine g1 ?_|refine g2 ?_|refine g3 ?_
    refine⟨by kernel_rfl,?_⟩
    refine aby ?_ ?_
    ·intro h
     have h:=dV h
     have h1:=dV h.1
     have ht:Kh x f=true:=by
      unfold Kh
      rw[abW (beq_iff_eq.1 h1.1),abW (beq_iff_eq.1 h1.2),Bool.true_and,Bool.true_and,acd,acb]
      intro e
      have h2:=abQ h.2
      rw[e]at h2
      exact absurd h2 (by decide)
     rw[PD,show R.fl.any (Kh x)=true from List.any_eq_true.2 ⟨f,Xf,ht⟩]
     exact ext (by kernel_rfl) rfl rfl
    ·intro h
     have h:=lQ h
     have ht:Kh x f=false:=by
      rw[<-Bool.not_eq_true]
      intro ht
      unfold Kh at ht
      simp only[aca,ab8,acd,acb]at ht
      refine h ⟨by rw[beq_iff_eq.2 ht.1.1,beq_iff_eq.2 ht.1.2];rfl,abW ?_⟩
      have:=List.length_pos_iff.2 ht.2
      rw[abz];omega
     exact⟨fun _=>⟨by omega,by omega⟩,j+1,jn (by simp only[dQ,cB,Bool.or_false];rfl) rfl rfl rfl,⟨by omega,fun q hq=>by
      rw[abJ,oe]at hq
      rcases abI.1 hq with hq|hq
      ·exact br q hq
      ·simp at hq;subst hq;exact ht⟩,mlt Xe⟩
  ·intro h
   have he:j=R.fl.length:=by have:=abR h;omega
   subst he
   rw[abP]at br
   have ha:R.fl.any (Kh x)=false:=by rw[List.any_eq_false];intro f hf;rw[br f hf];simp
   rw[ha,Bool.false_or]at PD
   simp only[abP]
   refine aby ?_ ?_
   ·intro h
    rw[PD,show(!R.fl.any (okF m.it x))=true from h]
    exact ext (by kernel_rfl) rfl rfl
   ·intro h
    rw[show(!R.fl.any (okF m.it x))=false from h]at PD
    exact⟨fun _=>⟨by omega,by omega⟩,i+1,jn rfl rfl rfl rfl,⟨by omega,PD⟩,mlt au⟩
 ·intro h
  have he:i=m.ps.length:=by have:=abR h;omega
  subst he
  rw[List.drop_length]at hd
  rw[hd]
  exact ext (by kernel_rfl) rfl rfl
end
section
open Go.TM
variable [bJ]
def zV(it:Int):Bool:=it==0||it==2
theorem L3(R:RL)(k:Int)(m:dX)(ec:0<m.fr)(hp:m.ps≠[])(hn:R.st.length<=100000)(ho:(cr R.st (m.fr,m.it)).length<=5000)(hl:m.ps.length<=5000)(aW:m.ps.length*((cr R.st (m.fr,m.it)).length+1)<=90000)(hsy:(cr R.st (m.fr,m.it)).length*(m.ps.length+1)<=90000):aq Tryz.prog 53 [.ptr 0 0,.dv (I k),cJ (ak m)] 4 (dE R) 0 [.dv (aS (bif tc m.ps (cr R.st (m.fr,m.it))then m.ps else[])),.dv (I (bif tc m.ps (cr R.st (m.fr,m.it))then 0 else 10))] (bif tc m.ps (cr R.st (m.fr,m.it))then jI 1 0 0 (uT R (m.fr,m.it) (Kg (cr R.st (m.fr,m.it)) m.ps))else dE R):=by
 refine cO Tryz.func53 rfl (by kernel_rfl) ?_
 have Hx:=List.length_pos_iff.2 hp
 have lp:(m.ps.map aF).length=m.ps.length:=abz ..
 refine aby (fun _=>?_) fun h=>by have:=abR h;omega
 refine .inr (cl [0,1,2,3] (fU R m.fr m.it hn) (by kernel_rfl) rfl rfl ?_)
 refine aby (fun _=>?_) fun h=>by have:=abR h;omega
 refine .inl ⟨_,fun _=>(vL m.ps (cr R.st (m.fr,m.it)) hl ho aW).ok,?_⟩
 generalize tc m.ps (cr R.st (m.fr,m.it))=w at*
 cases w with
 |false=>
  refine aby (fun _=>?_) fun h=>by cases h
  exact⟨_,_,⟨rfl,rfl⟩,by kernel_rfl,⟨DV.aL 3,rf,tv⟩,bl (k:=dE R) rfl⟩
 |true=>
  refine aby (fun h=>by cases h) fun _=>?_
  refine .inl ⟨_,fun _=>(ta (cr R.st (m.fr,m.it)) m.ps ho hl hsy).ok,?_⟩
  refine .inr (cl [0,1,2,3] (nW R m.fr m.it (Kg (cr R.st (m.fr,m.it)) m.ps) hn) (by kernel_rfl) rfl rfl ?_)
  refine⟨by kernel_rfl,?_⟩
  exact ext (by kernel_rfl) rfl rfl
theorem L4(R:RL)(k:Int)(m:dX)(ec:0<m.fr)(hp:m.ps=[])(hi:0<=m.it/\m.it<5)(hm:0<=m.n/\m.n<=1099511627776)(hn:R.st.length<=100000)(hv:ca (cr R.st (m.fr,m.it))=true):aq Tryz.prog 53 [.ptr 0 0,.dv (I k),cJ (ak m)] 4 (dE R) 0 [.dv (aS (bif decide (bQ (cr R.st (m.fr,m.it))<m.n)then[]else(gj (cr R.st (m.fr,m.it)) m.n (zV m.it)).1)),.dv (I (bif decide (bQ (cr R.st (m.fr,m.it))<m.n)then 10 else 0))] (bif decide (bQ (cr R.st (m.fr,m.it))<m.n)then dE R else jI 1 0 0 (uT R (m.fr,m.it) (gj (cr R.st (m.fr,m.it)) m.n (zV m.it)).2)):=by
 rcases m with⟨fr,to,it,n,ps⟩
 dsimp only at*
 subst hp
 have:it=0\/it=1\/it=2\/it=3\/it=4:=by omega
 have ht:=fun x=>(Ia (cr R.st (fr,it)) n x hm hv).ok
 unfold FI at ht
 have hs:=nW R fr it
 cases hc:decide (bQ (cr R.st (fr,it))<n)<;>rw[hc]at ht
 ·rcases this with rfl|rfl|rfl|rfl|rfl
  all_goals
   refine cO Tryz.func53 rfl (by kernel_rfl) ?_
   refine aby (fun _=>?_) fun h=>absurd ec (abR h)
   refine .inr (cl [0,1,2,3] (fU R fr _ hn) (by kernel_rfl) rfl rfl ?_)
   refine aby (fun h=>by have:=abQ h;simp at this) fun _=>?_
   refine⟨_,fun _=>⟨abQ rfl,rfl⟩,?_⟩
   refine .inl ⟨_,fun _=>ht _,?_⟩
   refine⟨by kernel_rfl,?_⟩
   refine aby (fun h=>by cases h) fun _=>?_
   refine .inr (cl [0,1,2,3] (hs _ hn) (by kernel_rfl) rfl rfl ?_)
   exact ext (by kernel_rfl) rfl rfl
 ·rcases this with rfl|rfl|rfl|rfl|rfl
  all_goals
   refine cO Tryz.func53 rfl (by kernel_rfl) ?_
   refine aby (fun _=>?_) fun h=>absurd ec (abR h)
   refine .inr (cl [0,1,2,3] (fU R fr _ hn) (by kernel_rfl) rfl rfl ?_)
   refine aby (fun h=>by have:=abQ h;simp at this) fun _=>?_
   refine⟨_,fun _=>⟨abQ rfl,rfl⟩,?_⟩
   refine .inl ⟨_,fun _=>ht _,?_⟩
   refine⟨by kernel_rfl,?_⟩
   refine aby (fun _=>?_) fun h=>by cases h
   exact⟨_,_,⟨rfl,rfl⟩,by kernel_rfl,⟨DV.aL 3,rf,tv⟩,bl (k:=dE R) rfl⟩
theorem L5(R:RL)(k:Int)(m:dX)(ec:¬0<m.fr)(hl:m.ps.length<=5000)(hf:R.fl.length<=1000000)(lu:∀f∈R.fl,f.ps.length<=200)(hb:k=5->∀x∈m.ps,0<=x.f/\x.f<=9223372036854775807):aq Tryz.prog 53 [.ptr 0 0,.dv (I k),cJ (ak m)] 4 (dE R) 0 [.dv (aS (if k=5\/k=9 then m.ps else[])),.dv (I (if k=5 then uV R.sh R.fl m.ps else if k=9 then uW R.fl m.it m.ps else 0))] (dE R):=by
 refine cO Tryz.func53 rfl (by kernel_rfl) ?_
 refine aby (fun h=>absurd (abQ h) ec) fun _=>?_
 refine aby ?_ ?_
 ·intro h
  have h:k=5:=by simpa using h
  subst h
  refine .inr (cl [0,1,2,3] (L1 R m.ps hl hf lu (hb rfl)) (by kernel_rfl) rfl rfl ?_)
  refine⟨by kernel_rfl,?_⟩
  exact ext (by kernel_rfl) rfl rfl
 intro h
 have h5:k≠5:=by simpa using h
 refine aby ?_ ?_
 ·intro h
  have h:k=9:=by simpa using h
  subst h
  refine .inr (cl [0,1,2,3] (L2 R m hl hf lu) (by kernel_rfl) rfl rfl ?_)
  refine⟨by kernel_rfl,?_⟩
  exact ext (by kernel_rfl) rfl rfl
 ·intro h
  have h9:k≠9:=by simpa using h
  rw[if_neg (show¬(k=5\/k=9)by omega),if_neg h5,if_neg h9]
  exact⟨_,_,⟨rfl,rfl⟩,by kernel_rfl,⟨DV.aL 3,rf,tv⟩,bl (k:=dE R) rfl⟩
end
end Go.Proofs.YtpbiiigpphehbaaGreatDoor
