import Derived.Test.YtpbiiigpphehbaaGreatDoorFM48
import Derived.Test.YtpbiiigpphehbaaGreatDoorFM46
set_option linter.all false
namespace Go.Proofs.YtpbiiigpphehbaaGreatDoor
set_option maxRecDepth 100000
set_option maxHeartbeats 4000000
section
open Go.TM
structure Inv(P:PL)(R:RL):Prop where
 mg:Good R
 sh:P.sh=R.sh
 fl:P.fl=R.fl
 sp:P.sp=R.sp
 nk:Nk P.st/\Nk P.b8/\Nk P.imp
 ret:P.ret=[]
 st:∀k,aR P.st k=if cr R.st k=[]then none else some (cr R.st k)
 b8:∀j,F2 P.b8 j=dp R.st j
 imp:∀g,aR P.imp g=zy R.fl g
 step:∀f∈R.fl,f.step<R.sh*4294967296+R.sp.length
 fll:R.fl.length<=4*R.sp.length
 Wt:∀s∈R.sp,s.mv.length<=64/\∀m∈s.mv,m.ps.length<=20
 now:0<=eC R.sp
theorem Inv.wG{P:PL}{R:RL}(h:Inv P R)(k:Ky):cr P.st k=cr R.st k:=by
 show(aR P.st k).getD []=_
 rw[h.st]
 split
 ·rename_i e;rw[e];rfl
 ·rfl
structure pt(R:RL)(s:dJ):Prop where
 aD:oC s.aD
 len:s.mv.length<=4
 ps:∀m∈s.mv,m.ps.length<=20
 pos:lC (eC R.sp) s=true->∀m∈s.mv,Ma R.sh s m
theorem Qr{R:RL}{s:dJ}{m:dX}(h:(cE R s m).1≠0):(cE R s m).2=R:=by
 unfold cE at h⊢
 split
 ·rfl
 ·rename_i h1
  rw[if_neg h1]at h
  split
  ·rfl
  ·rename_i h2;rw[if_neg h2]at h;exact absurd rfl h
theorem DB{R:RL}{s:dJ}(hG:Good R)(hl:R.fl.length+s.mv.length<=64)(hm:∀m∈s.mv,Ma R.sh s m):∀i,Good (fF R s i).2/\(fF R s i).2.fl.length<=R.fl.length+min i s.mv.length
 |0=>⟨hG,Nat.le_add_right _ _⟩
 |i+1=>by
  obtain⟨h1,h2⟩:=DB hG hl hm i
  by_cases h0:(fF R s i).1=0
  ·cases hx:s.mv[i]? with
   |none=>
    have:fF R s (i+1)=fF R s i:=by unfold fF;rw[abJ,hx];simp
    rw[this];exact⟨h1,by omega⟩
   |some m=>
    have hi:=(abA.1 hx).1
    have rP:=hm m (abC hx)
    rw[mW hx h0]
    by_cases hp:(cE (fF R s i).2 s m).1=0
    ·have:=Km h1 (by omega) (by rw[(zA R s i).2];exact rP) hp
     exact⟨this.1,by omega⟩
    ·rw[Qr hp];exact⟨h1,by omega⟩
  ·rw[qj h0 1];exact⟨h1,by omega⟩
theorem tC{R:RL}{s:dJ}{i j:Nat}(h:i<=j)(h0:(fF R s j).1=0):(fF R s i).1=0:=Decidable.byContradiction fun hc=>by
 have:=qj hc (j-i)
 rw[show i+(j-i)=j by omega]at this
 rw[this]at h0;exact hc h0
theorem Gt{R:RL}{s:dJ}:∀n,(fF R s n).1≠0->∃k,k<n/\(fF R s k).1=0/\(fF R s (k+1)).1=(fF R s n).1
 |0,h=>absurd rfl h
 |n+1,h=>by
  by_cases h0:(fF R s n).1=0
  ·exact⟨n,Nat.lt_succ_self n,h0,rfl⟩
  ·have e:=qj h0 1
   obtain⟨k,h1,h2,h3⟩:=Gt n h0
   exact⟨k,by omega,h2,by rw[h3,e]⟩
theorem Inv.aaX{P:PL}{R:RL}(h:Inv P R)(s:dJ):tB P s (ch0 P s) R where
 sh:=h.sh.symm
 sp:=h.sp.symm
 Ug:=rfl
 nk:=⟨List.nodup_nil,List.nodup_nil,List.nodup_nil⟩
 ret:=rfl
 fl:=by rw[h.fl];exact(List.append_nil _).symm
 st k:=h.wG k
 b8 j:=h.b8 j
 imp g:=h.imp g
 sk:=by
  have:(R.fl.filter fun f=>f.step==R.sh*4294967296+R.sp.length&&f.to==0)=[]:=by
   rw[List.filter_eq_nil_iff]
   intro f hf hc
   rw[aca]at hc
   have:=h.step f hf
   have:=beq_iff_eq.1 hc.1
   omega
  show[]=rZ _ _
  unfold rZ;rw[this];rfl
theorem Qs(l:List dJ)(s:dJ):eC (l++[s])=s.tick:=by unfold eC;rw[List.getLast?_concat]
theorem Inv.next{P:PL}{R R1:RL}{s:dJ}{c:Ch}(h:Inv P R)(hs:tB P s c R1)(hG:Good R1)(h1:R1.sh=R.sh/\R1.sp=R.sp)(hl:R1.fl.length<=R.fl.length+s.mv.length)(hm:s.mv.length<=4/\∀m∈s.mv,m.ps.length<=20)(l6:R.sp.length<14)(ht:eC R.sp<=s.tick):Inv (Uf P c c.st) { R1 with sp:=R.sp++[jY R s] }where
 mg:={ hG with
  sp:=by simp only[abM,List.length_singleton];omega
  MR:=fun f hf=>by
   obtain⟨a1,a2,a3,a4,a5,a6⟩:=hG.MR f hf
   refine⟨a1,a2,a3,a4,?_,a6⟩
   simp only[abM,List.length_singleton]
   rw[h1.2]at a5
   omega }
 sh:=h.sh.trans h1.1.symm
 fl:=hs.fl.symm
 sp:=by
  show P.sp++[c.sp]=R.sp++[jY R s]
  rw[hs.Ug,h.sp]
  unfold spI jY
  rw[h.sp,h.sh]
 nk:=⟨Dz _ _ h.nk.1,zx _ _ h.nk.2.1,zx _ _ h.nk.2.2⟩
 ret:=by show Mu P.ret c.ret=[];rw[h.ret,hs.ret];rfl
 st k:=by
  show aR (BQ P.st c.st) k=if cr R1.st k=[]then none else some (cr R1.st k)
  rw[tA _ _ h.nk.1 hs.nk.1,<-hs.st]
  unfold fo
  cases hc:aR c.st k with
  |some l=>rfl
  |none=>
   simp only[Option.getD_none]
   rw[h.st,h.wG]
 b8 j:=by
  show F2 (Mu P.b8 c.b8) j=dp R1.st j
  rw[<-hs.b8]
  unfold F2
  rw[pP _ _ hs.nk.2.1]
  cases aR c.b8 j<;>rfl
 imp g:=by
  show aR (Mu P.imp c.imp) g=zy R1.fl g
  rw[pP _ _ hs.nk.2.2,<-hs.imp];rfl
 step f hf:=by
  have:=(hG.MR f hf).2.2.2.2.1
  simp only[abM,List.length_singleton]
  rw[h1.2]at this
  omega
 fll:=by
  have:=h.fll
  simp only[abM,List.length_singleton];omega
 Wt x hx:=by
  rcases abI.1 hx with hx|hx
  ·exact h.Wt x hx
  ·rw[abF]at hx;subst hx
   exact⟨by have:=hm.1;simp only[jY];omega,hm.2⟩
 now:=by rw[Qs];have:=h.now;simp only[jY];omega
theorem Inv.perm{P:PL}{R:RL}(h:Inv P R):P.st.Perm (R.st.filter fun p=>decide (bQ p.2≠0)):=by
 have nd:∀{l:SM},Nk l->l.Nodup:=fun hl=>(List.pairwise_map.1 hl).imp fun h e=>h (congrArg _ e)
 have htv:∀k l,(k,l)∈R.st->(bQ l≠0↔l≠[]):=fun k l hm=>by
  have hl:=h.mg.pD _ hm
  have hf:=h.mg.fl
  rw[pE (gK hl.1 (by have:=hl.2;simp only at this;omega))]
  cases l with
  |nil=>simp[du]
  |cons x r=>
   have h1:=aw.1 (hl.1 x abL)
   have h2:=(C5 (l:=r) fun y hy=>lR (hl.1 y (abH _ hy))).1
   simp only[du,List.map_cons,List.sum_cons]at*
   simp;omega
 refine(List.perm_ext_iff_of_nodup (nd h.nk.1) ((nd h.mg.nk).sublist List.filter_sublist)).2 fun⟨k,l⟩=>?_
 rw[List.mem_filter,decide_eq_true_eq]
 constructor
 ·intro hm
  have h1:=s3 h.nk.1 hm
  rw[h.st]at h1
  split at h1
  ·cases h1
  ·rename_i ck
   injection h1 with h1
   subst h1
   have:=Di ck
   exact⟨this,(htv _ _ this).2 ck⟩
 ·rintro⟨h1,h2⟩
  have ck:=(htv _ _ h1).1 h2
  have:cr R.st k=l:=by unfold cr;rw[s3 h.mg.nk h1];rfl
  refine kV ?_
  rw[h.st,this,if_neg ck]
theorem Inv.hold{P:PL}{R:RL}(h:Inv P R)(l:HL)(hl:l.Perm (P.st.map MU))(hs:pQ l):l=tr R.st:=by
 have hr:=Gs R.st
 have e:P.st.map MU=P.st.map fun p=>(p.1,bQ p.2):=List.map_congr_left fun p hp=>by
  have hm:=(List.mem_filter.1 (h.perm.mem_iff.1 hp)).1
  have hq:=h.mg.pD p hm
  have:=h.mg.fl
  unfold MU
  rw[pE (gK hq.1 (by omega))]
 have hp:l.Perm (tr R.st):=hl.trans (by rw[e];exact(h.perm.map _).trans hr.2.symm)
 refine Ws ?_ hp hs hr.1
 rw[(hl.map _).nodup_iff,List.map_map]
 exact h.nk.1
variable [bJ]
theorem Qt(hS:n0){P:PL}{R:RL}{s:dJ}(h:Inv P R)(hl:R.fl.length+s.mv.length<=64)(hm:∀m∈s.mv,Ma R.sh s m):∀n,n<=s.mv.length->∃cN:Nat->Ch,(∀i,i<=n->(fF R s i).1=0->tB P s (KC P s cN i) (fF R s i).2)/\
 ∀i m,i<n->s.mv[i]?=some m->(fF R s i).1=0->aq Tryz.prog 48 [.ptr 0 0,cJ (ak m)] 14 (eZ 0 0 P (KC P s cN i)) 0 [.dv (I (fF R s (i+1)).1)] (eZ 1 1 P (cN i))
 |0,_=>⟨fun _=>ch0 P s,fun i hi _=>by
  have:i=0:=by omega
  subst this;exact h.aaX s,fun i m hi=>absurd hi (Nat.not_lt_zero _)⟩
 |n+1,hn=>by
  obtain⟨cN,h1,h2⟩:=Qt hS h hl hm n (by omega)
  by_cases h0:(fF R s n).1=0
  ·obtain⟨m,hx⟩:∃m,s.mv[n]?=some m:=⟨_,aaa (show n<s.mv.length by omega)⟩
   have hg:=DB h.mg hl hm n
   obtain⟨c',hc,hs⟩:=Qn hS (h1 n (ab3 _) h0) hg.1 (by omega) (by rw[(zA R s n).2];exact hm m (abC hx))
   have ZH:∀i,i<=n->KC P s (fun i=>if i=n then c' else cN i) i=KC P s cN i:=fun i hi=>by
    cases i with
    |zero=>rfl
    |succ i=>exact if_neg (by omega)
   have Hb:KC P s (fun i=>if i=n then c' else cN i) (n+1)=c':=if_pos rfl
   refine⟨fun i=>if i=n then c' else cN i,fun i hi FP=>?_,fun i m' hi zY FP=>?_⟩
   ·by_cases e:i=n+1
    ·subst e
     rw[Hb,mW hx h0]
     rw[mW hx h0]at FP
     exact hs FP
    ·rw[ZH i (by omega)];exact h1 i (by omega) FP
   ·rw[ZH i (by omega)]
    by_cases e:i=n
    ·subst e
     rw[hx]at zY;injection zY with zY;subst zY
     rw[mW hx h0];simp only[if_pos];exact hc
    ·simp only[if_neg e];exact h2 i m' (by omega) zY FP
  ·refine⟨cN,fun i hi FP=>?_,fun i m hi hx FP=>?_⟩
   ·by_cases e:i=n+1
    ·subst e;exact absurd (tC (Nat.le_succ n) FP) h0
    ·exact h1 i (by omega) FP
   ·by_cases e:i=n
    ·subst e;exact absurd FP h0
    ·exact h2 i m (by omega) hx FP
def zC(R:RL)(s:dJ):Int:=bif lC (eC R.sp) s then(fF R s s.mv.length).1 else 1
def S9(R:RL)(s:dJ):RL:={ (fF R s s.mv.length).2 with sp:=R.sp++[jY R s] }
theorem tD(hS:n0){P:PL}{R:RL}{s:dJ}(h:Inv P R)(l6:R.sp.length<14)(hf:pt R s):
 (zC R s≠0/\aq Tryz.prog 14 [.ptr 0 0,cJ (aC s)] 7 (fG P) 0 [.dv (I (zC R s))] (fG P)/\aq Tryz.prog 7 [.ptr 0 0,cJ (aC s)] 7 (fG P) 0 [.dv (I 0),.dv (I (zC R s))] (fG P)/\
  (aq Tryz.prog 8 [.ptr 0 0,cJ (aC s)] 4 (dE R) 0 [.dv (I 0),.dv (I (zC R s))] (dE R)\/aq Tryz.prog 8 [.ptr 0 0,cJ (aC s)] 4 (dE R) 5 [.dv (I 0),.dv (I (zC R s))] (rlY R)))\/
 (zC R s=0/\∃P':PL,Inv P' (S9 R s)/\aq Tryz.prog 14 [.ptr 0 0,cJ (aC s)] 7 (fG P) 0 [.dv (I 0)] (fG P)/\aq Tryz.prog 7 [.ptr 0 0,cJ (aC s)] 7 (fG P) 0 [.dv (I (R.sh*4294967296+R.sp.length)),.dv (I 0)] (Av 1 1 P')/\
  aq Tryz.prog 8 [.ptr 0 0,cJ (aC s)] 4 (dE R) 5 [.dv (I (R.sh*4294967296+R.sp.length)),.dv (I 0)] (jI 1 1 1 (S9 R s))):=by
 have hlen:=hf.len
 have Ta:∀m∈s.mv,m.ps.length<=4000:=fun m hm=>by have:=hf.ps m hm;omega
 have abu:=congrArg List.length h.sp
 have abv:=congrArg List.length h.fl
 have hgf:=h.mg.fl
 have wV:0<=P.sh/\P.sh<=12:=by have:=h.mg.sh;rw[h.sh];omega
 have A5:rU (eC P.sp) s=lC (eC R.sp) s:=by rw[h.sp];exact pos_eq _ s h.now
 unfold zC
 cases hp:lC (eC R.sp) s with
 |false=>
  have hr:=Gm R s (by omega) hf.aD (by omega) Ta (.inr hp)
  rw[if_neg (by omega)]at hr
  have ht:=Mo P s hf.aD (by omega) (by omega) Ta (A5.trans hp) (by omega)
  exact .inl ⟨show(1:Int)≠0 by decide,BO P s 1 ht,zw P s 1 (by decide) ht,.inl hr⟩
 |true=>
  have hm:=hf.pos hp
  have oe:R.fl.length+s.mv.length<=64:=by have:=h.fll;omega
  have hg:=DB h.mg oe hm
  have hk5:s.kind=5->∀m∈s.mv,∀x∈m.ps,0<=x.f/\x.f<=9223372036854775807:=fun k5 m rP x hx=>by
   rcases(hm m rP).ps with⟨_,_,g,g0,g1,e⟩|⟨k9,_⟩|⟨k,_⟩
   ·rw[e,abF]at hx;subst hx;exact⟨g0,g1⟩
   ·rw[k5]at k9;cases k9
   ·exact absurd k5 k
  have hSG:SG R s:=⟨hf.aD,by omega,hf.ps,by omega,fun i=>(hg i).1.rg,fun m rP=>(hm m rP).base,hk5⟩
  obtain⟨cN,tJ,yx⟩:=Qt hS h oe hm s.mv.length (ab3 _)
  by_cases h0:(fF R s s.mv.length).1=0
  ·have hx:=Gn R s hSG hp h0
   have ht:=Ms P s hf.aD wV (by omega) Ta (A5.trans hp) (by omega) cN fun i m hi=>by
    have AE:=(abA.1 hi).1
    have:=yx i m AE hi (tC (Nat.le_of_lt AE) h0)
    rw[tC (show i+1<=s.mv.length from AE) h0]at this
    exact this
   have hs:=tJ s.mv.length (ab3 _) h0
   generalize KC P s cN s.mv.length=c at ht hs
   have ZM:=zA R s s.mv.length
   have hi:=Inv.next h hs (hg s.mv.length).1 ⟨ZM.2,ZM.1⟩ (by have:=(hg s.mv.length).2;omega) ⟨hlen,hf.ps⟩ l6 (by
    simp only[lC,aca,decide_eq_true_eq]at hp
    exact hp.1.1.2.1)
   have hcf:=congrArg List.length hs.fl
   have na:=(hg s.mv.length).1.fl
   rw[abM]at hcf
   have Ue:=IX P s c ⟨h.nk.2.1,h.nk.2.2,by rw[h.ret];exact List.nodup_nil,hs.nk.2.1,hs.nk.2.2,by rw[hs.ret];exact List.nodup_nil⟩ ⟨by omega,by omega,by omega⟩ ⟨h.nk.1,hs.nk.1⟩ ht
   have wS:c.sp.id=R.sh*4294967296+R.sp.length:=by rw[hs.Ug,<-h.sh,<-h.sp];rfl
   rw[wS]at Ue
   exact .inr ⟨h0,_,hi,Mt P s c ht,Qg Ue,hx⟩
  ·obtain⟨k,hk,Jl,hke⟩:=Gt s.mv.length h0
   have hx:=Gp R s hSG hp h0
   have ht:=Mr P s hf.aD wV (by omega) Ta (A5.trans hp) (by omega) cN k hk (fF R s s.mv.length).1 h0 (cN k) (fun i m hi hx=>by
    have:=yx i m (by omega) hx (tC (Nat.le_of_lt hi) Jl)
    rw[tC (show i+1<=k from hi) Jl]at this
    exact this) fun m hx=>by
    have:=yx k m hk hx Jl
    rw[hke]at this
    exact this
   exact .inl ⟨h0,BO P s _ ht,zw P s _ h0 ht,.inr hx⟩
end
end Go.Proofs.YtpbiiigpphehbaaGreatDoor
