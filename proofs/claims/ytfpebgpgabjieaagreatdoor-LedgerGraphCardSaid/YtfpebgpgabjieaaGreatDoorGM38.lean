import Derived.Test.YtfpebgpgabjieaaGreatDoorGM37
import Derived.Test.YtfpebgpgabjieaaGreatDoorGM32
import Derived.Test.YtfpebgpgabjieaaGreatDoorGM25
import Derived.Test.YtfpebgpgabjieaaGreatDoorGM29
import Derived.Test.YtfpebgpgabjieaaGreatDoorGM31
set_option linter.all false
namespace Go.Proofs.YtfpebgpgabjieaaGreatDoor
set_option maxRecDepth 100000
section
open Go.TM
def rlY(R:RL):ad:=[(0,.cells (abf 2 2 0 R)),(1,.tree 2 0 (.aD 3 (R.st.map iK))),(2,.tree 2 0 (.aD 11 (R.fl.map ar))),(3,.tree 0 0 (.aD 7 (R.sp.map aP))),(6,.dead),(7,.dead)]
variable [bj]
theorem zy{P:Program}{f:Nat}{args:List AV}{m ex:Nat}{K:ad}{Q Q':List AV->ad->Prop}(h:bU P f args m K ex Q)(hQ:∀r k,Q r k->Q' r k):bU P f args m K ex Q':=
 ⟨h.1,fun w G vs a b c=>Calls.mono (h.2 w G vs a b c) fun _ _ ⟨v,r,k,G',h1,h2,h3⟩=>⟨v,r,k,G',h1,hQ r k h2,h3⟩⟩
structure SG(R:RL)(s:cG):Prop where
 aM:vP s.aM
 len:s.mv.length<=1000
 ps:∀m∈s.mv,m.ps.length<=20
 sp:R.sp.length<65536
 gT:∀i,RG (eX R s i).2
 base:∀m∈s.mv,di m=true
 imp:s.kind=5->∀m∈s.mv,∀x∈m.ps,0<=x.f/\x.f<=9223372036854775807
theorem GP(R:RL)(s:cG)(h:SG R s)(hp:iz (eW R.sp) s=true)(h0:(eX R s s.mv.length).1=0):aj Tryz.prog 34 [.ptr 0 0,cx (aP s)] 4 (dq R) 5 [.dv (I (R.sh*4294967296+R.sp.length)),.dv (I 0)] (jC 1 1 1 { (eX R s s.mv.length).2 with sp:=R.sp++[kj R s] }):=
 zy (Q3 R s h.aM h.len h.ps h.sp hp h.gT h.base h.imp) fun r k hk=>by
  rcases hk with⟨_,h2,h3⟩|⟨h1,_⟩
  ·exact⟨h2,h3⟩
  ·exact absurd h0 h1
theorem GQ(R:RL)(s:cG)(h:SG R s)(hp:iz (eW R.sp) s=true)(h0:(eX R s s.mv.length).1≠0):aj Tryz.prog 34 [.ptr 0 0,cx (aP s)] 4 (dq R) 5 [.dv (I 0),.dv (I (eX R s s.mv.length).1)] (rlY R):=by
 have h1:=zy (Q3 R s h.aM h.len h.ps h.sp hp h.gT h.base h.imp) (Q':=fun r k=>r=[.dv (I 0),.dv (I (eX R s s.mv.length).1)]/\∃R1:RL,k=ZS R R1/\R1.sh=R.sh/\R1.sp=R.sp) fun r k hk=>by
  rcases hk with⟨h1,_⟩|⟨_,h2,h3⟩
  ·exact absurd h1 h0
  ·exact⟨h2,h3⟩
 have h2:=vV (i:=1) (j:=6) (R':=fun r k=>r=[.dv (I 0),.dv (I (eX R s s.mv.length).1)]/\∃fl1:List bp,k=[(0,az.cells (.dv (I R.sh)::eP iG++[.own 1 2 0 [],.own 7 0 0 [],.own 3 0 0 []])),(1,.tree 2 0 (.aD 3 (R.st.map iK))),(2,.tree 1 0 (.aD 11 (fl1.map ar))),(3,.tree 0 0 (.aD 7 (R.sp.map aP))),(6,.dead),(7,.tree 0 0 (.aD 11 (R.fl.map ar)))]) h1 (by omega) (by omega) (by omega) fun r k hk=>by
  obtain⟨hr,R1,rfl,hs,hp⟩:=hk
  refine⟨_,⟨hr,R1.fl,rfl⟩,1,0,_,_,rfl,rfl,rfl,rfl,fun q h1 h2=>?_⟩
  match q,h1,h2 with
  |0,_,_=>
   show MQ 1 2 6 (.cells _) (.cells _)
   rw[hs]
   exact .cells (.same _ (.same _ (.same _ (.same _ (.same _ (.rU (.same _ (.same _ .nil))))))))
  |2,_,_=>exact .refl _
  |3,_,_=>show MQ 1 2 6 (.tree 0 0 _) (.tree 0 0 _);rw[hp];exact .refl _
  |4,_,_=>exact .refl _
  |5,_,_=>exact .refl _
  |7,_,_=>exact .refl _
  |q+8,_,_=>exact .refl _
 exact vV (i:=2) (j:=7) h2 (by omega) (by omega) (by omega) fun r k hk=>by
  obtain⟨hr,fl1,rfl⟩:=hk
  refine⟨_,⟨hr,rfl⟩,1,0,_,_,rfl,rfl,rfl,rfl,fun q h1 h2=>?_⟩
  match q,h1,h2 with
  |0,_,_=>exact .cells (.same _ (.same _ (.same _ (.same _ (.same _ (.same _ (.rU (.same _ .nil))))))))
  |1,_,_=>exact .refl _
  |3,_,_=>exact .refl _
  |4,_,_=>exact .refl _
  |5,_,_=>exact .refl _
  |6,_,_=>exact .refl _
  |q+8,_,_=>exact .refl _
end
section
open Go.TM
variable [bj]
end
section
end
section
end
section
open Go.TM
structure Inv(P:PL)(R:RL):Prop where
 gT:Good R
 sh:P.sh=R.sh
 fl:P.fl=R.fl
 sp:P.sp=R.sp
 nk:Nk P.st/\Nk P.bZ/\Nk P.imp/\Nk P.ret
 ret:∀g,aU P.ret g=kg R.fl g
 dx:Dx R
 st:∀k,aU P.st k=if bC R.st k=[]then none else some (bC R.st k)
 bZ:∀j,Gm P.bZ j=bN R.st j
 imp:∀g,aU P.imp g=wP R.fl g
 step:∀f∈R.fl,f.step<R.sh*4294967296+R.sp.length
 ZT:R.fl.length<=4*R.sp.length
 sps:∀s∈R.sp,s.mv.length<=160/\∀m∈s.mv,m.ps.length<=20
 now:0<=eW R.sp
theorem Inv.oK{P:PL}{R:RL}(h:Inv P R)(k:Ky):bC P.st k=bC R.st k:=by
 show(aU P.st k).getD []=_
 rw[h.st]
 split
 ·rename_i e;rw[e];rfl
 ·rfl
structure fA(R:RL)(s:cG):Prop where
 aM:vP s.aM
 len:s.mv.length<=4
 ps:∀m∈s.mv,m.ps.length<=20
 pos:iz (eW R.sp) s=true->vk R s/\(s.kind=5->∀m∈s.mv,∀x∈m.ps,0<=x.f/\x.f<=9223372036854775807)
theorem WA{R:RL}{s:cG}(hm:∀m∈s.mv,AF R.sh s m):vk R s/\(s.kind=5->∀m∈s.mv,∀x∈m.ps,0<=x.f/\x.f<=9223372036854775807):=⟨.inl hm,fun k5 m lW x hx=>by
 rcases(hm m lW).ps with⟨_,_,g,g0,g1,e⟩|⟨k,_⟩
 ·rw[e,adU]at hx;subst hx;exact⟨g0,g1⟩
 ·exact absurd k5 k⟩
theorem zA{now:Int}{s:cG}(h:iz now s=true):∀m∈s.mv,di m=true:=fun m hm=>by
 unfold iz at h
 rw[aep,aep]at h
 have:=aed.1 h.1.2 m hm
 unfold AD at this
 rw[aep]at this
 exact this.1
theorem Lv{R:RL}{s:cG}(hm:vk R s){i:Nat}{m:c5}(hx:s.mv[i]?=some m):AF R.sh s m\/i=0/\∃x,GN R s m x\/∃f,AL R s m x f:=by
 rcases hm with hm|⟨m',x,he,h⟩
 ·exact .inl (hm m (adR hx))
 ·rw[he]at hx
  have hi:i=0:=by have:=(adP.1 hx).1;simpa using this
  subst hi
  injection hx with hx;subst hx
  exact .inr ⟨rfl,x,h⟩
theorem Q4{R:RL}{s:cG}{m:c5}(h:(aX R s m).1≠0):(aX R s m).2=R:=by
 unfold aX at h⊢
 split
 ·rfl
 ·rename_i h1
  rw[if_neg h1]at h
  split
  ·rfl
  ·rename_i h2;rw[if_neg h2]at h;exact absurd rfl h
theorem GR{R:RL}{s:cG}(hG:Good R)(hD:Dx R)(hl:R.fl.length+s.mv.length<=160)(hm:vk R s):∀i,(Good (eX R s i).2/\Dx (eX R s i).2)/\(eX R s i).2.fl.length<=R.fl.length+min i s.mv.length
 |0=>⟨⟨hG,hD⟩,Nat.le_add_right _ _⟩
 |i+1=>by
  obtain⟨⟨h1,h3⟩,h2⟩:=GR hG hD hl hm i
  by_cases h0:(eX R s i).1=0
  ·cases hx:s.mv[i]? with
   |none=>
    have:eX R s (i+1)=eX R s i:=by unfold eX;rw[adY,hx];simp
    rw[this];exact⟨⟨h1,h3⟩,by omega⟩
   |some m=>
    have hi:=(adP.1 hx).1
    rw[jY hx h0]
    by_cases hp:(aX (eX R s i).2 s m).1=0
    ·rcases Lv hm hx with lW|⟨rfl,x,lW⟩
     ·have lW:AF (eX R s i).2.sh s m:=by rw[(pZ R s i).2];exact lW
      have:=Dd h1 (by omega) lW hp
      exact⟨⟨this.1,U5 h1 h3 lW hp⟩,by omega⟩
     ·have:=Lu (x:=x) hG hD (by omega) lW hp
      exact⟨⟨this.1.1,this.2⟩,by have:=this.1.2.1;show(aX R s m).2.fl.length<=_;omega⟩
    ·rw[Q4 hp];exact⟨⟨h1,h3⟩,by omega⟩
  ·rw[qI h0 1];exact⟨⟨h1,h3⟩,by omega⟩
theorem oa{R:RL}{s:cG}{i j:Nat}(h:i<=j)(h0:(eX R s j).1=0):(eX R s i).1=0:=Decidable.byContradiction fun hc=>by
 have:=qI hc (j-i)
 rw[show i+(j-i)=j by omega]at this
 rw[this]at h0;exact hc h0
theorem GS{R:RL}{s:cG}:∀n,(eX R s n).1≠0->∃k,k<n/\(eX R s k).1=0/\(eX R s (k+1)).1=(eX R s n).1
 |0,h=>absurd rfl h
 |n+1,h=>by
  by_cases h0:(eX R s n).1=0
  ·exact⟨n,Nat.lt_succ_self n,h0,rfl⟩
  ·have e:=qI h0 1
   obtain⟨k,h1,h2,h3⟩:=GS n h0
   exact⟨k,by omega,h2,by rw[h3,e]⟩
theorem Inv.acS{P:PL}{R:RL}(h:Inv P R)(s:cG):ki P s (ch0 P s) R where
 sh:=h.sh.symm
 sp:=h.sp.symm
 U3:=rfl
 nk:=⟨List.nodup_nil,List.nodup_nil,List.nodup_nil,List.nodup_nil⟩
 ret g:=h.ret g
 fl:=by rw[h.fl];exact(List.append_nil _).symm
 st k:=h.oK k
 bZ j:=h.bZ j
 imp g:=h.imp g
 sk:=by
  have:(R.fl.filter fun f=>f.step==R.sh*4294967296+R.sp.length&&f.to==0)=[]:=by
   rw[List.filter_eq_nil_iff]
   intro f hf hc
   rw[aep]at hc
   have:=h.step f hf
   have:=beq_iff_eq.1 hc.1
   omega
  show[]=qZ _ _
  unfold qZ;rw[this];rfl
theorem Q5(l:List cG)(s:cG):eW (l++[s])=s.tick:=by unfold eW;rw[List.getLast?_concat]
theorem Inv.next{P:PL}{R R1:RL}{s:cG}{c:Ch}(h:Inv P R)(hs:ki P s c R1)(hG:Good R1)(hD:Dx R1)(h1:R1.sh=R.sh/\R1.sp=R.sp)(hl:R1.fl.length<=R.fl.length+s.mv.length)(hm:s.mv.length<=4/\∀m∈s.mv,m.ps.length<=20)(lO:R.sp.length<40)(ht:eW R.sp<=s.tick):Inv (Ww P c c.st) { R1 with sp:=R.sp++[kj R s] }where
 gT:={ hG with
  sp:=by simp only[ad1,List.length_singleton];omega
  F8:=fun f hf=>by
   obtain⟨a1,a2,a3,a4,a5,a6⟩:=hG.F8 f hf
   refine⟨a1,a2,a3,a4,?_,a6⟩
   simp only[ad1,List.length_singleton]
   rw[h1.2]at a5
   omega }
 sh:=h.sh.trans h1.1.symm
 fl:=hs.fl.symm
 sp:=by
  show P.sp++[c.sp]=R.sp++[kj R s]
  rw[hs.U3,h.sp]
  unfold spI kj
  rw[h.sp,h.sh]
 nk:=⟨DH _ _ h.nk.1,vj _ _ h.nk.2.1,vj _ _ h.nk.2.2.1,vj _ _ h.nk.2.2.2⟩
 ret g:=by
  show aU (Nc P.ret c.ret) g=kg R1.fl g
  rw[np _ _ hs.nk.2.2.2,<-hs.ret];rfl
 dx:=⟨hD.dj,hD.ids,hD.rv,hD.fn,hD.ky⟩
 st k:=by
  show aU (BU P.st c.st) k=if bC R1.st k=[]then none else some (bC R1.st k)
  rw[tL _ _ h.nk.1 hs.nk.1,<-hs.st]
  unfold eL
  cases hc:aU c.st k with
  |some l=>rfl
  |none=>
   simp only[Option.getD_none]
   rw[h.st,h.oK]
 bZ j:=by
  show Gm (Nc P.bZ c.bZ) j=bN R1.st j
  rw[<-hs.bZ]
  unfold Gm
  rw[np _ _ hs.nk.2.1]
  cases aU c.bZ j<;>rfl
 imp g:=by
  show aU (Nc P.imp c.imp) g=wP R1.fl g
  rw[np _ _ hs.nk.2.2.1,<-hs.imp];rfl
 step f hf:=by
  have:=(hG.F8 f hf).2.2.2.2.1
  simp only[ad1,List.length_singleton]
  rw[h1.2]at this
  omega
 ZT:=by
  have:=h.ZT
  simp only[ad1,List.length_singleton];omega
 sps x hx:=by
  rcases adX.1 hx with hx|hx
  ·exact h.sps x hx
  ·rw[adU]at hx;subst hx
   exact⟨by have:=hm.1;simp only[kj];omega,hm.2⟩
 now:=by rw[Q5];have:=h.now;simp only[kj];omega
variable [bj]
theorem Q6(hS:n4){P:PL}{R:RL}{s:cG}(h:Inv P R)(hl:R.fl.length+s.mv.length<=160)(hm:vk R s):∀n,n<=s.mv.length->∃cN:Nat->Ch,(∀i,i<=n->(eX R s i).1=0->ki P s (Js P s cN i) (eX R s i).2)/\
 ∀i m,i<n->s.mv[i]?=some m->(eX R s i).1=0->aj Tryz.prog 99 [.ptr 0 0,cx (aq m)] 14 (dJ 0 0 P (Js P s cN i)) 0 [.dv (I (eX R s (i+1)).1)] (dJ 1 1 P (cN i))
 |0,_=>⟨fun _=>ch0 P s,fun i hi _=>by
  have:i=0:=by omega
  subst this;exact h.acS s,fun i m hi=>absurd hi (Nat.not_lt_zero _)⟩
 |n+1,hn=>by
  obtain⟨cN,h1,h2⟩:=Q6 hS h hl hm n (by omega)
  by_cases h0:(eX R s n).1=0
  ·obtain⟨m,hx⟩:∃m,s.mv[n]?=some m:=⟨_,ace (show n<s.mv.length by omega)⟩
   have hg:=GR h.gT h.dx hl hm n
   obtain⟨c',hc,hs⟩:∃c',aj Tryz.prog 99 [.ptr 0 0,cx (aq m)] 14 (dJ 0 0 P (Js P s cN n)) 0 [.dv (I (aX (eX R s n).2 s m).1)] (dJ 1 1 P c')/\((aX (eX R s n).2 s m).1=0->ki P s c' (aX (eX R s n).2 s m).2):=by
    rcases Lv hm hx with lW|⟨rfl,x,lW|⟨f,lW⟩⟩
    ·exact QY hS (h1 n (aei _) h0) hg.1.1 (by omega) (by rw[(pZ R s n).2];exact lW)
    ·exact Yw (h1 0 (aei _) h0) h.gT h.dx (by omega) lW
    ·exact Yx (h1 0 (aei _) h0) rfl h.gT h.dx (by omega) lW (by have:=(h.gT.F8 f lW.mem).2.2.2.1;rw[lW.id]at this;have:=h.gT.sh;have:=h.gT.fl;omega)
   have hch:∀i,i<=n->Js P s (fun i=>if i=n then c' else cN i) i=Js P s cN i:=fun i hi=>by
    cases i with
    |zero=>rfl
    |succ i=>exact if_neg (by omega)
   have F2:Js P s (fun i=>if i=n then c' else cN i) (n+1)=c':=if_pos rfl
   refine⟨fun i=>if i=n then c' else cN i,fun i hi F4=>?_,fun i m' hi Eu F4=>?_⟩
   ·by_cases e:i=n+1
    ·subst e
     rw[F2,jY hx h0]
     rw[jY hx h0]at F4
     exact hs F4
    ·rw[hch i (by omega)];exact h1 i (by omega) F4
   ·rw[hch i (by omega)]
    by_cases e:i=n
    ·subst e
     rw[hx]at Eu;injection Eu with Eu;subst Eu
     rw[jY hx h0];simp only[if_pos];exact hc
    ·simp only[if_neg e];exact h2 i m' (by omega) Eu F4
  ·refine⟨cN,fun i hi F4=>?_,fun i m hi hx F4=>?_⟩
   ·by_cases e:i=n+1
    ·subst e;exact absurd (oa (Nat.le_succ n) F4) h0
    ·exact h1 i (by omega) F4
   ·by_cases e:i=n
    ·subst e;exact absurd F4 h0
    ·exact h2 i m (by omega) hx F4
def oW(R:RL)(s:cG):Int:=bif iz (eW R.sp) s then(eX R s s.mv.length).1 else 1
def Lw(R:RL)(s:cG):RL:={ (eX R s s.mv.length).2 with sp:=R.sp++[kj R s] }
end
section
open Go.TM
variable [bj]
theorem qK(hS:n4){P:PL}{R:RL}{s:cG}(h:Inv P R)(lO:R.sp.length<40)(hf:fA R s):
 (oW R s≠0/\aj Tryz.prog 17 [.ptr 0 0,cx (aP s)] 7 (lF P) 0 [.dv (I 0),.dv (I (oW R s))] (lF P)/\
  (aj Tryz.prog 34 [.ptr 0 0,cx (aP s)] 4 (dq R) 0 [.dv (I 0),.dv (I (oW R s))] (dq R)\/aj Tryz.prog 34 [.ptr 0 0,cx (aP s)] 4 (dq R) 5 [.dv (I 0),.dv (I (oW R s))] (rlY R)))\/
 (oW R s=0/\∃P':PL,Inv P' (Lw R s)/\aj Tryz.prog 17 [.ptr 0 0,cx (aP s)] 7 (lF P) 0 [.dv (I (R.sh*4294967296+R.sp.length)),.dv (I 0)] (zx 1 1 P')/\
  aj Tryz.prog 34 [.ptr 0 0,cx (aP s)] 4 (dq R) 5 [.dv (I (R.sh*4294967296+R.sp.length)),.dv (I 0)] (jC 1 1 1 (Lw R s))):=by
 have hlen:=hf.len
 have U6:∀m∈s.mv,m.ps.length<=4000:=fun m hm=>by have:=hf.ps m hm;omega
 have adE:=congrArg List.length h.sp
 have adF:=congrArg List.length h.fl
 have Ws:=h.gT.fl
 have oF:0<=P.sh/\P.sh<=12:=by have:=h.gT.sh;rw[h.sh];omega
 have HV:sj (eW P.sp) s=iz (eW R.sp) s:=by rw[h.sp];exact pos_eq _ s h.now
 unfold oW
 cases hp:iz (eW R.sp) s with
 |false=>
  have hr:=GO R s (by omega) hf.aM (by omega) U6 (.inr hp)
  rw[if_neg (by omega)]at hr
  have ht:=M8 P s hf.aM (by omega) (by omega) U6 (HV.trans hp) (by omega)
  exact .inl ⟨show(1:Int)≠0 by decide,zw P s 1 (by decide) ht,.inl hr⟩
 |true=>
  obtain⟨hm,hk5⟩:=hf.pos hp
  have ZG:=zA hp
  have km:R.fl.length+s.mv.length<=160:=by have:=h.ZT;omega
  have hg:=GR h.gT h.dx km hm
  have hSG:SG R s:=⟨hf.aM,by omega,hf.ps,by omega,fun i=>(hg i).1.1.rg,ZG,hk5⟩
  obtain⟨cN,Au,wI⟩:=Q6 hS h km hm s.mv.length (aei _)
  by_cases h0:(eX R s s.mv.length).1=0
  ·have hx:=GP R s hSG hp h0
   have ht:=Nb P s hf.aM oF (by omega) U6 (HV.trans hp) (by omega) cN fun i m hi=>by
    have uZ:=(adP.1 hi).1
    have:=wI i m uZ hi (oa (Nat.le_of_lt uZ) h0)
    rw[oa (show i+1<=s.mv.length from uZ) h0]at this
    exact this
   have hs:=Au s.mv.length (aei _) h0
   generalize Js P s cN s.mv.length=c at ht hs
   have abB:=pZ R s s.mv.length
   have hi:=Inv.next h hs (hg s.mv.length).1.1 (hg s.mv.length).1.2 ⟨abB.2,abB.1⟩ (by have:=(hg s.mv.length).2;omega) ⟨hlen,hf.ps⟩ lO (by
    simp only[iz,aep,decide_eq_true_eq]at hp
    exact hp.1.1.2.1)
   have hcf:=congrArg List.length hs.fl
   have nM:=(hg s.mv.length).1.1.fl
   rw[ad1]at hcf
   have Wv:=Jt P s c ⟨h.nk.2.1,h.nk.2.2.1,h.nk.2.2.2,hs.nk.2.1,hs.nk.2.2.1,hs.nk.2.2.2⟩ ⟨by omega,by omega,by omega⟩ ⟨h.nk.1,hs.nk.1⟩ ht
   have kl:c.sp.id=R.sh*4294967296+R.sp.length:=by rw[hs.U3,<-h.sh,<-h.sp];rfl
   rw[kl]at Wv
   exact .inr ⟨h0,_,hi,QR Wv,hx⟩
  ·obtain⟨k,hk,EW,hke⟩:=GS s.mv.length h0
   have hx:=GQ R s hSG hp h0
   have ht:=Na P s hf.aM oF (by omega) U6 (HV.trans hp) (by omega) cN k hk (eX R s s.mv.length).1 h0 (cN k) (fun i m hi hx=>by
    have:=wI i m (by omega) hx (oa (Nat.le_of_lt hi) EW)
    rw[oa (show i+1<=k from hi) EW]at this
    exact this) fun m hx=>by
    have:=wI k m hk hx EW
    rw[hke]at this
    exact this
   exact .inl ⟨h0,zw P s _ h0 ht,.inr hx⟩
end
section
open Go.TM
def Nh(f:bp)(n:List Int)(p:Int):c5:=⟨0,1+pick n (p+4) 4,f.it,1+pick n (p+3) (f.n-pick n (p+2) f.n),[⟨f.id,pick n (p+2) f.n,1+pick n (p+3) (f.n-pick n (p+2) f.n)⟩]⟩
def Yy(n:List Int)(p:Int)(i:Nat)(f:bp):Bool:=decide (f.kind≠6/\f.to=0)&&decide (pick n (p+1+(i:Int).tmod 4) 2=0)
def Ez(fl:List bp)(n:List Int)(p:Int):Nat->List c5
 |0=>[]
 |i+1=>match Ez fl n p i with
  |[]=>match fl[i]? with
   |some f=>bif Yy n p i f then[Nh f n p]else[]
   |none=>[]
  |m::l=>m::l
def wQ(k:Ky)(y:Lt)(n:List Int)(p:Int):c5:=⟨k.1,if pick n (p+5) 4=k.1 then 0 else pick n (p+5) 4,k.2,1+pick n (p+4) (y.n-pick n (p+3) y.n),[⟨y.f,y.a+pick n (p+3) y.n,1+pick n (p+4) (y.n-pick n (p+3) y.n)⟩]⟩
def WB(R:RL)(n:List Int)(p:Int):List c5:=match R.st[(pick n (p+1) R.st.length).toNat]? with
 |none=>[]
 |some (k,l)=>match l[(pick n (p+2) l.length).toNat]? with
  |none=>[]
  |some y=>[wQ k y n p]
def p5(R:RL)(n:List Int)(p:Int):cG:=if pick n p 3=0 then⟨0,9,9,(R.sp.length:Int).tdiv 2,-1,0,Ez R.fl n p R.fl.length⟩else⟨0,7,9,(R.sp.length:Int).tdiv 2,-1,0,WB R n p⟩
theorem abC{fl:List bp}{n:List Int}{p:Int}{i:Nat}{f:bp}(hf:fl[i]?=some f)(h:(bif bif bif f.kind !=6 then f.to==0 else false then(((Ez fl n p i).map aq).length:Int)==0 else false then pick n (p+1+(i:Int).tmod 4) 2==0 else false)=true):Ez fl n p (i+1)=[Nh f n p]:=by
 have h0:Ez fl n p i=[]:=by
  cases hr:Ez fl n p i with
  |nil=>rfl
  |cons m l=>rw[hr]at h;simp at h;omega
 rw[Ez,h0,hf]
 simp only[h0]at h
 have hc:Yy n p i f=true:=by
  unfold Yy
  simp at h⊢
  omega
 simp only[hc];rfl
theorem abD{fl:List bp}{n:List Int}{p:Int}{i:Nat}{f:bp}(hf:fl[i]?=some f)(h:(bif bif bif f.kind !=6 then f.to==0 else false then(((Ez fl n p i).map aq).length:Int)==0 else false then pick n (p+1+(i:Int).tmod 4) 2==0 else false)=false):Ez fl n p (i+1)=Ez fl n p i:=by
 cases h0:Ez fl n p i with
 |cons m l=>rw[Ez,h0]
 |nil=>
  rw[Ez,h0,hf]
  simp only[h0]at h
  have hc:Yy n p i f=false:=by
   unfold Yy
   simp at h⊢
   omega
  simp only[hc];rfl
end
section
open Go.TM
theorem Q7{fl:List bp}{n:List Int}{p:Int}:∀i,Ez fl n p i=[]\/∃f∈fl,f.kind≠6/\f.to=0/\Ez fl n p i=[Nh f n p]
 |0=>.inl rfl
 |i+1=>by
  rcases Q7 (fl:=fl) (n:=n) (p:=p) i with h|⟨f,h1,h2,h3,h4⟩
  ·unfold Ez
   rw[h]
   cases hx:fl[i]? with
   |none=>exact .inl rfl
   |some f=>
    simp only
    cases hc:Yy n p i f with
    |false=>exact .inl rfl
    |true=>
     unfold Yy at hc
     rw[aep,aen,aen]at hc
     exact .inr ⟨f,adR hx,hc.1.1,hc.1.2,rfl⟩
  ·refine .inr ⟨f,h1,h2,h3,?_⟩
   unfold Ez
   rw[h4]
theorem Lx{R:RL}{k:Int}{t:Int}{ms:List c5}(hk:k≠5)(h:ms=[]\/∃m,ms=[m]/\m.ps.length<=20/\∃x,GN R ⟨0,k,9,t,-1,0,ms⟩ m x\/∃f,AL R ⟨0,k,9,t,-1,0,ms⟩ m x f):fA R ⟨0,k,9,t,-1,0,ms⟩:=by
 rcases h with h|⟨m,h,hp,x,hx⟩
 ·subst h
  refine⟨by unfold vP;simp,by simp,fun m hm=>(by cases hm),fun hc=>?_⟩
  unfold iz AE at hc
  simp at hc
 ·have h':=h
  refine⟨by unfold vP;simp,by rw[h];simp,fun q hq=>?_,fun _=>⟨.inr ⟨m,x,h,hx⟩,fun k5=>absurd k5 hk⟩⟩
  rw[h,adU]at hq;subst hq;exact hp
theorem Q8{R:RL}(hG:Good R)(hD:Dx R)(n:List Int)(p:Int):fA R (p5 R n p):=by
 unfold p5
 split
 ·refine Lx (by decide) ?_
  rcases Q7 (fl:=R.fl) (n:=n) (p:=p) R.fl.length with h|⟨f,h1,h2,h3,h4⟩
  ·exact .inl h
  ·refine .inr ⟨_,h4,by simp[Nh],⟨f.id,pick n (p+2) f.n,1+pick n (p+3) (f.n-pick n (p+2) f.n)⟩,.inr ⟨f,?_⟩⟩
   have hn:=hD.fn f h1
   have kl:=(hG.F8 f h1).2.2.1
   have oF:=hG.sh
   have b2:=fR n (p+2) f.n (by omega)
   have b3:=fR n (p+3) (f.n-pick n (p+2) f.n) (by omega)
   have b4:=fR n (p+4) 4 (by omega)
   refine⟨aeb (by simp only[Nh];omega),rfl,rfl,rfl,ah.2 (by simp only;omega),h1,rfl,h3,h2,rfl,by simp only;omega⟩
 ·refine Lx (by decide) ?_
  unfold WB
  cases hs:R.st[(pick n (p+1) R.st.length).toNat]? with
  |none=>exact .inl rfl
  |some q=>
   obtain⟨k,l⟩:=q
   simp only
   cases hy:l[(pick n (p+2) l.length).toNat]? with
   |none=>exact .inl rfl
   |some y=>
    have hq:=adR hs
    have TY:=adR hy
    have hk:=hD.ky _ hq
    have hyp:=ah.1 ((hG.tA _ hq).1 y TY)
    have ak:bC R.st k=l:=by unfold bC;rw[xe hG.nk hq];rfl
    have b3:=fR n (p+3) y.n (by omega)
    have b4:=fR n (p+4) (y.n-pick n (p+3) y.n) (by omega)
    have b5:=fR n (p+5) 4 (by omega)
    simp only at hk
    refine .inr ⟨_,rfl,by simp[wQ],⟨y.f,y.a+pick n (p+3) y.n,1+pick n (p+4) (y.n-pick n (p+3) y.n)⟩,.inl ⟨aeb ?_,rfl,?_,rfl,ah.2 (by simp only;omega),rfl,y,?_,rfl,by simp only;omega,by simp only;omega⟩⟩
    ·simp only[wQ]
     split<;>omega
    ·simp only[wQ];omega
    ·rw[show((wQ k y n p).fr,(wQ k y n p).it)=k from rfl,ak];exact TY
end
section
open Go.TM
variable [bj]
end
end Go.Proofs.YtfpebgpgabjieaaGreatDoor
