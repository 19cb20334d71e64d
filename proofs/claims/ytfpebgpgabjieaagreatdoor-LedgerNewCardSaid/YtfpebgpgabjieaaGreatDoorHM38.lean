import Derived.Test.YtfpebgpgabjieaaGreatDoorHM37
import Derived.Test.YtfpebgpgabjieaaGreatDoorHM31
import Derived.Test.YtfpebgpgabjieaaGreatDoorHM23
import Derived.Test.YtfpebgpgabjieaaGreatDoorHM26
import Derived.Test.YtfpebgpgabjieaaGreatDoorHM30
import Derived.Test.YtfpebgpgabjieaaGreatDoorHM18
import Derived.WalkKit
import Derived.Lib.Mul64
import Derived.Laws.Bits64b
import Derived.Test.YtfpebgpgabjieaaGreatDoorHM17
import Derived.Lib.ItoaNum
import Derived.Shelf.SlSortCmp.Xorshift
import Derived.Shelf.SlSortCmp.Whole1
set_option linter.all false
open Go.TM.oA Go.TM.oB Go.TM.oC Go.TM.oD Go.TM.oE
namespace Go.Proofs.YtfpebgpgabjieaaGreatDoor
set_option maxRecDepth 100000
set_option maxHeartbeats 4000000
section
open Go.TM
def rlY(R:RL):ae:=[(0,.cells (aaS 2 2 0 R)),(1,.tree 2 0 (.aI 3 (R.st.map kG))),(2,.tree 2 0 (.aI 11 (R.fl.map bB))),(3,.tree 0 0 (.aI 7 (R.sp.map aZ))),(6,.dead),(7,.dead)]
variable [aW]
theorem zf{P:Program}{f:Nat}{args:List AV}{m ex:Nat}{K:ae}{Q Q':List AV->ae->Prop}(h:bX P f args m K ex Q)(hQ:∀r k,Q r k->Q' r k):bX P f args m K ex Q':=
 ⟨h.1,fun w G vs a b c=>Calls.mono (h.2 w G vs a b c) fun _ _ ⟨v,r,k,G',h1,h2,h3⟩=>⟨v,r,k,G',h1,hQ r k h2,h3⟩⟩
structure SG(R:RL)(s:dI):Prop where
 aX:LM s.aX
 len:s.mv.length<=1000
 ps:∀m∈s.mv,m.ps.length<=20
 sp:R.sp.length<65536
 oQ:∀i,RG (fy R s i).2
 base:∀m∈s.mv,dG m=true
 imp:s.kind=5->∀m∈s.mv,∀x∈m.ps,0<=x.f/\x.f<=9223372036854775807
theorem Gf(R:RL)(s:dI)(h:SG R s)(hp:lO (fw R.sp) s=true)(h0:(fy R s s.mv.length).1=0):aw Tryz.prog 34 [.ptr 0 0,cP (aZ s)] 4 (gn R) 5 [.dv (I (R.sh*4294967296+R.sp.length)),.dv (I 0)] (j6 1 1 1 { (fy R s s.mv.length).2 with sp:=R.sp++[kn R s] }):=
 zf (Q8 R s h.aX h.len h.ps h.sp hp h.oQ h.base h.imp) fun r k hk=>by
  rcases hk with⟨_,h2,h3⟩|⟨h1,_⟩
  ·exact⟨h2,h3⟩
  ·exact absurd h0 h1
theorem Gg(R:RL)(s:dI)(h:SG R s)(hp:lO (fw R.sp) s=true)(h0:(fy R s s.mv.length).1≠0):aw Tryz.prog 34 [.ptr 0 0,cP (aZ s)] 4 (gn R) 5 [.dv (I 0),.dv (I (fy R s s.mv.length).1)] (rlY R):=by
 have h1:=zf (Q8 R s h.aX h.len h.ps h.sp hp h.oQ h.base h.imp) (Q':=fun r k=>r=[.dv (I 0),.dv (I (fy R s s.mv.length).1)]/\∃R1:RL,k=Zo R R1/\R1.sh=R.sh/\R1.sp=R.sp) fun r k hk=>by
  rcases hk with⟨h1,_⟩|⟨_,h2,h3⟩
  ·exact absurd h1 h0
  ·exact⟨h2,h3⟩
 have h2:=vE (i:=1) (j:=6) (R':=fun r k=>r=[.dv (I 0),.dv (I (fy R s s.mv.length).1)]/\∃fl1:List j4,k=[(0,ax.cells (.dv (I R.sh)::fp oF++[.own 1 2 0 [],.own 7 0 0 [],.own 3 0 0 []])),(1,.tree 2 0 (.aI 3 (R.st.map kG))),(2,.tree 1 0 (.aI 11 (fl1.map bB))),(3,.tree 0 0 (.aI 7 (R.sp.map aZ))),(6,.dead),(7,.tree 0 0 (.aI 11 (R.fl.map bB)))]) h1 (by omega) (by omega) (by omega) fun r k hk=>by
  obtain⟨hr,R1,rfl,hs,hp⟩:=hk
  refine⟨_,⟨hr,R1.fl,rfl⟩,1,0,_,_,rfl,rfl,rfl,rfl,fun q h1 h2=>?_⟩
  match q,h1,h2 with
  |0,_,_=>
   show L2 1 2 6 (.cells _) (.cells _)
   rw[hs]
   exact .cells (.same _ (.same _ (.same _ (.same _ (.same _ (.qW (.same _ (.same _ .nil))))))))
  |2,_,_=>exact .refl _
  |3,_,_=>show L2 1 2 6 (.tree 0 0 _) (.tree 0 0 _);rw[hp];exact .refl _
  |4,_,_=>exact .refl _
  |5,_,_=>exact .refl _
  |7,_,_=>exact .refl _
  |q+8,_,_=>exact .refl _
 exact vE (i:=2) (j:=7) h2 (by omega) (by omega) (by omega) fun r k hk=>by
  obtain⟨hr,fl1,rfl⟩:=hk
  refine⟨_,⟨hr,rfl⟩,1,0,_,_,rfl,rfl,rfl,rfl,fun q h1 h2=>?_⟩
  match q,h1,h2 with
  |0,_,_=>exact .cells (.same _ (.same _ (.same _ (.same _ (.same _ (.same _ (.qW (.same _ .nil))))))))
  |1,_,_=>exact .refl _
  |3,_,_=>exact .refl _
  |4,_,_=>exact .refl _
  |5,_,_=>exact .refl _
  |6,_,_=>exact .refl _
  |q+8,_,_=>exact .refl _
end
section
open Go.TM
variable [aW]
end
section
end
section
end
section
open Go.TM
structure Inv(P:PL)(R:RL):Prop where
 oQ:Good R
 sh:P.sh=R.sh
 fl:P.fl=R.fl
 sp:P.sp=R.sp
 nk:Nk P.st/\Nk P.cj/\Nk P.imp/\Nk P.ret
 ret:∀g,aV P.ret g=kI R.fl g
 dx:Dx R
 st:∀k,aV P.st k=if bY R.st k=[]then none else some (bY R.st k)
 cj:∀j,FK P.cj j=b8 R.st j
 imp:∀g,aV P.imp g=wB R.fl g
 step:∀f∈R.fl,f.step<R.sh*4294967296+R.sp.length
 fll:R.fl.length<=4*R.sp.length
 sps:∀s∈R.sp,s.mv.length<=160/\∀m∈s.mv,m.ps.length<=20
 now:0<=fw R.sp
theorem Inv.tz{P:PL}{R:RL}(h:Inv P R)(k:Ky):bY P.st k=bY R.st k:=by
 show(aV P.st k).getD []=_
 rw[h.st]
 split
 ·rename_i e;rw[e];rfl
 ·rfl
structure rJ(R:RL)(s:dI):Prop where
 aX:LM s.aX
 len:s.mv.length<=4
 ps:∀m∈s.mv,m.ps.length<=20
 pos:lO (fw R.sp) s=true->zb R s/\(s.kind=5->∀m∈s.mv,∀x∈m.ps,0<=x.f/\x.f<=9223372036854775807)
theorem abe{R:RL}{s:dI}(hm:∀m∈s.mv,IL R.sh s m):zb R s/\(s.kind=5->∀m∈s.mv,∀x∈m.ps,0<=x.f/\x.f<=9223372036854775807):=⟨.inl hm,fun k5 m nT x hx=>by
 rcases(hm m nT).ps with⟨_,_,g,g0,g1,e⟩|⟨k,_⟩
 ·rw[e,ado]at hx;subst hx;exact⟨g0,g1⟩
 ·exact absurd k5 k⟩
theorem Q9{now:Int}{s:dI}(h:lO now s=true):∀m∈s.mv,dG m=true:=fun m hm=>by
 unfold lO at h
 rw[adT,adT]at h
 have:=adH.1 h.1.2 m hm
 unfold Bp at this
 rw[adT]at this
 exact this.1
theorem Ws{R:RL}{s:dI}(hm:zb R s){i:Nat}{m:eS}(hx:s.mv[i]?=some m):IL R.sh s m\/i=0/\∃x,Q5 R s m x\/∃f,Q6 R s m x f:=by
 rcases hm with hm|⟨m',x,he,h⟩
 ·exact .inl (hm m (adl hx))
 ·rw[he]at hx
  have hi:i=0:=by have:=(adj.1 hx).1;simpa using this
  subst hi
  injection hx with hx;subst hx
  exact .inr ⟨rfl,x,h⟩
theorem Ra{R:RL}{s:dI}{m:eS}(h:(bz R s m).1≠0):(bz R s m).2=R:=by
 unfold bz at h⊢
 split
 ·rfl
 ·rename_i h1
  rw[if_neg h1]at h
  split
  ·rfl
  ·rename_i h2;rw[if_neg h2]at h;exact absurd rfl h
theorem Rb{R:RL}{s:dI}(hG:Good R)(hD:Dx R)(hl:R.fl.length+s.mv.length<=160)(hm:zb R s):∀i,(Good (fy R s i).2/\Dx (fy R s i).2)/\(fy R s i).2.fl.length<=R.fl.length+min i s.mv.length
 |0=>⟨⟨hG,hD⟩,Nat.le_add_right _ _⟩
 |i+1=>by
  obtain⟨⟨h1,h3⟩,h2⟩:=Rb hG hD hl hm i
  by_cases h0:(fy R s i).1=0
  ·cases hx:s.mv[i]? with
   |none=>
    have:fy R s (i+1)=fy R s i:=by unfold fy;rw[ads,hx];simp
    rw[this];exact⟨⟨h1,h3⟩,by omega⟩
   |some m=>
    have hi:=(adj.1 hx).1
    rw[mZ hx h0]
    by_cases hp:(bz (fy R s i).2 s m).1=0
    ·rcases Ws hm hx with nT|⟨rfl,x,nT⟩
     ·have nT:IL (fy R s i).2.sh s m:=by rw[(zd R s i).2];exact nT
      have:=KE h1 (by omega) nT hp
      exact⟨⟨this.1,U4 h1 h3 nT hp⟩,by omega⟩
     ·have:=U5 (x:=x) hG hD (by omega) nT hp
      exact⟨⟨this.1.1,this.2⟩,by have:=this.1.2.1;show(bz R s m).2.fl.length<=_;omega⟩
    ·rw[Ra hp];exact⟨⟨h1,h3⟩,by omega⟩
  ·rw[qB h0 1];exact⟨⟨h1,h3⟩,by omega⟩
theorem tJ{R:RL}{s:dI}{i j:Nat}(h:i<=j)(h0:(fy R s j).1=0):(fy R s i).1=0:=Decidable.byContradiction fun hc=>by
 have:=qB hc (j-i)
 rw[show i+(j-i)=j by omega]at this
 rw[this]at h0;exact hc h0
theorem Gi{R:RL}{s:dI}:∀n,(fy R s n).1≠0->∃k,k<n/\(fy R s k).1=0/\(fy R s (k+1)).1=(fy R s n).1
 |0,h=>absurd rfl h
 |n+1,h=>by
  by_cases h0:(fy R s n).1=0
  ·exact⟨n,Nat.lt_succ_self n,h0,rfl⟩
  ·have e:=qB h0 1
   obtain⟨k,h1,h2,h3⟩:=Gi n h0
   exact⟨k,by omega,h2,by rw[h3,e]⟩
theorem Inv.acp{P:PL}{R:RL}(h:Inv P R)(s:dI):km P s (ch0 P s) R where
 sh:=h.sh.symm
 sp:=h.sp.symm
 U1:=rfl
 nk:=⟨List.nodup_nil,List.nodup_nil,List.nodup_nil,List.nodup_nil⟩
 ret g:=h.ret g
 fl:=by rw[h.fl];exact(List.append_nil _).symm
 st k:=h.tz k
 cj j:=h.cj j
 imp g:=h.imp g
 sk:=by
  have:(R.fl.filter fun f=>f.step==R.sh*4294967296+R.sp.length&&f.to==0)=[]:=by
   rw[List.filter_eq_nil_iff]
   intro f hf hc
   rw[adT]at hc
   have:=h.step f hf
   have:=beq_iff_eq.1 hc.1
   omega
  show[]=q7 _ _
  unfold q7;rw[this];rfl
theorem Rc(l:List dI)(s:dI):fw (l++[s])=s.tick:=by unfold fw;rw[List.getLast?_concat]
theorem Inv.next{P:PL}{R R1:RL}{s:dI}{c:Ch}(h:Inv P R)(hs:km P s c R1)(hG:Good R1)(hD:Dx R1)(h1:R1.sh=R.sh/\R1.sp=R.sp)(hl:R1.fl.length<=R.fl.length+s.mv.length)(hm:s.mv.length<=4/\∀m∈s.mv,m.ps.length<=20)(ns:R.sp.length<40)(ht:fw R.sp<=s.tick):Inv (Wo P c c.st) { R1 with sp:=R.sp++[kn R s] }where
 oQ:={ hG with
  sp:=by simp only[adv,List.length_singleton];omega
  NL:=fun f hf=>by
   obtain⟨a1,a2,a3,a4,a5,a6⟩:=hG.NL f hf
   refine⟨a1,a2,a3,a4,?_,a6⟩
   simp only[adv,List.length_singleton]
   rw[h1.2]at a5
   omega }
 sh:=h.sh.trans h1.1.symm
 fl:=hs.fl.symm
 sp:=by
  show P.sp++[c.sp]=R.sp++[kn R s]
  rw[hs.U1,h.sp]
  unfold spI kn
  rw[h.sp,h.sh]
 nk:=⟨Dq _ _ h.nk.1,uV _ _ h.nk.2.1,uV _ _ h.nk.2.2.1,uV _ _ h.nk.2.2.2⟩
 ret g:=by
  show aV (ML P.ret c.ret) g=kI R1.fl g
  rw[mY _ _ hs.nk.2.2.2,<-hs.ret];rfl
 dx:=⟨hD.dj,hD.ids,hD.rv,hD.fn,hD.ky⟩
 st k:=by
  show aV (By P.st c.st) k=if bY R1.st k=[]then none else some (bY R1.st k)
  rw[tG _ _ h.nk.1 hs.nk.1,<-hs.st]
  unfold eH
  cases hc:aV c.st k with
  |some l=>rfl
  |none=>
   simp only[Option.getD_none]
   rw[h.st,h.tz]
 cj j:=by
  show FK (ML P.cj c.cj) j=b8 R1.st j
  rw[<-hs.cj]
  unfold FK
  rw[mY _ _ hs.nk.2.1]
  cases aV c.cj j<;>rfl
 imp g:=by
  show aV (ML P.imp c.imp) g=wB R1.fl g
  rw[mY _ _ hs.nk.2.2.1,<-hs.imp];rfl
 step f hf:=by
  have:=(hG.NL f hf).2.2.2.2.1
  simp only[adv,List.length_singleton]
  rw[h1.2]at this
  omega
 fll:=by
  have:=h.fll
  simp only[adv,List.length_singleton];omega
 sps x hx:=by
  rcases adr.1 hx with hx|hx
  ·exact h.sps x hx
  ·rw[ado]at hx;subst hx
   exact⟨by have:=hm.1;simp only[kn];omega,hm.2⟩
 now:=by rw[Rc];have:=h.now;simp only[kn];omega
variable [aW]
theorem Re(hS:nU){P:PL}{R:RL}{s:dI}(h:Inv P R)(hl:R.fl.length+s.mv.length<=160)(hm:zb R s):∀n,n<=s.mv.length->∃cN:Nat->Ch,(∀i,i<=n->(fy R s i).1=0->km P s (IK P s cN i) (fy R s i).2)/\
 ∀i m,i<n->s.mv[i]?=some m->(fy R s i).1=0->aw Tryz.prog 99 [.ptr 0 0,cP (ay m)] 14 (dP 0 0 P (IK P s cN i)) 0 [.dv (I (fy R s (i+1)).1)] (dP 1 1 P (cN i))
 |0,_=>⟨fun _=>ch0 P s,fun i hi _=>by
  have:i=0:=by omega
  subst this;exact h.acp s,fun i m hi=>absurd hi (Nat.not_lt_zero _)⟩
 |n+1,hn=>by
  obtain⟨cN,h1,h2⟩:=Re hS h hl hm n (by omega)
  by_cases h0:(fy R s n).1=0
  ·obtain⟨m,hx⟩:∃m,s.mv[n]?=some m:=⟨_,abK (show n<s.mv.length by omega)⟩
   have hg:=Rb h.oQ h.dx hl hm n
   obtain⟨c',hc,hs⟩:∃c',aw Tryz.prog 99 [.ptr 0 0,cP (ay m)] 14 (dP 0 0 P (IK P s cN n)) 0 [.dv (I (bz (fy R s n).2 s m).1)] (dP 1 1 P c')/\((bz (fy R s n).2 s m).1=0->km P s c' (bz (fy R s n).2 s m).2):=by
    rcases Ws hm hx with nT|⟨rfl,x,nT|⟨f,nT⟩⟩
    ·exact Q1 hS (h1 n (adM _) h0) hg.1.1 (by omega) (by rw[(zd R s n).2];exact nT)
    ·exact Yo (h1 0 (adM _) h0) h.oQ h.dx (by omega) nT
    ·exact Yp (h1 0 (adM _) h0) rfl h.oQ h.dx (by omega) nT (by have:=(h.oQ.NL f nT.mem).2.2.2.1;rw[nT.id]at this;have:=h.oQ.sh;have:=h.oQ.fl;omega)
   have hch:∀i,i<=n->IK P s (fun i=>if i=n then c' else cN i) i=IK P s cN i:=fun i hi=>by
    cases i with
    |zero=>rfl
    |succ i=>exact if_neg (by omega)
   have Is:IK P s (fun i=>if i=n then c' else cN i) (n+1)=c':=if_pos rfl
   refine⟨fun i=>if i=n then c' else cN i,fun i hi FJ=>?_,fun i m' hi JI FJ=>?_⟩
   ·by_cases e:i=n+1
    ·subst e
     rw[Is,mZ hx h0]
     rw[mZ hx h0]at FJ
     exact hs FJ
    ·rw[hch i (by omega)];exact h1 i (by omega) FJ
   ·rw[hch i (by omega)]
    by_cases e:i=n
    ·subst e
     rw[hx]at JI;injection JI with JI;subst JI
     rw[mZ hx h0];simp only[if_pos];exact hc
    ·simp only[if_neg e];exact h2 i m' (by omega) JI FJ
  ·refine⟨cN,fun i hi FJ=>?_,fun i m hi hx FJ=>?_⟩
   ·by_cases e:i=n+1
    ·subst e;exact absurd (tJ (Nat.le_succ n) FJ) h0
    ·exact h1 i (by omega) FJ
   ·by_cases e:i=n
    ·subst e;exact absurd FJ h0
    ·exact h2 i m (by omega) hx FJ
def Dv(R:RL)(s:dI):Int:=bif lO (fw R.sp) s then(fy R s s.mv.length).1 else 1
def Zp(R:RL)(s:dI):RL:={ (fy R s s.mv.length).2 with sp:=R.sp++[kn R s] }
end
section
open Go.TM Go.RowKit
theorem pV(a:Nat)(ha:a<18446744073709551616):bits .and .u64 (a:Int) 4294967295=((a%4294967296:Nat):Int):=by
 have h:=bits_and_u64_nat a 4294967295 ha (by omega)
 have e:a &&& 4294967295=a%4294967296:=Nat.and_two_pow_sub_one_eq_mod a 32
 rw[e]at h
 exact h
theorem Dw(a:Nat):(a:Int)/4294967296=((a/4294967296:Nat):Int):=by omega
theorem tK(a b:Nat):(a:Int)*(b:Int)=((a*b:Nat):Int):=(Int.natCast_mul a b).symm
theorem xa(a b:Nat):(a:Int)+(b:Int)=((a+b:Nat):Int):=(Int.natCast_add a b).symm
theorem cL(a:Nat)(ha:a<18446744073709551616):IntKind.u64.wrap (a:Int)=(a:Int):=by rw[IntKind.wrap_u64];omega
theorem Bz(a:Nat):IntKind.u64.wrap (a:Int)=((a%18446744073709551616:Nat):Int):=by rw[IntKind.wrap_u64];omega
theorem Gj(x y:Nat)(hx:x<18446744073709551616)(hy:y<18446744073709551616)(w:World):
 Calls Tryz.prog 277 #[.int .u64 x,.int .u64 y] w fun e w'=>e=.returned (.tuple #[.int .u64 ((x*y/18446744073709551616:Nat):Int),.int .u64 ((x*y%18446744073709551616:Nat):Int)])/\w'=w:=by
 obtain⟨bd,bt,bw,KO⟩:=Lib.mul64_hi x y hx hy
 have ba:=Lib.half_mul_le (a:=x/4294967296) (b:=y/4294967296) (by omega) (by omega)
 have bb:=Lib.half_mul_le (a:=x/4294967296) (b:=y%4294967296) (by omega) (by omega)
 have bc:=Lib.half_mul_le (a:=x%4294967296) (b:=y/4294967296) (by omega) (by omega)
 have ba':x/4294967296*(y/4294967296)<18446744073709551616:=by omega
 have bb':x/4294967296*(y%4294967296)<18446744073709551616:=by omega
 have bc':x%4294967296*(y/4294967296)<18446744073709551616:=by omega
 have bh1:x/4294967296*(y/4294967296)+(x/4294967296*(y%4294967296)+x%4294967296*(y%4294967296)/4294967296)/4294967296<18446744073709551616:=by omega
 have bh:x/4294967296*(y/4294967296)+(x/4294967296*(y%4294967296)+x%4294967296*(y%4294967296)/4294967296)/4294967296+((x/4294967296*(y%4294967296)+x%4294967296*(y%4294967296)/4294967296)%4294967296+x%4294967296*(y/4294967296))/4294967296<18446744073709551616:=by omega
 go_enter Tryz.func277,Tryz.ntmps277
 go_wp2
 simp only[pV x hx,pV y hy,Dw,tK,xa,cL _ bd,cL _ bb',cL _ bt,pV _ bt,cL _ bc',cL _ bw,cL _ ba',cL _ bh1,cL _ bh,Bz (x*y)]
 rw[KO]
 go_ret2
 exact⟨rfl,rfl⟩
variable [aW]
abbrev U(n:Nat):DV:=.int .u64 (n:Int)
theorem IY(x y:Nat)(hx:x<18446744073709551616)(hy:y<18446744073709551616):ai Tryz.prog 277 [U x,U y] [U (x*y/18446744073709551616),U (x*y%18446744073709551616)]:=by
 refine⟨⟨_,Tryz.func277,by kernel_rfl,rfl⟩,fun w M vs dz nr hr=>?_⟩
 obtain⟨v0,v1,rfl⟩:∃v0 v1,vs=[v0,v1]:=by
  match vs,hr.1 with
  |[a,b],_=>exact⟨a,b,rfl⟩
 have h0:=hr.2 0 _ v0 rfl rfl
 have h1:=hr.2 1 _ v1 rfl rfl
 cases h0 with|int=>cases h1 with|int=>
 refine(Gj x y hx hy w).mono ?_
 rintro e w' ⟨rfl,rfl⟩
 exact⟨_,M,rfl,Below.refl _ _,Mem.Le.refl _,dz,fun _ _=>rfl,[_,_],rfl,.cons (.int _ _) (.cons (.int _ _) (.nil _))⟩
theorem IZ(x y:Nat)(hx:x<18446744073709551616)(hy:0<y)(hy2:y<18446744073709551616):ai Tryz.prog 278 [U 0,U x,U y] [U (x/y),U (x%y)]:=by
 refine Ew aG mixed (eY _) (fL _) Tryz.func278 rfl (by kernel_rfl) rfl ?_
 have h0:¬(y:Int)=0:=by omega
 refine⟨fun h=>absurd (eq_of_beq h) h0,fun _=>⟨fun h=>absurd (adz h) (by show¬(y:Int)<=0;omega),fun _=>⟨fun _=>?_,fun h=>by cases h⟩⟩⟩
 refine⟨fun _=>h0,fun _=>h0,by kernel_rfl,aM ?_,aM ?_,tv⟩
 ·rw[<-Int.ofNat_tdiv]
  exact cL _ (Nat.lt_of_le_of_lt (Nat.div_le_self x y) hx)
 ·exact(Int.ofNat_tmod x y).symm
end
section
theorem Rf{b q r x z u:Nat}(hi:q*x+r=u):q*(x*b+z)+b*r=u*b+q*z:=by
 subst hi
 rw[Nat.mul_add,Nat.add_mul,Nat.mul_assoc,Nat.mul_comm b r];omega
theorem KP{b q r x z u d:Nat}(hi:q*x+r=u)(h:q*z<=b*r+d):q*(x*b+z)<=u*b+d:=by
 have:=Rf (b:=b) (z:=z) hi
 omega
theorem abf{b q r x z u d:Nat}(hi:q*x+r=u)(h:b*r+d<q*z):u*b+d<q*(x*b+z):=by
 have:=Rf (b:=b) (z:=z) hi
 omega
theorem Yq{b q u d y:Nat}(hu:u<y)(hd:d<b)(hq:b<=q):u*b+d<q*y:=by
 have h1:(u+1)*b<=y*b:=adN b hu
 have h2:y*b<=y*q:=Nat.mul_le_mul_left y hq
 rw[Nat.add_mul,Nat.one_mul]at h1
 rw[Nat.mul_comm q y]
 omega
theorem Yr{b q r x z u d:Nat}(hi:q*x+r=u)(hr:b<=r)(hu:u<x*b+z)(hz:z<b):q*z<=b*r+d:=by
 have h1:q*x<b*x:=by rw[Nat.mul_comm b x];omega
 have h2:q<b:=Nat.lt_of_mul_lt_mul_right h1
 have h3:q*z<=b*z:=adN z (by omega)
 have h4:b*z<=b*r:=Nat.mul_le_mul_left b (by omega)
 omega
theorem Rg{b q x z u d:Nat}(h:q*(x*b+z)<=u*b+d)(h2:(u*b+d)/(x*b+z)<=q)(hy:0<x*b+z):q=(u*b+d)/(x*b+z):=
 Nat.le_antisymm ((Nat.le_div_iff_mul_le hy).2 h) h2
theorem Rh{q U y:Nat}(hy:0<y)(h:U<q*y):U/y<=q-1:=by
 have:U/y<q:=(Nat.div_lt_iff_lt_mul hy).2 h
 omega
theorem Ri{b x z u d:Nat}(hx:0<x)(hd:d<b):(u*b+d)/(x*b+z)<=u/x:=by
 have hb:0<b:=by omega
 have h1:u<(u/x+1)*x:=by
  have:=Nat.div_add_mod u x
  have:=Nat.mod_lt u hx
  rw[Nat.add_mul,Nat.one_mul,Nat.mul_comm (u/x) x];omega
 have h2:(u*b+d)<(u/x+1)*(x*b+z):=by
  have h3:(u+1)*b<=((u/x+1)*x)*b:=adN b h1
  rw[Nat.mul_add,<-Nat.mul_assoc]
  rw[Nat.add_mul,Nat.one_mul]at h3
  omega
 have h4:0<x*b+z:=by have:=Nat.mul_pos hx hb;omega
 have:=(Nat.div_lt_iff_lt_mul h4).2 h2
 omega
theorem Ys{b y w u:Nat}(hy:0<y):(w*b+u)/y=w/y*b+(w%y*b+u)/y/\(w*b+u)%y=(w%y*b+u)%y:=by
 have h:w*b+u=(w%y*b+u)+y*(w/y*b):=by
  have h1:=Nat.div_add_mod w y
  have h2:w*b=(y*(w/y))*b+w%y*b:=by rw[<-Nat.add_mul,h1]
  rw[h2,Nat.mul_assoc];omega
 rw[h,Nat.add_mul_div_left _ _ hy,Nat.add_mul_mod_self_left]
 exact⟨by omega,rfl⟩
theorem Rj{U y k:Nat}(hk:0<k):U*k/(y*k)=U/y/\U*k%(y*k)/k=U%y:=by
 rw[Nat.mul_div_mul_right _ _ hk,Nat.mul_mod_mul_right]
 exact⟨rfl,Nat.mul_div_cancel _ hk⟩
end
section
open Go.TM
theorem KQ(n:Int):0<=IntKind.u64.wrap n:=by rw[IntKind.wrap_u64];omega
theorem Wt{s:Nat}(h:s<=64):min (s:Int).toNat IntKind.u64.bits=s:=by
 rw[Int.toNat_natCast];exact Nat.min_eq_left h
theorem abg(s:Nat):(2:Int)^s=((2^s:Nat):Int):=by simp
theorem Rk(a s:Nat)(h:s<=64):IntKind.u64.wrap ((a:Int)*2^min (IntKind.u64.wrap (s:Int)).toNat IntKind.u64.bits)=((a*2^s%18446744073709551616:Nat):Int):=by
 rw[cL s (by omega),Wt h,abg,tK,Bz]
theorem Wu(a s:Nat)(h:s<=64):(a:Int)/2^min (s:Int).toNat IntKind.u64.bits=((a/2^s:Nat):Int):=by
 rw[Wt h,abg]
 exact(Int.natCast_ediv a (2^s)).symm
structure Kn(Y u d q r:Nat):Prop where
 a:q*(Y/4294967296)+r=u
 b:r<4294967296
 c:(u*4294967296+d)/Y<=q
theorem Dy(Y:Nat):Y/4294967296*4294967296+Y%4294967296=Y:=by rw[Nat.mul_comm];exact Nat.div_add_mod ..
theorem Kn.yes{Y u d q r:Nat}(h:Kn Y u d q r)(hu:u<Y)(hd:d<4294967296)(ht:4294967296<=q\/4294967296*r+d<q*(Y%4294967296)):1<=q/\(q-1)*(Y/4294967296)+(r+Y/4294967296)=u/\(u*4294967296+d)/Y<=q-1/\(4294967296<=r+Y/4294967296->q-1=(u*4294967296+d)/Y):=by
 have e:=Dy Y
 have h1:u*4294967296+d<q*Y:=by
  rcases ht with ht|ht
  ·exact Yq hu hd ht
  ·have:=abf h.a ht;rwa[e]at this
 have hq:1<=q:=by
  cases q with
  |zero=>rw[Nat.zero_mul]at h1;omega
  |succ q=>omega
 have ha:(q-1)*(Y/4294967296)+(r+Y/4294967296)=u:=by
  have:=h.a
  rw[Nat.sub_mul,Nat.one_mul]
  have:Y/4294967296<=q*(Y/4294967296):=Nat.le_mul_of_pos_left _ hq
  omega
 refine⟨hq,ha,Rh (by omega) h1,fun hb=>?_⟩
 have hk:=Yr (d:=d) ha hb (by rw[e];exact hu) (Nat.mod_lt _ (by omega))
 have:=Rg (KP ha hk) (by rw[e];exact Rh (by omega) h1) (by rw[e];omega)
 rwa[e]at this
theorem Kn.no{Y u d q r:Nat}(h:Kn Y u d q r)(hu:u<Y)(ht:¬(4294967296<=q\/4294967296*r+d<q*(Y%4294967296))):q=(u*4294967296+d)/Y:=by
 have e:=Dy Y
 have:=Rg (KP (b:=4294967296) (d:=d) (z:=Y%4294967296) h.a (by omega)) (by rw[e];exact h.c) (by rw[e];omega)
 rwa[e]at this
theorem Dz{Y d q r:Nat}(hr:r<4294967296)(hd:d<4294967296):(bif decide ((4294967296:Int)<=q)then true else decide (IntKind.u64.wrap (IntKind.u64.wrap (4294967296*(r:Int))+(d:Int))<IntKind.u64.wrap ((q:Int)*((Y%4294967296:Nat):Int))))=decide (4294967296<=q\/4294967296*r+d<q*(Y%4294967296)):=by
 by_cases h:4294967296<=q
 ·rw[adF (show(4294967296:Int)<=q by omega),adF (Or.inl h)];rfl
 ·have hm:q*(Y%4294967296)<18446744073709551616:=by
   have h1:Y%4294967296<=4294967295:=by omega
   have:=Nat.mul_le_mul (show q<=4294967295 by omega) h1
   omega
  rw[adG (show¬(4294967296:Int)<=q by omega),tK,cL _ hm,IntKind.wrap_u64,IntKind.wrap_u64]
  simp only[cond_false,decide_eq_decide]
  omega
theorem Kn.init{Y u d:Nat}(hY:9223372036854775808<=Y)(hd:d<4294967296)(h2:Y<18446744073709551616):Kn Y u d (u/(Y/4294967296)) (u%(Y/4294967296))where
 a:=by rw[Nat.mul_comm];exact Nat.div_add_mod ..
 b:=by have:=Nat.mod_lt u (show 0<Y/4294967296 by omega);omega
 c:=by
  have:=Ri (b:=4294967296) (x:=Y/4294967296) (z:=Y%4294967296) (u:=u) (by omega) hd
  rwa[Dy]at this
theorem Rl{Y u d:Nat}(h2:Y<18446744073709551616)(h0:0<Y):IntKind.u64.wrap (IntKind.u64.wrap (IntKind.u64.wrap ((u:Int)*4294967296)+(d:Int))-IntKind.u64.wrap ((((u*4294967296+d)/Y:Nat):Int)*(Y:Int)))=(((u*4294967296+d)%Y:Nat):Int):=by
 have h1:=Nat.div_add_mod (u*4294967296+d) Y
 have h3:=Nat.mod_lt (u*4294967296+d) h0
 rw[Nat.mul_comm]at h1
 rw[tK]
 simp only[IntKind.wrap_u64]
 omega
theorem Gk{hi lo y s:Nat}(hs:s<=63)(h:hi<y)(oJ:lo<18446744073709551616):lo/2^(64-s)<2^s/\hi*2^s+lo/2^(64-s)<y*2^s/\(hi*2^s+lo/2^(64-s))*18446744073709551616+lo*2^s%18446744073709551616=(hi*18446744073709551616+lo)*2^s:=by
 have hp:2^s*2^(64-s)=18446744073709551616:=by rw[<-Nat.pow_add,show s+(64-s)=64 by omega]
 have h1:lo/2^(64-s)<2^s:=(Nat.div_lt_iff_lt_mul (Nat.pos_of_ne_zero (by simp))).2 (by rw[hp];exact oJ)
 refine⟨h1,?_,?_⟩
 ·have:(hi+1)*2^s<=y*2^s:=adN _ h
  rw[Nat.add_mul,Nat.one_mul]at this;omega
 ·have h2:lo*2^s/18446744073709551616=lo/2^(64-s):=by
   rw[<-hp,Nat.mul_comm (2^s),Nat.mul_div_mul_right _ _ (Nat.pos_of_ne_zero (by simp))]
  have h3:=Nat.div_add_mod (lo*2^s) 18446744073709551616
  rw[h2]at h3
  rw[Nat.add_mul,Nat.add_mul,Nat.mul_right_comm hi]
  omega
theorem abh{hi lo s:Nat}(hs:4<=s/\s<=63)(h:hi*2^s<18446744073709551616)(oJ:lo<18446744073709551616):bits .or .u64 (IntKind.u64.wrap ((hi:Int)*2^min (IntKind.u64.wrap (s:Int)).toNat IntKind.u64.bits)) ((lo:Int)/2^min (IntKind.u64.wrap (64-IntKind.u64.wrap (s:Int))).toNat IntKind.u64.bits)=((hi*2^s+lo/2^(64-s):Nat):Int):=by
 have e:IntKind.u64.wrap (64-IntKind.u64.wrap (s:Int))=((64-s:Nat):Int):=by
  rw[cL s (by omega),IntKind.wrap_u64];omega
 have hl:=(Gk (hi:=0) (y:=1) hs.2 (by omega) oJ).1
 rw[Rk hi s (by omega),e,Wu lo (64-s) (by omega),Nat.mod_eq_of_lt h,bits_or_u64_nat _ _ h (by have:=Nat.div_le_self lo (2^(64-s));omega)]
 rw[Nat.mul_comm hi,<-Nat.two_pow_add_eq_or_of_lt hl]
theorem abi{A B C:Nat}(h:A*4294967296+B=C)(hC:C<18446744073709551616):IntKind.u64.wrap (IntKind.u64.wrap ((A:Int)*4294967296)+(B:Int))=(C:Int):=by
 rw[IntKind.wrap_u64,IntKind.wrap_u64];omega
theorem Yt{u d e Y y s hi lo:Nat}(hY:Y=y*2^s)(hw:u*18446744073709551616+(d*4294967296+e)=(hi*18446744073709551616+lo)*2^s)(h:hi<y)(oJ:lo<18446744073709551616)(h2:Y<18446744073709551616)(h0:0<Y):
 IntKind.u64.wrap (IntKind.u64.wrap ((((u*4294967296+d)/Y:Nat):Int)*4294967296)+((((u*4294967296+d)%Y*4294967296+e)/Y:Nat):Int))=(((hi*18446744073709551616+lo)/y:Nat):Int)/\((u*4294967296+d)%Y*4294967296+e)%Y/2^s=(hi*18446744073709551616+lo)%y:=by
 have hs:0<2^s:=Nat.pos_of_ne_zero (by simp)
 obtain⟨t1,t2⟩:=Ys (b:=4294967296) (y:=Y) (w:=u*4294967296+d) (u:=e) h0
 obtain⟨t3,t4⟩:=Rj (U:=hi*18446744073709551616+lo) (y:=y) (k:=2^s) hs
 have e1:(u*4294967296+d)*4294967296+e=(hi*18446744073709551616+lo)*2^s:=by
  rw[<-hw,Nat.add_mul,Nat.mul_assoc u]
  exact Nat.add_assoc _ _ _
 rw[e1,hY,t3]at t1
 rw[e1,hY]at t2
 rw[t2]at t4
 have aB:(hi*18446744073709551616+lo)/y<18446744073709551616:=(Nat.div_lt_iff_lt_mul (by omega)).2 (by
  have:(hi+1)*18446744073709551616<=y*18446744073709551616:=adN _ h
  rw[Nat.mul_comm 18446744073709551616 y];omega)
 rw[hY]
 refine⟨?_,t4⟩
 exact abi t1.symm aB
variable [aW]
theorem Gl(hi lo y s:Nat)(h0:0<hi)(h:hi<y)(oJ:lo<18446744073709551616)(hz:ai Tryz.prog 284 [U y] [I s])(hs:4<=s/\s<=63)(lH:9223372036854775808<=y*2^s/\y*2^s<18446744073709551616):ai Tryz.prog 278 [U hi,U lo,U y] [U ((hi*18446744073709551616+lo)/y),U ((hi*18446744073709551616+lo)%y)]:=by
 refine pO Tryz.func278 rfl (by kernel_rfl) rfl ?_
 have e1:¬(y:Int)=0:=by omega
 have e2:¬(hi:Int)=0:=by omega
 refine⟨fun h=>absurd (eq_of_beq h) e1,fun _=>⟨fun h=>absurd (adz h) (by show¬(y:Int)<=hi;omega),fun _=>⟨fun h=>absurd (eq_of_beq h) e2,fun _=>?_⟩⟩⟩
 refine .inl ⟨_,fun _=>hz.ok,?_⟩
 have a1:=Rk y s (by omega)
 rw[Nat.mod_eq_of_lt lH.2]at a1
 have a2:=Rk lo s (by omega)
 obtain⟨Nv,VK,hw3⟩:=Gk hs.2 h oJ
 have a3:=abh (hi:=hi) hs (by have:=adN (2^s) (Nat.le_of_lt h);omega) oJ
 obtain⟨Y,hY⟩:∃Y,Y=y*2^s:=⟨_,rfl⟩
 obtain⟨L,hL⟩:∃L,L=lo*2^s%18446744073709551616:=⟨_,rfl⟩
 rw[<-hY]at a1 lH VK
 rw[<-hL]at a2 hw3
 generalize hi*2^s+lo/2^(64-s)=u at*
 have hLb:L<18446744073709551616:=by omega
 have a4:(Y:Int)/2^min (Int.toNat 32) IntKind.u64.bits=((Y/4294967296:Nat):Int):=Dw Y
 have a5:=pV Y lH.2
 have a6:(L:Int)/2^min (Int.toNat 32) IntKind.u64.bits=((L/4294967296:Nat):Int):=Dw L
 have a7:=pV L hLb
 have hd:L/4294967296<4294967296:=by omega
 have hde:L/4294967296*4294967296+L%4294967296=L:=Dy L
 generalize L/4294967296=d at*
 have he:L%4294967296<4294967296:=by omega
 generalize L%4294967296=e at*
 have hX:2147483648<=Y/4294967296/\Y/4294967296<4294967296:=by omega
 have dv:∀n:Nat,n<18446744073709551616->IntKind.u64.wrap ((n:Int).tdiv ((Y/4294967296:Nat):Int))=((n/(Y/4294967296):Nat):Int):=fun n hn=>by
  rw[<-Int.ofNat_tdiv];exact cL _ (Nat.lt_of_le_of_lt (Nat.div_le_self _ _) hn)
 have rm:∀n:Nat,n<18446744073709551616->IntKind.u64.wrap ((n:Int)-IntKind.u64.wrap (((n/(Y/4294967296):Nat):Int)*((Y/4294967296:Nat):Int)))=((n%(Y/4294967296):Nat):Int):=fun n hn=>by
  have h1:=Nat.div_add_mod n (Y/4294967296)
  rw[Nat.mul_comm]at h1
  rw[tK,cL _ (by omega),IntKind.wrap_u64]
  omega
 have a8:=cL s (by omega)
 obtain⟨v,hv⟩:∃v,v=(u*4294967296+d)%Y:=⟨_,rfl⟩
 have Rm:=Rl (u:=u) (d:=d) lH.2 (by omega)
 rw[<-hv]at Rm
 have hf:=Yt (u:=u) (d:=d) (e:=e) hY (by rw[hde];exact hw3) h oJ lH.2 (by omega)
 have Rn:=Rl (u:=v) (d:=e) lH.2 (by omega)
 rw[<-hv]at hf
 have Lf:=hf.1
 have hf3:=(Wu ((v*4294967296+e)%Y) s (by omega)).trans (congrArg (fun n:Nat=>(n:Int)) hf.2)
 have eB:v<Y:=by rw[hv];exact Nat.mod_lt _ (by omega)
 have Ul:((Y/4294967296:Nat):Int)≠0:=by omega
 have hrb:∀r,r<4294967296->r+Y/4294967296<18446744073709551616:=by omega
 have Wv:∀n q r,n<Y->q*(Y/4294967296)+r=n->q<18446744073709551616:=fun n q r h1 h2=>by
  have:=Nat.le_mul_of_pos_right q (show 0<Y/4294967296 by omega)
  omega
 have hw:∀q:Nat,1<=q->q<18446744073709551616->IntKind.u64.wrap ((q:Int)-1)=((q-1:Nat):Int):=fun q h1 h2=>by rw[IntKind.wrap_u64];omega
 have Yu:∀n:Nat,(4294967296:Int)<=n->4294967296<=n:=fun n h=>by omega
 have Yv:∀n:Nat,¬(4294967296:Int)<=n->n<4294967296:=fun n h=>by omega
 have Yw:∀q,1<=q->q-1<q:=fun q h=>by omega
 refine⟨fun _=>KQ _,fun _=>by omega,fun _=>KQ _,fun _=>KQ _,fun _=>KQ _,fun _=>by omega,fun _ hh=>?_,?_⟩
 ·rw[a1,a4]at hh;exact Ul hh
 refine⟨Nat×Nat,fun x=>⟨0,[(2,.dv (U Y)),(8,.dv (U s)),(9,.dv (U (Y/4294967296))),(10,.dv (U (Y%4294967296))),(11,.dv (U u)),(13,.dv (U d)),(14,.dv (U e)),(15,.dv (U x.1)),(16,.dv (U x.2))],[]⟩,fun x=>Kn Y u d x.1 x.2,fun x=>x.1,(u/(Y/4294967296),u%(Y/4294967296)),fun _=>rfl,⟨⟨aM a1,aM a8,aM (by rw[a1];exact a4),aM (by rw[a1];exact a5),aM a3,aM (by rw[a2];exact a6),aM (by rw[a2];exact a7),aM ?_,aM ?_,tv⟩,tv,rfl,rfl⟩,Kn.init lH.1 hd lH.2,?_⟩
 ·rw[a3,a1,a4];exact dv u (by omega)
 ·rw[a3,a1,a4,dv u (by omega)];exact rm u (by omega)
 rintro⟨q,r⟩ hk
 have hk:Kn Y u d q r:=hk
 repeat refine gG ?_
 have ht:=Dz (Y:=Y) (q:=q) hk.b hd
 have Tg:=hrb r hk.b
 refine adh (fun hc=>?_) fun hc=>?_
 ·obtain⟨q1,q2,q3,q4⟩:=hk.yes VK hd (adz (ht.symm.trans hc))
  have w1:IntKind.u64.wrap ((q:Int)-1)=((q-1:Nat):Int):=hw q q1 (Wv u q r VK hk.a)
  have w2:IntKind.u64.wrap ((r:Int)+((Y/4294967296:Nat):Int))=((r+Y/4294967296:Nat):Int):=by rw[xa,cL _ Tg]
  refine adh (fun hb=>?_) fun hb=>?_
  rotate_left
  ·have hb:¬(4294967296:Int)<=IntKind.u64.wrap ((r:Int)+((Y/4294967296:Nat):Int)):=adA hb
   rw[w2]at hb
   exact⟨(q-1,r+Y/4294967296),⟨⟨rf,rf,rf,rf,rf,rf,rf,aM w1,aM w2,tv⟩,tv,rfl,rfl⟩,⟨q2,Yv _ hb,q3⟩,Yw q q1⟩
  have hb:(4294967296:Int)<=IntKind.u64.wrap ((r:Int)+((Y/4294967296:Nat):Int)):=adz hb
  rw[w2]at hb
  have hQ:=w1.trans (congrArg (fun n:Nat=>(n:Int)) (q4 (Yu _ hb)))
  clear w1 w2 q1 q2 q3 q4 hb Tg ht hc hk
  refine adh (fun _=>Ul) ?_
  refine⟨Nat×Nat,fun x=>⟨0,[(2,.dv (U Y)),(8,.dv (U s)),(9,.dv (U (Y/4294967296))),(10,.dv (U (Y%4294967296))),(14,.dv (U e)),(15,.dv (U ((u*4294967296+d)/Y))),(16,.dv (U x.2)),(17,.dv (U v)),(18,.dv (U x.1))],[]⟩,fun x=>Kn Y v e x.1 x.2,fun x=>x.1,(v/(Y/4294967296),v%(Y/4294967296)),fun _=>rfl,?_,Kn.init lH.1 he lH.2,?_⟩
  ·refine⟨?_,tv,rfl,rfl⟩
   have vb:v<18446744073709551616:=Nat.lt_trans eB lH.2
   refine⟨rf,rf,rf,rf,rf,aM hQ,aM ?_,aM ?_,aM ?_,tv⟩
   ·simp only[hQ,Rm,dv v vb];exact rm v vb
   ·simp only[hQ,Rm]
   ·simp only[hQ,Rm];exact dv v vb
  clear hQ hk
  rintro⟨q,r⟩ hk
  have hk:Kn Y v e q r:=hk
  repeat refine gG ?_
  have ht:=Dz (Y:=Y) (q:=q) hk.b he
  have Tg:=hrb r hk.b
  refine adh (fun hc=>?_) fun hc=>?_
  ·obtain⟨q1,q2,q3,q4⟩:=hk.yes eB he (adz (ht.symm.trans hc))
   have w1:IntKind.u64.wrap ((q:Int)-1)=((q-1:Nat):Int):=hw q q1 (Wv v q r eB hk.a)
   have w2:IntKind.u64.wrap ((r:Int)+((Y/4294967296:Nat):Int))=((r+Y/4294967296:Nat):Int):=by rw[xa,cL _ Tg]
   refine adh (fun hb=>?_) fun hb=>?_
   ·have hb:(4294967296:Int)<=IntKind.u64.wrap ((r:Int)+((Y/4294967296:Nat):Int)):=adz hb
    rw[w2]at hb
    have Ro:=w1.trans (congrArg (fun n:Nat=>(n:Int)) (q4 (Yu _ hb)))
    exact⟨fun _=>Int.natCast_nonneg _,aM (by simp only[Ro];exact Lf),aM (by simp only[Ro,Rn];exact hf3),tv⟩
   ·have hb:¬(4294967296:Int)<=IntKind.u64.wrap ((r:Int)+((Y/4294967296:Nat):Int)):=adA hb
    rw[w2]at hb
    exact⟨(q-1,r+Y/4294967296),⟨⟨rf,rf,rf,rf,rf,rf,aM w2,rf,aM w1,tv⟩,tv,rfl,rfl⟩,⟨q2,Yv _ hb,q3⟩,Yw q q1⟩
  ·have Ro:=congrArg (fun n:Nat=>(n:Int)) (hk.no eB (adA (ht.symm.trans hc)))
   exact⟨fun _=>Int.natCast_nonneg _,aM (by simp only[Ro];exact Lf),aM (by simp only[Ro,Rn];exact hf3),tv⟩
 ·have hQ:=congrArg (fun n:Nat=>(n:Int)) (hk.no VK (adA (ht.symm.trans hc)))
  clear Tg ht hc
  refine adh (fun _=>Ul) ?_
  refine⟨Nat×Nat,fun x=>⟨0,[(2,.dv (U Y)),(8,.dv (U s)),(9,.dv (U (Y/4294967296))),(10,.dv (U (Y%4294967296))),(14,.dv (U e)),(15,.dv (U ((u*4294967296+d)/Y))),(16,.dv (U x.2)),(17,.dv (U v)),(18,.dv (U x.1))],[]⟩,fun x=>Kn Y v e x.1 x.2,fun x=>x.1,(v/(Y/4294967296),v%(Y/4294967296)),fun _=>rfl,?_,Kn.init lH.1 he lH.2,?_⟩
  ·refine⟨?_,tv,rfl,rfl⟩
   have vb:v<18446744073709551616:=Nat.lt_trans eB lH.2
   refine⟨rf,rf,rf,rf,rf,aM hQ,aM ?_,aM ?_,aM ?_,tv⟩
   ·simp only[hQ,Rm,dv v vb];exact rm v vb
   ·simp only[hQ,Rm]
   ·simp only[hQ,Rm];exact dv v vb
  clear hQ hk
  rintro⟨q,r⟩ hk
  have hk:Kn Y v e q r:=hk
  repeat refine gG ?_
  have ht:=Dz (Y:=Y) (q:=q) hk.b he
  have Tg:=hrb r hk.b
  refine adh (fun hc=>?_) fun hc=>?_
  ·obtain⟨q1,q2,q3,q4⟩:=hk.yes eB he (adz (ht.symm.trans hc))
   have w1:IntKind.u64.wrap ((q:Int)-1)=((q-1:Nat):Int):=hw q q1 (Wv v q r eB hk.a)
   have w2:IntKind.u64.wrap ((r:Int)+((Y/4294967296:Nat):Int))=((r+Y/4294967296:Nat):Int):=by rw[xa,cL _ Tg]
   refine adh (fun hb=>?_) fun hb=>?_
   ·have hb:(4294967296:Int)<=IntKind.u64.wrap ((r:Int)+((Y/4294967296:Nat):Int)):=adz hb
    rw[w2]at hb
    have Ro:=w1.trans (congrArg (fun n:Nat=>(n:Int)) (q4 (Yu _ hb)))
    exact⟨fun _=>Int.natCast_nonneg _,aM (by simp only[Ro];exact Lf),aM (by simp only[Ro,Rn];exact hf3),tv⟩
   ·have hb:¬(4294967296:Int)<=IntKind.u64.wrap ((r:Int)+((Y/4294967296:Nat):Int)):=adA hb
    rw[w2]at hb
    exact⟨(q-1,r+Y/4294967296),⟨⟨rf,rf,rf,rf,rf,rf,aM w2,rf,aM w1,tv⟩,tv,rfl,rfl⟩,⟨q2,Yv _ hb,q3⟩,Yw q q1⟩
  ·have Ro:=congrArg (fun n:Nat=>(n:Int)) (hk.no eB (adA (ht.symm.trans hc)))
   exact⟨fun _=>Int.natCast_nonneg _,aM (by simp only[Ro];exact Lf),aM (by simp only[Ro,Rn];exact hf3),tv⟩
end
section
open Go.TM
variable [aW]
theorem mo(n:Int):ai Tryz.prog 263 [I n] [B (decide (0<=n)&&decide (n<=1099511627776))]:=by
 refine pO Tryz.func263 rfl (by kernel_rfl) rfl ?_
 repeat refine gG ?_
 refine⟨DV.Le.of_eq ?_,tv⟩
 cases decide (0<=n)<;>rfl
theorem tL(n:Int):ai Tryz.prog 276 [I n] [B (decide (0<=n)&&decide (n<=1152921504606846976))]:=by
 refine pO Tryz.func276 rfl (by kernel_rfl) rfl ?_
 repeat refine gG ?_
 refine⟨DV.Le.of_eq ?_,tv⟩
 cases decide (0<=n)<;>rfl
end
section
open Go.TM Go.Proofs Go.RowKit
variable [aW]
theorem I0(x:Nat)(hx:x<18446744073709551616):ai Tryz.prog 140 [U x] [I (Lib.bitLen x:Nat)]:=by
 refine⟨⟨_,Tryz.func140,by kernel_rfl,rfl⟩,fun w M vs dz nr hr=>?_⟩
 obtain⟨v0,rfl⟩:∃v0,vs=[v0]:=by
  match vs,hr.1 with
  |[a],_=>exact⟨a,rfl⟩
 have h0:=hr.2 0 _ v0 rfl rfl
 cases h0 with|int=>
 have hc:=Any.bits_Len64 (P:=Tryz.prog) (ρ:=rW.viaSlsf) { SlLaysF0.n15.bits (P:=Tryz.prog) (ρ:=rW) { PZ with }with } (x:Int) w (by omega) (by omega)
 rw[Int.toNat_natCast]at hc
 refine Calls.mono hc ?_
 rintro e w' ⟨rfl,rfl⟩
 exact⟨_,M,rfl,Below.refl _ _,Mem.Le.refl _,dz,fun _ _=>rfl,.int _ _⟩
theorem MP(x:Nat)(hx:x<18446744073709551616):ai Tryz.prog 284 [U x] [I ((64-Lib.bitLen x:Nat):Int)]:=by
 have h:=Lib.bitLen_le x 64 (by omega) hx
 refine pO Tryz.func284 rfl (by kernel_rfl) rfl ?_
 refine .inl ⟨_,fun _=>(I0 x hx).ok,?_⟩
 exact⟨fun _=>by omega,aM (by omega),tv⟩
theorem abj{d:Nat}(h0:0<d)(hd:d<1152921504606846976):(4<=64-Lib.bitLen d/\64-Lib.bitLen d<=63)/\9223372036854775808<=d*2^(64-Lib.bitLen d)/\d*2^(64-Lib.bitLen d)<18446744073709551616:=by
 have h1:=Lib.bitLenAux_bounds 64 d (Nat.lt_trans hd (by decide)) (by omega)
 have h2:=Lib.bitLen_le d 60 (by omega) hd
 have e:Lib.bitLen d=Lib.bitLenAux 64 d:=rfl
 rw[<-e]at h1
 generalize Lib.bitLen d=L at*
 refine⟨by omega,?_,?_⟩
 ·have:=adN (2^(64-L)) h1.2.1
  rw[<-Nat.pow_add,show L-1+(64-L)=63 by omega]at this
  exact this
 ·have:=Nat.mul_lt_mul_of_pos_right h1.2.2 (show 0<2^(64-L)from Nat.pos_of_ne_zero (by simp))
  rw[<-Nat.pow_add,show L+(64-L)=64 by omega]at this
  exact this
theorem Gm(hi lo d:Nat)(h:hi<d)(hd:d<1152921504606846976)(oJ:lo<18446744073709551616):ai Tryz.prog 278 [U hi,U lo,U d] [U ((hi*18446744073709551616+lo)/d),U ((hi*18446744073709551616+lo)%d)]:=by
 by_cases h0:0<hi
 ·have hb:=abj (d:=d) (by omega) hd
  exact Gl hi lo d _ h0 h oJ (MP d (by omega)) hb.1 hb.2
 ·have:hi=0:=by omega
  subst this
  rw[Nat.zero_mul,Nat.zero_add]
  exact IZ lo d oJ h (by omega)
theorem DA(t n d:Nat)(ht:t<=1099511627776)(hn:n<=d)(h0:0<d)(hd:d<1152921504606846976):ai Tryz.prog 264 [I t,I n,I d] [U (t*n/d),U (t*n%d),I 0]:=by
 refine pO Tryz.func264 rfl (by kernel_rfl) rfl ?_
 refine .inl ⟨_,fun _=>(mo t).ok,?_⟩
 repeat refine gG ?_
 refine .inl ⟨_,fun _=>(tL n).ok,?_⟩
 repeat refine gG ?_
 refine .inl ⟨_,fun _=>(tL d).ok,?_⟩
 repeat refine gG ?_
 refine adh (fun h=>?_) fun _=>?_
 ·simp[bw]at h;omega
 have w1:=cL t (by omega)
 have w2:=cL n (by omega)
 have w3:=cL d (by omega)
 have aB:t*n<d*18446744073709551616:=by
  have h1:t*n<=1099511627776*d:=Nat.mul_le_mul ht hn
  omega
 have hq:t*n/d<=1099511627776:=Nat.div_le_of_le_mul (by rw[Nat.mul_comm d];exact Nat.mul_le_mul ht hn)
 have hm:=IY t n (by omega) (by omega)
 have He:=Gm (t*n/18446744073709551616) (t*n%18446744073709551616) d ((Nat.div_lt_iff_lt_mul (by omega)).2 aB) hd (Nat.mod_lt _ (by omega))
 rw[show t*n/18446744073709551616*18446744073709551616+t*n%18446744073709551616=t*n by omega]at He
 have Qb:t*n/18446744073709551616<d:=(Nat.div_lt_iff_lt_mul (by omega)).2 aB
 generalize t*n/18446744073709551616=hi at*
 generalize t*n%18446744073709551616=lo at*
 unfold U at hm He
 rw[<-w1,<-w2]at hm
 rw[<-w3]at He
 refine .inl ⟨_,fun _=>hm.ok,?_⟩
 refine adh (fun h=>?_) fun _=>?_
 ·have h:IntKind.u64.wrap (d:Int)<=hi:=adz h
  rw[w3]at h;omega
 refine .inl ⟨_,fun _=>He.ok,?_⟩
 refine adh (fun h=>?_) fun _=>?_
 ·have h:(1099511627776:Int)<((t*n/d:Nat):Int):=adz h
  omega
 exact⟨rf,rf,rf,tv⟩
end
section
open Go.Proofs Go.Sort Go.RowKit
def Rp(a b x y:Int):Int:=if qP b a=0 then qP x y else qP b a
theorem abk(x y N cap:Nat)(a b:Int)(c5 rb ro:Nat)(W:World)(hx:x<N)(hy:y<N)(h0:W.cell? ⟨c5,0,none⟩=some (.slice (some ⟨rb,ro,none⟩) N cap))(h1:W.cell? ⟨rb,ro+x,none⟩=some (.int .u64 a))(h2:W.cell? ⟨rb,ro+y,none⟩=some (.int .u64 b)):
 Calls Tryz.prog 266 #[.int .i64 x,.int .i64 y,.pointer (some ⟨c5,0,none⟩)] W fun e w'=>e=.returned (.int .i64 (Rp a b x y))/\∃q FA,w'=grow (W.drewN q) FA:=by
 obtain⟨r,hr⟩:∃r,r=Rp a b x y:=⟨_,rfl⟩
 rw[<-hr]
 have mixed:Tryz.prog.follows .mixedOrders=true:=mixed
 have D5:=fun W'=>Ik b a W'
 have AO:=fun W'=>rX x y W'
 have hx1:(x:Int)<N:=by omega
 have hy1:(y:Int)<N:=by omega
 have Td:¬(x:Int)<0:=by omega
 have hy0:¬(y:Int)<0:=by omega
 go_enter Tryz.func266,Tryz.ntmps266
 go_wp2
 have f0:W.drew.cell? ⟨c5,0,none⟩=some (.slice (some ⟨rb,ro,none⟩) N cap):=h0
 have f1:W.drew.cell? ⟨rb,ro+x,none⟩=some (.int .u64 a):=h1
 have f2:W.drew.cell? ⟨rb,ro+y,none⟩=some (.int .u64 b):=h2
 have hg:∃q FA,W.drew=grow (W.drewN q) FA:=⟨1,#[],by rw[grow_empty];rfl⟩
 refine wp_region_still_tail 12 mixed (by kernel_rfl) ?_
 simp only[List.take_succ_cons,List.take_zero,List.drop_succ_cons,List.drop_zero]
 change wpStill _ _ (World.drew W) _ _ _
 generalize hW3:World.drew W=W3 at*
 repeat still_step
 still_call (D5 _)
 repeat still_step
 still_call (AO _)
 refine wpStill_nil ?_
 clear f0 f1 f2 h0 h1 h2 D5 AO
 unfold Rp at hr
 generalize qP b a=r1 at*
 generalize qP x y=r2 at*
 have HG:Hid (∃q FA,W3=grow (W.drewN q) FA):=hg
 have HR:Hid (r=if r1=0 then r2 else r1):=hr
 clear hg hr mixed
 refine wpList_step (fun K hK=>?_)
 go_simp
 refine hK _ _ ?_
 clear hK K
 have hc:∀j,(W3.alloc (Obj.cells #[Value.int .i64 r1,Value.int .i64 r2] 3)).cell? ⟨W3.heap.size,j,none⟩=(#[Value.int .i64 r1,Value.int .i64 r2]:Array Value)[j]?:=fun j=>Wf W3 _ _ j
 have hgw:Hid (∃q FA,W3.alloc (Obj.cells #[Value.int .i64 r1,Value.int .i64 r2] 3)=grow (W.drewN q) FA):=by
  obtain⟨q,os,h⟩:=HG.out
  exact⟨q,_,by rw[h,alloc_eq_grow,grow_grow]⟩
 generalize W3.alloc (Obj.cells #[Value.int .i64 r1,Value.int .i64 r2] 3)=W4 at*
 generalize W3.heap.size=sz at*
 have c0:=hc 0
 have c1:=hc 1
 clear hc HG hW3
 refine wpList_step (fun K hK=>?_)
 go_simp
 refine(Bl r1 r2 sz W4 c0 c1).mono ?_
 rintro e w' ⟨rfl,rfl⟩
 refine hK _ _ ?_
 clear hK K
 refine wpList_step (fun K hK=>?_)
 go_simp
 refine hK _ _ ?_
 clear hK K c0 c1
 rw[show(if r1=0 then r2 else r1)=r from HR.out.symm]
 clear HR
 go_wp2
 go_ret
 exact⟨rfl,hgw.out⟩
end
section
open Go.TM Go.Proofs Go.Sort Go.Shelf
def cfR(rs:List Nat)(x y:Fin rs.length):Int:=Rp (rs.getD x 0:Nat) (rs.getD y 0:Nat) (x:Nat) (y:Nat)
theorem DB(rs:List Nat)(x y:Fin rs.length):ltOf (cfR rs) x y=decide (rs.getD y.val 0<rs.getD x.val 0\/rs.getD x.val 0=rs.getD y.val 0/\x.val<y.val):=by
 unfold ltOf cfR Rp qP
 generalize rs.getD x.val 0=a
 generalize rs.getD y.val 0=b
 by_cases h1:(b:Int)<a
 ·simp[h1];omega
 ·by_cases h2:(a:Int)<b
  ·simp[h1,h2];omega
  ·have:a=b:=by omega
   subst this
   simp
   split<;>rename_i h3
   ·simp;omega
   ·split<;>simp<;>omega
theorem abl(rs:List Nat):SWO (ltOf (cfR rs))where
 irrefl x:=by rw[DB];simp
 trans x y z h1 h2:=by rw[DB]at *; simp at *; omega
 ntrans x y z h1 h2:=by rw[DB]at *; simp at *; omega
def idx(n:Nat):List DV:=(List.range n).map fun i:Nat=>I i
def U6(l:List DV)(rs:List Nat):ae:=[(0,.tree 0 0 (.aI 1 l)),(1,.cells [.own 2 0 0 []]),(2,.tree 0 0 (.aI 1 (rs.map U)))]
variable [aW]
theorem Gn(rs:List Nat)(dw:rs≠[])(hl:rs.length<=1000000):bX Tryz.prog 265 [.own 0 0 0 [],.fn 266 [.ptr 1 0]] 3 (U6 (idx rs.length) rs) 0 fun r K'=>r=[]/\∃o:List Nat,Ord (rs.map fun n:Nat=>(n:Int)) o/\K'=U6 (o.map fun i:Nat=>I i) rs:=by
 have hlen:0<rs.length:=List.length_pos_iff.2 dw
 haveI:Inhabited (Fin rs.length):=⟨⟨0,hlen⟩⟩
 have acq:idx rs.length=(List.finRange rs.length).map fun x=>I (x.val:Nat):=by
  unfold idx
  refine List.ext_getElem (by simp) fun i h1 h2=>by simp
 have h1:=vG (P:=Tryz.prog) (f:=265) ⟨_,Tryz.func265,by kernel_rfl,rfl⟩ (α:=Fin rs.length) (vals:=fun x=>[(x.val:Int)]) (e:=fun x=>I (x.val:Nat)) (k:=1) (fun _=>rfl) (fun _=>rfl) (rest:=[.fn 266 [.ptr 1 0]]) (m:=3) (K3:=[(1,.cells [.own 2 0 0 []]),(2,.tree 0 0 (.aI 1 (rs.map U)))]) (l:=List.finRange rs.length)
  (by intro h;have:=congrArg List.length h;rw[List.length_finRange,List.length_nil]at this;omega) (by omega) (fun i hi=>(by match i,hi with|i+3,_=>rfl))
  (fun l':List (Fin rs.length)=>l'.Perm (List.finRange rs.length)/\l'.Pairwise fun x y=>ltOf (cfR rs) y x=false) (fun l' h=>h.1.length_eq) ?_
 ·refine nR (by rw[acq];exact h1) fun r k hk=>?_
  obtain⟨hr,l',⟨hp,hs⟩,rfl⟩:=hk
  refine⟨hr,l'.map Fin.val,⟨?_,?_⟩,by rw[List.map_map];rfl⟩
  ·rw[adi]
   have:=hp.map Fin.val
   rwa[show(List.finRange rs.length).map Fin.val=List.range rs.length from List.ext_getElem (by simp) fun i h1 h2=>by simp]at this
  ·have ec:l'.Nodup:=hp.nodup_iff.2 (List.nodup_finRange _)
   rw[List.pairwise_map]
   refine(hs.and ec).imp fun {x y} h=>?_
   obtain⟨h2,h3⟩:=h
   rw[DB]at h2
   have hx:(rs.map fun n:Nat=>(n:Int)).getD x.val 0=(rs.getD x.val 0:Nat):=by simp[adn]
   have hy:(rs.map fun n:Nat=>(n:Int)).getD y.val 0=(rs.getD y.val 0:Nat):=by simp[adn]
   unfold fE
   rw[hx,hy]
   have h4:x.val≠y.val:=fun e=>h3 (Fin.ext e)
   simp at h2⊢
   omega
 ·rintro w G c5 off cap xs di nr hr jB ⟨c,t,hblk,cV⟩
  obtain⟨fv,rfl⟩:∃fv,xs=[fv]:=by
   match xs,hr.1 with
   |[a],_=>exact⟨a,rfl⟩
  have hfv:=hr.2 0 _ fv rfl rfl
  cases hfv with|fn _ _ vs ZY hvr=>
  obtain⟨pv,rfl⟩:∃pv,vs=[pv]:=by
   match vs,ZY with
   |[a],_=>exact⟨a,rfl⟩
  have Zk:=hvr 0 _ pv rfl rfl
  cases Zk with|ptr _ _ b hb=>
  obtain⟨b',c1,t1,fD,Nv,ku,_,Rm⟩:=di.box 1
  rw[hb]at fD;injection fD with fD;subst fD
  obtain⟨sv,hsv⟩:∃sv,c1[0]?=some sv:=⟨_,adS (by rw[ku];exact Nat.zero_lt_one)⟩
  have MQ:=Rm 0 _ sv rfl hsv
  cases MQ with|own _ _ _ _ _ hu PE=>
  obtain⟨u0,Kq,_,bo⟩:=di.node (p:=[]) (show aa _ 2=.tree 0 0 (.aI 1 (rs.map U))from rfl) rfl rfl
  rw[hu]at Kq;injection Kq with Kq;subst Kq
  rcases gX.1 bo with⟨h2,_⟩|⟨rb,ro,abm,rc,rt,rfl,hrc,Ww,ac7,hrel⟩
  ·rw[List.map_eq_nil_iff]at h2;exact absurd h2 dw
  have SR:(rs.map U).length=rs.length:=adi ..
  rw[SR]at hsv hu
  have eP:w.cell? ⟨b,0,none⟩=some (.slice (some ⟨rb,ro,none⟩) rs.length abm):=by
   unfold World.cell?;rw[Nv];exact hsv
  have abn:∀x,x<rs.length->w.cell? ⟨rb,ro+x,none⟩=some (.int .u64 (rs.getD x 0:Nat)):=fun x hx=>by
   have h3:=(hrel x (U (rs.getD x 0)) (by rw[adk,abK hx,adn,abK hx];rfl)).2 0 _ rfl
   obtain⟨_,u,h4,h5⟩:=h3
   rw[Nat.mul_one,Nat.add_zero]at h4
   rcases h5 with⟨h6,_⟩|⟨_,h6⟩
   ·cases h6
   ·cases h6
    unfold World.cell?;rw[Ww];exact h4
  have ji:b≠c5:=fun e=>by
   have:=di.inj 0 1 c5 jB (by subst e;exact hb)
   cases this
  have ct:rb≠c5:=fun e=>by
   have:=di.inj 0 2 c5 jB ⟨[],_,_,rfl,rfl,hu,by subst e;rfl⟩
   cases this
  have G8:c5<w.heap.size:=(adw.1 hblk).1
  have Zd:b<w.heap.size:=(adw.1 Nv).1
  have zI:rb<w.heap.size:=(adw.1 Ww).1
  have fin:∀(j:Nat),j<rs.length->((List.finRange rs.length).toArray)[j]!.val=j:=fun j hj=>by
   rw[getElem!_pos _ j (by simpa using hj)];simp
  have hH:Holds (fun x:Fin rs.length=>Value.int .i64 (x.val:Nat)) w c5 off (List.finRange rs.length).toArray:=fun j hj=>by
   have uR:j<rs.length:=by simpa using hj
   have h3:=cV j ⟨j,uR⟩ 0 (j:Int) (by rw[abK (by simpa using uR)];simp) rfl
   rw[Nat.mul_one,Nat.add_zero]at h3
   refine⟨?_,tr hblk _⟩
   show w.cell? _=some (.int .i64 ((List.finRange rs.length).toArray[j]!.val:Nat))
   rw[fin j uR]
   unfold World.cell?;rw[hblk];exact h3
  have Uu:=Any.slices_SortFunc PZ (fun x:Fin rs.length=>Value.int .i64 (x.val:Nat)) (fun _=>rfl) (cfR rs) (abl rs) 266 #[.pointer (some ⟨b,0,none⟩)] c5 off cap (List.finRange rs.length).toArray w (enters_of Tryz.func266 (by kernel_rfl) rfl) (fun m os dk hs x y=>?_) hH G8 (by simp;omega)
  rotate_left
  ·have ot:∀a:Addr,a.block≠c5->a.block<w.heap.size->(sortWorld (fun x:Fin rs.length=>Value.int .i64 (x.val:Nat)) w c5 off m dk os).cell? a=w.cell? a:=fun a h1 h2=>by
    unfold sortWorld
    rw[cell?_grow _ _ _ (by rw[size_putRow];exact h2),cell?_putRow_other _ _ c5 off dk a (Or.inl h1)]
    rfl
   exact abk x.val y.val rs.length abm _ _ b rb ro _ x.isLt y.isLt ((ot _ ji Zd).trans eP) ((ot _ ct zI).trans (abn _ x.isLt)) ((ot _ ct zI).trans (abn _ y.isLt))
  rw[show(List.finRange rs.length).toArray.size=(List.finRange rs.length).length by simp]at Uu
  refine Calls.mono Uu ?_
  rintro en w' ⟨rfl,d',n,os,hp,hs,rfl⟩
  have zG:d'.size=rs.length:=by simpa using hp.1
  have yM:d'.toList.Perm (List.finRange rs.length):=by
   have:=hp.2.2
   rw[show(List.finRange rs.length).length=d'.size by simp[zG],show d'.extract 0 d'.size=d' by simp]at this
   rw[show(List.finRange rs.length).toArray.extract 0 d'.size=(List.finRange rs.length).toArray by simp[zG];exact List.take_of_length_le (by simp)]at this
   simpa using this
  refine⟨rfl,d'.toList,⟨yM,?_⟩,?_⟩
  ·rw[List.pairwise_iff_getElem]
   intro i j hi hj K4
   have:=hs i j (adx _) K4 (by simpa[zG]using hj)
   rw[getElem!_pos d' j (by simpa using hj),getElem!_pos d' i (by simpa using hi)]at this
   simpa using this
  ·refine vI (F:=d') G8 (fun i x j n hx hn=>?_) fun c' t' fr' qH=>?_
   ·have hj:j=0:=by have:=(adj.1 hn).1;simpa using this
    subst hj
    have hi:i<d'.size:=by have:=(adj.1 hx).1;simpa using this
    rw[Nat.mul_one,Nat.add_zero]
    refine⟨hi,?_⟩
    rw[getElem!_pos d' i hi]
    have h5:d'[i]=x:=by simpa[hi]using hx
    rw[h5]
    injection hn with hn;rw[<-hn]
   ·rw[hblk]at qH;injection qH with qH;injection qH with D5 _ _;subst D5
    have h3:=cV (rs.length-1) ⟨rs.length-1,by omega⟩ 0 ((rs.length-1:Nat):Int) (by rw[abK (by simp;omega)];simp) rfl
    have:=(adw.1 h3).1
    omega
end
end Go.Proofs.YtfpebgpgabjieaaGreatDoor
