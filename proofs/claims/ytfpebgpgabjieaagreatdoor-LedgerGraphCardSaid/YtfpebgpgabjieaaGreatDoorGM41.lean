import Derived.Test.YtfpebgpgabjieaaGreatDoorGM38
import Derived.Test.YtfpebgpgabjieaaGreatDoorGM40
import Derived.Test.YtfpebgpgabjieaaGreatDoorGM39
import Derived.Test.YtfpebgpgabjieaaGreatDoorGM29
import Derived.Test.YtfpebgpgabjieaaGreatDoorGM18
import Derived.Test.YtfpebgpgabjieaaGreatDoorGM26
set_option linter.all false
open Go.TM.oA Go.TM.oB Go.TM.oC Go.TM.oD Go.TM.oE
namespace Go.Proofs.YtfpebgpgabjieaaGreatDoor
set_option maxRecDepth 100000
set_option maxHeartbeats 8000000
section
open Go.TM
def zI(R:RL)(n k:List Int)(i:Nat):cG:=if pick k i 5=0 then p5 R n (6*i)else rn R n (6*i)
variable [bj]
theorem YO{P:PL}{R:RL}(h:Inv P R)(n k:List Int)(i:Nat):fA R (zI R n k i):=by
 unfold zI
 split
 ·exact Q8 h.gT h.dx n _
 ·exact Vc (Vb R n _ h.gT.sh)
inductive FO(P:PL)(R:RL)(s:cG):PL->RL->Prop
 |no (e:Int):aj Tryz.prog 17 [.ptr 0 0,cx (aP s)] 7 (lF P) 0 [.dv (I 0),.dv (I e)] (lF P)->(aj Tryz.prog 34 [.ptr 0 0,cx (aP s)] 4 (dq R) 0 [.dv (I 0),.dv (I e)] (dq R)\/aj Tryz.prog 34 [.ptr 0 0,cx (aP s)] 4 (dq R) 5 [.dv (I 0),.dv (I e)] (rlY R))->FO P R s P R
 |yes (a:Int) (P':PL) (R':RL):aj Tryz.prog 17 [.ptr 0 0,cx (aP s)] 7 (lF P) 0 [.dv (I a),.dv (I 0)] (zx 1 1 P')->aj Tryz.prog 34 [.ptr 0 0,cx (aP s)] 4 (dq R) 5 [.dv (I a),.dv (I 0)] (jC 1 1 1 R')->FO P R s P' R'
theorem Ve{P:PL}{R:RL}{i:Nat}(h:Inv P R)(lO:R.sp.length<=i)(hi:i<40){s:cG}(hs:fA R s):∃x:PL×RL,Inv x.1 x.2/\x.2.sp.length<=i+1/\(x.2=R\/oW R s=0/\x.2=Lw R s)/\FO P R s x.1 x.2:=by
 rcases qK xq h (by omega) hs with⟨_,h1,h2⟩|⟨h0,P',hI,h1,h2⟩
 ·exact⟨(P,R),h,Nat.le_succ_of_le lO,.inl rfl,.no _ h1 h2⟩
 ·exact⟨(P',Lw R s),hI,by show(R.sp++[_]).length<=_;rw[ad1];show _+1<=_;omega,.inr ⟨h0,rfl⟩,.yes _ _ _ h1 h2⟩
end
section
open Go.TM
structure LF(J:RL->Prop)(P:PL)(R:RL)(i:Nat):Prop where
 inv:Inv P R
 sp:R.sp.length<=i
 j:J R
variable [bj]
theorem Ns{J:RL->Prop}{A:cG->Prop}(hJ:∀P R s,Inv P R->R.sp.length<40->fA R s->A s->oW R s=0->J R->J (Lw R s)){P:PL}{R:RL}{i:Nat}(h:LF J P R i)(hi:i<40){s:cG}(hs:fA R s)(ha:A s):∃x:PL×RL,LF J x.1 x.2 (i+1)/\FO P R s x.1 x.2:=by
 obtain⟨x,h1,h2,h3,h4⟩:=Ve h.inv h.sp hi hs
 have:=h.sp
 exact⟨x,⟨h1,h2,h3.elim (fun e=>e▸h.j) fun⟨h0,e⟩=>e▸hJ P R s h.inv (by omega) hs ha h0 h.j⟩,h4⟩
theorem G8{J:RL->Prop}{A:cG->Prop}(hJ:∀P R s,Inv P R->R.sp.length<40->fA R s->A s->oW R s=0->J R->J (Lw R s)){P:PL}{R:RL}(n k:List Int)(hA:∀R i,A (zI R n k i))(h:LF J P R 0):∀j:Nat,j<=40->∃f:Nat->PL×RL,f 0=(P,R)/\(∀i≤j,LF J (f i).1 (f i).2 i)/\∀i<j,FO (f i).1 (f i).2 (zI (f i).2 n k i) (f (i+1)).1 (f (i+1)).2
 |0,_=>⟨fun _=>(P,R),rfl,fun i hi=>(by obtain rfl:i=0:=(by omega);exact h),fun i hi=>absurd hi (Nat.not_lt_zero i)⟩
 |j+1,hj=>by
  obtain⟨f,h0,h1,h2⟩:=G8 hJ n k hA h j (by omega)
  obtain⟨x,h3,h4⟩:=Ns hJ (h1 j (aei j)) (by omega) (YO (h1 j (aei j)).inv n k j) (hA _ _)
  refine⟨fun i=>if i<=j then f i else x,by simp[h0],fun i hi=>?_,fun i hi=>?_⟩
  ·by_cases wX:i<=j
   ·simp only[if_pos wX];exact h1 i wX
   ·obtain rfl:i=j+1:=by omega
    simp only[if_neg wX];exact h3
  ·have wX:i<=j:=by omega
   simp only[if_pos wX]
   by_cases uf:i+1<=j
   ·simp only[if_pos uf];exact h2 i (by omega)
   ·obtain rfl:i=j:=by omega
    simp only[if_neg uf];exact h4
end
section
open Go.TM
def flC(j:Int)(f:bp):Int:=if f.it=j then(if f.fr=0 then f.n else 0)-(if f.to=0 then f.n else 0)else 0
def YP(k:Int):Prop:=k=2\/k=3\/k=8
structure Cons(R:RL):Prop where
 sum:∀j,bN R.st j=(R.fl.map (flC j)).sum
 ins:∀f∈R.fl,YP f.kind->f.fr≠0/\f.to≠0
theorem Vf{R:RL}{s:cG}{m:c5}(h:(aX R s m).1=0):∃tk md,(aX R s m).2.fl=R.fl++[dX R s m tk md]:=by
 unfold aX at h⊢
 grind
theorem BX{R:RL}{s:cG}{m:c5}(hC:Cons R)(h0:(aX R s m).1=0)(ht:∀j,bN (aX R s m).2.st j=if m.it=j then bN R.st j+(if m.fr=0 then m.n else 0)-(if m.to=0 then m.n else 0)else bN R.st j)(he:YP s.kind->m.fr≠0/\m.to≠0):Cons (aX R s m).2:=by
 obtain⟨tk,md,hf⟩:=Vf h0
 refine⟨fun j=>?_,fun f K8=>?_⟩
 ·rw[ht j,hf,ad7,List.sum_append,<-hC.sum j]
  show _=bN R.st j+((if m.it=j then(if m.fr=0 then m.n else 0)-(if m.to=0 then m.n else 0)else 0)+0)
  grind
 ·rw[hf]at K8
  rcases adX.1 K8 with K8|K8
  ·exact hC.ins f K8
  ·rw[adU]at K8;subst K8;exact he
theorem YQ{now:Int}{s:cG}(h:iz now s=true)(hk:YP s.kind):∀m∈s.mv,m.fr≠0/\m.to≠0:=fun m hm=>by
 unfold iz at h
 rw[aep]at h
 have h2:=h.2
 rw[aec (by grind [YP]),aec (by grind [YP])]at h2
 simp[cond_false,aep,aed]at h2
 have:=h2.1 m hm
 unfold mg at this
 unfold YP at hk
 grind
theorem LD{R:RL}{s:cG}(hG:Good R)(hD:Dx R)(hC:Cons R)(hl:R.fl.length+s.mv.length<=160)(hm:vk R s)(he:YP s.kind->∀m∈s.mv,m.fr≠0/\m.to≠0):∀i,(eX R s i).1=0->Cons (eX R s i).2
 |0,_=>hC
 |i+1,h=>by
  have h0:=oa (Nat.le_succ i) h
  have ih:=LD hG hD hC hl hm he i h0
  obtain⟨⟨h1,h3⟩,h2⟩:=GR hG hD hl hm i
  cases hx:s.mv[i]? with
  |none=>
   grind [eX,List.take_add_one]
  |some m=>
   have hi:=(adP.1 hx).1
   have x3:=adR hx
   rw[jY hx h0]at h⊢
   rcases Lv hm hx with lW|⟨rfl,x,lW⟩
   ·exact BX ih h (Dd h1 (by omega) (by grind [pZ]) h).2.2 fun hk=>he hk m x3
   ·exact BX hC h (Lu hG hD (by omega) lW h).1.2.2 fun hk=>he hk m x3
theorem Nt{R:RL}{s:cG}(hG:Good R)(hD:Dx R)(hC:Cons R)(hl:R.fl.length+s.mv.length<=160)(hs:fA R s)(h0:oW R s=0):Cons (Lw R s):=by
 unfold oW at h0
 cases hp:iz (eW R.sp) s with
 |false=>grind
 |true=>
  rw[hp]at h0
  have:=LD hG hD hC hl (hs.pos hp).1 (YQ hp) s.mv.length h0
  exact⟨this.sum,this.ins⟩
end
section
open Go.TM
def lfK(P:PL)(R:RL):ad:=[(1,.tree 0 0 (.omap eE (oZ P.st))),(2,.tree 0 0 (.omap bX (j4 P.bZ))),(3,.tree 0 0 (.omap bX (ni P.imp))),(4,.tree 0 0 (.omap bX (ni P.ret))),(5,.cells (.dv (I P.sh)::eP iG++[.own 1 0 0 [],.own 2 0 0 [],.own 8 0 0 [],.own 9 0 0 [],.own 3 0 0 [],.own 4 0 0 []])),(7,.cells (.dv (I R.sh)::eP iG++[.own 10 0 0 [],.own 11 0 0 [],.own 12 0 0 []])),(8,.tree 0 0 (.aD 7 (P.sp.map aP))),(9,.tree 0 0 (.aD 11 (P.fl.map ar))),(10,.tree 0 0 (.aD 3 (R.st.map iK))),(11,.tree 0 0 (.aD 11 (R.fl.map ar))),(12,.tree 0 0 (.aD 7 (R.sp.map aP)))]
end
section
open Go.TM
variable [bj]
theorem JJ(R:RL)(n:List Int)(p:Int)(hp:0<=p/\p<=1000)(lO:R.sp.length<=40)(km:R.fl.length<=160)(ak:R.st.length<=160)(Qr:∀f∈R.fl,1<=f.n/\f.n<=1099511627776)(hs:∀q∈R.st,q.2.length<=160/\∀y∈q.2,1<=y.n/\y.n<=1099511627776/\0<=y.a/\y.a<=1099511627776):aj Tryz.prog 33 [.ptr 0 0,.dv (Ints n),.dv (I p)] 4 (dq R) 0 [cx (aP (p5 R n p))] (dq R):=by
 have cT:=fun(l:List Int) (i:Int) {m:Int} (hm:1<=m)=>fR l i m hm
 have lp:(R.sp.map aP).length=R.sp.length:=adO ..
 have lf:(R.fl.map ar).length=R.fl.length:=adO ..
 have bt:0<=(R.sp.length:Int).tdiv 2/\(R.sp.length:Int).tdiv 2<=900000:=by rw[Int.tdiv_eq_ediv_of_nonneg (by omega)];omega
 unfold p5
 rw[<-lp]at bt⊢
 refine cO Tryz.func33 rfl (by kernel_rfl) ?_
 refine⟨fun _ h=>(by cases h),fun _=>by omega,?_⟩
 refine .inl ⟨_,fun _=>(aT n p 3 (by omega) (by omega)).ok,?_⟩
 refine adN (fun h=>?_) fun h=>?_
 ·have hc:pick n p 3=0:=beq_iff_eq.1 h
  rw[if_pos hc]
  refine⟨Nat,fun i=>⟨6,[(0,.ptr 0 0),(1,.dv (Ints n)),(2,.dv (I p)),(6,.ptr 4 0),(7,.ptr 5 0),(8,.dv (I i))],dq R++[(4,.cells (eP (nth na 51).zero)),(5,.cells (eP (aP ⟨0,9,9,((R.sp.map aP).length:Int).tdiv 2,-1,0,Ez R.fl n p i⟩).cells))]⟩,fun i=>i<=R.fl.length,fun i=>R.fl.length-i,0,fun _=>rfl,?_,ad3 _,?_⟩
  ·refine⟨⟨rfl,rf,rf,rfl,rfl,rf,tv⟩,?_,rfl,rfl⟩
   repeat' first|exact trivial|rfl|exact rf|exact DV.aL 5|refine adN ?_ ?_
  intro i hi
  refine adN (fun h=>?_) fun h=>?_
  ·have ay:i<R.fl.length:=by have:=ad5 h;omega
   obtain⟨f,hf⟩:∃f,R.fl[i]?=some f:=⟨_,ace ay⟩
   have hm:=adR hf
   have im:(R.fl.map ar)[(i:Int).toNat]?=some (ar f):=by rw[adQ];simp[hf]
   refine⟨fun _=>by omega,ar f,fun _=>im,?_⟩
   have hb:=Qr f hm
   repeat refine gG ?_
   refine⟨fun _=>by omega,?_⟩
   repeat refine gG ?_
   refine⟨fun _ h=>(by cases h),?_⟩
   have b4:-4<(i:Int).tmod 4/\(i:Int).tmod 4<4:=⟨Int.lt_tmod_of_pos _ (by omega),Int.tmod_lt_of_pos _ (by omega)⟩
   repeat refine gG ?_
   refine⟨fun _=>by omega,?_⟩
   repeat refine gG ?_
   refine .inl ⟨_,fun _=>(aT n (p+1+(i:Int).tmod 4) 2 (by omega) (by omega)).ok,?_⟩
   repeat refine gG ?_
   refine adN (fun hc=>?_) fun hc=>?_
   ·have e:=abC hf hc
    have q2:=cT n (p+2) hb.1
    have q3:=cT n (p+3) (m:=f.n-pick n (p+2) f.n) (by omega)
    have q4:=cT n (p+4) (m:=4) (by omega)
    refine⟨fun _=>by omega,?_⟩
    refine .inl ⟨_,fun _=>(aT n (p+2) f.n (by omega) (by omega)).ok,?_⟩
    refine⟨fun _=>by omega,fun _=>by omega,?_⟩
    refine .inl ⟨_,fun _=>(aT n (p+3) (f.n-pick n (p+2) f.n) (by omega) (by omega)).ok,?_⟩
    refine⟨fun _=>by omega,fun _=>by omega,?_⟩
    refine .inl ⟨_,fun _=>(aT n (p+4) 4 (by omega) (by omega)).ok,?_⟩
    refine⟨fun _=>by omega,?_⟩
    refine .inl ⟨[ax ⟨f.id,pick n (p+2) f.n,1+pick n (p+3) (f.n-pick n (p+2) f.n)⟩],rfl,⟨rf,rf,rf,tv⟩,(by simp;rfl),?_⟩
    refine .inl ⟨[aq (Nh f n p)],rfl,⟨rf,rf,rf,rf,rf,tv⟩,(by simp;rfl),?_⟩
    refine⟨by kernel_rfl,fun _=>by omega,i+1,jn rfl (by simp only[e];rfl) rfl rfl,ay,mlt ay⟩
   ·have e:=abD hf hc
    exact⟨fun _=>by omega,i+1,jn rfl (by simp only[e];rfl) rfl rfl,ay,mlt ay⟩
  ·obtain rfl:i=R.fl.length:=by have:=ad6 h;omega
   exact ext (by kernel_rfl) rfl rfl
 ·have hc:pick n p 3≠0:=beq_eq_false_iff_ne.1 h
  rw[if_neg hc]
  have ls:(R.st.map iK).length=R.st.length:=adO ..
  refine adN (fun h=>?_) fun h=>?_
  ·have hz:R.st=[]:=by have:=beq_iff_eq.1 h;exact List.length_eq_zero_iff.1 (by omega)
   have e:WB R n p=[]:=by unfold WB;rw[hz];rfl
   rw[e]
   exact⟨_,_,⟨rfl,rfl⟩,by kernel_rfl,⟨⟨rf,rf,rf,rf,rf,rf,DV.aL 5,tv⟩,tv⟩,aZ (k:=dq R) rfl⟩
  have hn:1<=R.st.length:=by have:=beq_eq_false_iff_ne.1 h;omega
  have b1:=cT n (p+1) (m:=R.st.length) (by omega)
  obtain⟨⟨ky,l⟩,hq⟩:∃q,R.st[(pick n (p+1) R.st.length).toNat]?=some q:=⟨_,ace (by omega)⟩
  have iq:(R.st.map iK)[(pick n (p+1) R.st.length).toNat]?=some (iK (ky,l)):=by rw[adQ,hq];rfl
  obtain⟨hl,hy⟩:=hs _ (adR hq)
  simp only at hl hy
  have e0:WB R n p=match l[(pick n (p+2) l.length).toNat]? with
   |none=>[]
   |some y=>[wQ ky y n p]:=by unfold WB;rw[hq];rfl
  rw[<-ls]at b1 iq
  refine⟨fun _=>by omega,?_⟩
  refine .inl ⟨_,fun _=>(aT n (p+1) (R.st.map iK).length (by omega) (by omega)).ok,?_⟩
  refine⟨fun _=>by omega,iK (ky,l),fun _=>iq,?_⟩
  refine⟨by kernel_rfl,?_⟩
  have ll:(l.map ax).length=l.length:=adO ..
  refine adN (fun h=>?_) fun h=>?_
  ·have hz:l=[]:=by have:=beq_iff_eq.1 h;exact List.length_eq_zero_iff.1 (by simp only at this;omega)
   have e:WB R n p=[]:=by rw[e0,hz];rfl
   rw[e]
   exact⟨_,_,⟨rfl,rfl⟩,by kernel_rfl,⟨⟨rf,rf,rf,rf,rf,rf,DV.aL 5,tv⟩,tv⟩,aZ (k:=dq R) rfl⟩
  have N4:1<=l.length:=by have:=beq_eq_false_iff_ne.1 h;simp only at this;omega
  have b2:=cT n (p+2) (m:=l.length) (by omega)
  obtain⟨y,TY⟩:∃y,l[(pick n (p+2) l.length).toNat]?=some y:=⟨_,ace (by omega)⟩
  have iy:(l.map ax)[(pick n (p+2) l.length).toNat]?=some (ax y):=by rw[adQ,TY];rfl
  have e:WB R n p=[wQ ky y n p]:=by rw[e0,TY]
  have hb:=hy y (adR TY)
  rw[e]
  rw[<-ll]at b2 iy
  refine⟨fun _=>by omega,?_⟩
  refine .inl ⟨_,fun _=>(aT n (p+2) (l.map ax).length (by omega) (by omega)).ok,?_⟩
  refine⟨ax y,fun _=>⟨by omega,iy⟩,?_⟩
  refine⟨by kernel_rfl,?_⟩
  have q3:=cT n (p+3) hb.1
  have q4:=cT n (p+4) (m:=y.n-pick n (p+3) y.n) (by omega)
  have q5:=cT n (p+5) (m:=4) (by omega)
  refine⟨fun _=>by omega,?_⟩
  refine .inl ⟨_,fun _=>(aT n (p+3) y.n (by omega) (by omega)).ok,?_⟩
  refine⟨fun _=>by omega,fun _=>by omega,?_⟩
  refine .inl ⟨_,fun _=>(aT n (p+4) (y.n-pick n (p+3) y.n) (by omega) (by omega)).ok,?_⟩
  refine⟨fun _=>by omega,fun _=>by omega,?_⟩
  refine .inl ⟨_,fun _=>(aT n (p+5) 4 (by omega) (by omega)).ok,?_⟩
  refine⟨fun _=>by omega,?_⟩
  refine .inl ⟨[ax ⟨y.f,y.a+pick n (p+3) y.n,1+pick n (p+4) (y.n-pick n (p+3) y.n)⟩],rfl,⟨rf,rf,rf,tv⟩,(by simp;rfl),?_⟩
  refine .inr (.inl ⟨[aq ⟨ky.1,pick n (p+5) 4,ky.2,1+pick n (p+4) (y.n-pick n (p+3) y.n),[⟨y.f,y.a+pick n (p+3) y.n,1+pick n (p+4) (y.n-pick n (p+3) y.n)⟩]⟩],rfl,⟨rf,rf,rf,rf,rf,tv⟩,(by simp;rfl),?_⟩)
  refine⟨by kernel_rfl,?_⟩
  refine⟨fun _=>⟨by omega,by simp⟩,_,fun _=>rfl,?_⟩
  refine⟨by kernel_rfl,?_⟩
  refine adN (fun h=>?_) fun h=>?_
  ·have h:pick n (p+5) 4=ky.1:=beq_iff_eq.1 h
   have e2:wQ ky y n p=⟨ky.1,0,ky.2,1+pick n (p+4) (y.n-pick n (p+3) y.n),[⟨y.f,y.a+pick n (p+3) y.n,1+pick n (p+4) (y.n-pick n (p+3) y.n)⟩]⟩:=by unfold wQ;rw[if_pos h]
   rw[e2]
   refine⟨fun _=>⟨by omega,by simp⟩,[I 0],⟨rf,tv⟩,_,rfl,?_⟩
   exact⟨_,_,⟨rfl,rfl⟩,by kernel_rfl,⟨⟨rf,rf,rf,rf,rf,rf,rf,tv⟩,tv⟩,aZ (k:=dq R) rfl⟩
  ·have e2:wQ ky y n p=⟨ky.1,pick n (p+5) 4,ky.2,1+pick n (p+4) (y.n-pick n (p+3) y.n),[⟨y.f,y.a+pick n (p+3) y.n,1+pick n (p+4) (y.n-pick n (p+3) y.n)⟩]⟩:=by unfold wQ;rw[if_neg (beq_eq_false_iff_ne.1 h)]
   rw[e2]
   exact⟨_,_,⟨rfl,rfl⟩,by kernel_rfl,⟨⟨rf,rf,rf,rf,rf,rf,rf,tv⟩,tv⟩,aZ (k:=dq R) rfl⟩
end
section
open Go.TM
variable [bj]
theorem YR{P:PL}{R:RL}(h:Inv P R)(n:List Int)(p:Int)(hp:0<=p/\p<=1000):aj Tryz.prog 33 [.ptr 0 0,.dv (Ints n),.dv (I p)] 4 (dq R) 0 [cx (aP (p5 R n p))] (dq R):=
 JJ R n p hp h.gT.sp h.gT.fl (by have:=h.gT.st;have:=h.gT.fl;omega) (fun f hf=>(h.dx.fn f hf).1) fun q hq=>⟨by have:=(h.gT.tA q hq).2;have:=h.gT.fl;omega,fun y hy=>by have:=ah.1 ((h.gT.tA q hq).1 y hy);omega⟩
end
section
open Go.TM
variable [bj]
theorem G9{J:RL->Prop}{A:cG->Prop}(h0:J ⟨0,[],[],[]⟩)(hJ:∀P R s,Inv P R->R.sp.length<40->fA R s->A s->oW R s=0->J R->J (Lw R s))(n k:List Int)(hA:∀R i,A (zI R n k i)):∃P R,LF J P R 16/\aj Tryz.prog 6 [.dv (Ints n),.dv (Ints k)] 0 [] 13 [.ptr 5 0] (lfK P R):=by
 have hb:=vd 0 12 (by omega)
 obtain⟨f,f0,f1,f2⟩:=G8 hJ n k hA (P:=⟨ga 0 12,[],[],[],[],[],[]⟩) (R:=⟨ga 0 12,[],[],[]⟩) ⟨abS ⟨hb.1,by omega⟩,by simp,h0⟩ 16 (by omega)
 refine⟨(f 16).1,(f 16).2,f1 16 (aei _),?_⟩
 refine cO Tryz.func6 rfl (by kernel_rfl) ?_
 refine .inr (cl [] (Nr 0) (by kernel_rfl) rfl rfl ?_)
 refine adN (fun h=>by cases h) fun _=>?_
 refine⟨Nat×PL×RL,fun x=>⟨13,[(0,.dv (Ints n)),(1,.dv (Ints k)),(5,.ptr 5 0),(6,.ptr 7 0),(8,.dv (I x.1))],lfK x.2.1 x.2.2⟩,fun x=>x.1<=16/\f x.1=x.2,fun x=>16-x.1,(0,⟨ga 0 12,[],[],[],[],[],[]⟩,⟨ga 0 12,[],[],[]⟩),fun _=>rfl,?_,⟨by simp,f0⟩,?_⟩
 ·refine⟨⟨rf,rf,rfl,rfl,rf,tv⟩,?_,rfl,rfl⟩
  repeat' first|exact trivial|rfl|exact rf|exact⟨rfl,rfl,rfl,rfl,_,rfl⟩|exact⟨rfl,rfl,_,rfl⟩|refine adN ?_ ?_
 rintro⟨i,P,R⟩ ⟨hi,he⟩
 simp only at hi he
 have hL:=f1 i hi
 rw[he]at hL
 simp only at hL
 refine adN (fun h=>?_) fun h=>?_
 ·have ay:i<16:=by have:=ad5 h;omega
  have hG:=hL.inv.gT
  have hF:=f2 i ay
  rw[he]at hF
  simp only at hF
  generalize hy:f (i+1)=y at hF
  obtain⟨P',R'⟩:=y
  simp only at hF
  refine⟨fun _=>by omega,?_⟩
  refine .inr (cl [7,10,11,12] (Ni R n (6*i) (by omega) hG.rg) (by kernel_rfl) rfl rfl ?_)
  refine .inl ⟨_,fun _=>(aT k i 5 (by omega) (by omega)).ok,?_⟩
  refine adN (fun hc=>?_) fun hc=>?_
  ·unfold zI at hF
   rw[if_pos (beq_iff_eq.1 hc)]at hF
   refine⟨fun _=>by omega,?_⟩
   refine .inr (cl [7,10,11,12] (YR hL.inv n (6*i) (by omega)) (by kernel_rfl) rfl rfl ?_)
   generalize p5 R n (6*i)=s at*
   rcases hF with⟨e,h1,h2⟩|⟨a,_,_,h1,h2⟩
   ·refine .inr (cl [5,1,2,8,9,3,4] h1 (by kernel_rfl) rfl rfl ?_)
    rcases h2 with h2|h2
    all_goals
     refine .inr (cl [7,10,11,12] h2 (by kernel_rfl) rfl rfl ?_)
     refine adN (fun h=>absurd h (by simp)) fun _=>?_
     exact⟨fun _=>by omega,(i+1,P,R),jn rfl rfl rfl rfl,⟨ay,hy⟩,mlt ay⟩
   ·refine .inr (cl [5,1,2,8,9,3,4] h1 (by kernel_rfl) rfl rfl ?_)
    refine .inr (cl [7,10,11,12] h2 (by kernel_rfl) rfl rfl ?_)
    refine adN (fun h=>by cases h) fun _=>?_
    exact⟨fun _=>by omega,(i+1,P',R'),jn rfl rfl rfl rfl,⟨ay,hy⟩,mlt ay⟩
  ·unfold zI at hF
   rw[if_neg (fun h=>beq_eq_false_iff_ne.1 hc h)]at hF
   generalize rn R n (6*i)=s at*
   rcases hF with⟨e,h1,h2⟩|⟨a,_,_,h1,h2⟩
   ·refine .inr (cl [5,1,2,8,9,3,4] h1 (by kernel_rfl) rfl rfl ?_)
    rcases h2 with h2|h2
    all_goals
     refine .inr (cl [7,10,11,12] h2 (by kernel_rfl) rfl rfl ?_)
     refine adN (fun h=>absurd h (by simp)) fun _=>?_
     exact⟨fun _=>by omega,(i+1,P,R),jn rfl rfl rfl rfl,⟨ay,hy⟩,mlt ay⟩
   ·refine .inr (cl [5,1,2,8,9,3,4] h1 (by kernel_rfl) rfl rfl ?_)
    refine .inr (cl [7,10,11,12] h2 (by kernel_rfl) rfl rfl ?_)
    refine adN (fun h=>by cases h) fun _=>?_
    exact⟨fun _=>by omega,(i+1,P',R'),jn rfl rfl rfl rfl,⟨ay,hy⟩,mlt ay⟩
 ·obtain rfl:i=16:=by have:=ad6 h;omega
  obtain rfl:P=(f 16).1:=by rw[he]
  obtain rfl:R=(f 16).2:=by rw[he]
  exact ext (by kernel_rfl) rfl rfl
end
section
open Go.TM
def oM(fl:List bp)(j:Nat):IM Int:=(fl.take j).zipIdx.map fun p=>(p.1.id,(p.2:Int))
structure YS(f:bp):Prop where
 id:0<=f.id
 it:0<=f.it
 n:1<=f.n/\f.n<=1099511627776
 ps:bz f.ps=true
 md:f.md.length<=1000
 sum:f.ps=[]\/f.md=[]/\cu f.ps=f.n
variable [bj]
theorem Nu(f:bp)(h:YS f):aR Tryz.prog 76 [ar f] [B true]:=by
 have h1:=h.id
 have h2:=h.it
 have h3:=h.n
 have h4:=h.md
 have hl:=(dE h.ps).1
 have lp:(f.ps.map ax).length=f.ps.length:=adO ..
 have hv:=ez f.ps (by omega)
 have ht:=kR f.ps (by omega)
 rw[h.ps]at hv
 refine pO Tryz.func76 rfl (by kernel_rfl) rfl ?_
 repeat refine gG ?_
 refine Or.inl ?_
 refine⟨_,fun _=>hv.ok,?_⟩
 repeat refine gG ?_
 refine adN (fun h=>?_) fun _=>?_
 ·exfalso;simp at h;omega
 repeat refine gG ?_
 refine Or.inl ?_
 refine⟨_,fun _=>ht.ok,?_⟩
 repeat refine gG ?_
 refine⟨by kernel_rfl,DV.Le.of_eq (congrArg DV.bool ?_),tv⟩
 rcases h.sum with e|⟨e1,e2⟩
 ·rw[e];rfl
 ·rw[e1,e2,beq_self_eq_true];cases((((f.ps.map ax).length:Nat):Int)==0)<;>rfl
def WI(fl:List bp)(f:bp):Prop:=(∀x∈f.ps,∃(i:Nat) (g:bp),fl[i]?=some g/\g.id=x.f/\x.a+x.n<=g.n/\g.it=f.it)/\∀id∈f.md,∃(i:Nat) (g:bp),fl[i]?=some g/\g.id=id
def ogK(m:IM Int):ad:=[(0,.cells [.dv .aw,.dv .aw,.own 1 0 0 [],.dv .aw,.dv .aw]),(1,.tree 0 0 (.omap bX (j4 m)))]
theorem Nv(m:IM Int)(fl:List bp)(f:bp)(hf:YS f)(hr:WI fl f)(hm:∀(i:Nat) (g:bp),fl[i]?=some g->aU m g.id=some (i:Int))(hl:fl.length<=1000):aj Tryz.prog 77 [.ptr 0 0,.dv (.sl 11 (fl.map ar)),cx (ar f)] 2 (ogK m) 0 [.dv (I 0)] (ogK m):=by
 refine cO Tryz.func77 rfl (by kernel_rfl) ?_
 have lp:(f.ps.map ax).length=f.ps.length:=adO ..
 have lm:(f.md.map I).length=f.md.length:=adO ..
 have lf:(fl.map ar).length=fl.length:=adO ..
 have Af:=(dE hf.ps).1
 have hmd:=hf.md
 refine⟨Nat,fun j=>⟨3,[(0,.ptr 0 0),(1,.dv (.sl 11 (fl.map ar))),(5,.ptr 2 0),(16,.dv (aQ f.ps)),(17,.dv (I (f.ps.map ax).length)),(18,.dv (I j))],ogK m++[(2,.cells (eP (ar f).cells))]⟩,fun j=>j<=f.ps.length,fun j=>f.ps.length-j,0,fun _=>rfl,jn rfl rfl rfl rfl,ad3 _,?_⟩
 intro j hj
 refine adN (fun h=>?_) fun h=>?_
 ·have ay:j<f.ps.length:=by have:=ad5 h;omega
  obtain⟨x,hx⟩:∃x,f.ps[j]?=some x:=⟨_,ace ay⟩
  have ZN:=adR hx
  have ix:(f.ps.map ax)[(j:Int).toNat]?=some (ax x):=by rw[adQ];simp[hx]
  obtain⟨i,g,hi,e1,e2,e3⟩:=hr.1 x ZN
  have hg:=hm i g hi
  rw[e1]at hg
  have hq:=dU (ev:=eI) eT m x.f
  rw[hg]at hq
  have rX:=ah.1 ((dE hf.ps).2 x ZN)
  have ig:(fl.map ar)[(i:Int).toNat]?=some (ar g):=by rw[adQ];simp[hi]
  have uZ:=(adP.1 hi).1
  refine⟨ax x,fun _=>⟨by omega,ix⟩,?_⟩
  refine⟨gf,eI x.f,rfl,rfl,I i,true,fun _=>hq,fun h=>(by cases h),rfl,?_⟩
  refine⟨by kernel_rfl,adN (fun h=>by cases h) fun _=>?_⟩
  refine⟨fun _=>by omega,ar g,fun _=>⟨by omega,ig⟩,?_⟩
  refine⟨by kernel_rfl,adN (fun h=>?_) fun _=>?_⟩
  ·exfalso;have:=ad5 h;omega
  refine⟨ar g,fun _=>⟨by omega,ig⟩,?_⟩
  refine⟨by kernel_rfl,adN (fun h=>?_) fun _=>?_⟩
  ·exfalso;rw[e3,bne_self_eq_false]at h;cases h
  exact⟨fun _=>by omega,j+1,jn rfl rfl rfl rfl,ay,mlt ay⟩
 ·refine⟨Nat,fun j=>⟨3,[(0,.ptr 0 0),(58,.dv (Ints f.md)),(59,.dv (I (f.md.map I).length)),(60,.dv (I j))],ogK m++[(2,.cells (eP (ar f).cells))]⟩,fun j=>j<=f.md.length,fun j=>f.md.length-j,0,fun _=>rfl,jn rfl rfl rfl rfl,ad3 _,?_⟩
  intro j hj
  refine adN (fun h=>?_) fun h=>?_
  ·have ay:j<f.md.length:=by have:=ad5 h;omega
   obtain⟨x,hx⟩:∃x,f.md[j]?=some x:=⟨_,ace ay⟩
   have ix:(f.md.map I)[(j:Int).toNat]?=some (I x):=by rw[adQ];simp[hx]
   obtain⟨i,g,hi,e1⟩:=hr.2 x (adR hx)
   have hg:=hm i g hi
   rw[e1]at hg
   have hq:=dU (ev:=eI) eT m x
   rw[hg]at hq
   refine⟨I x,fun _=>⟨by omega,ix⟩,?_⟩
   refine⟨gf,eI x,rfl,rfl,I i,true,fun _=>hq,fun h=>(by cases h),rfl,?_⟩
   refine adN (fun h=>by cases h) fun _=>?_
   exact⟨fun _=>by omega,j+1,jn rfl rfl rfl rfl,ay,mlt ay⟩
  ·exact ext (by kernel_rfl) rfl rfl
end
section
open Go.TM
def wm(f:bp):List Int:=f.ps.map (·.f)++f.md
def H0(m:IM Int)(id:Int):Nat:=((aU m id).getD 0).toNat
def S8(i:Nat)(us:List (List Int))(ps:List Nat):List (List Int):=ps.foldl (fun us p=>us.set p (us.getD p []++[(i:Int)])) us
def Ha(m:IM Int)(i:Nat)(us:List (List Int))(f:bp)(j:Nat):List (List Int):=S8 i us (((wm f).take j).map (H0 m))
theorem DZ(i:Nat):∀(ps:List Nat) (us:List (List Int)),(S8 i us ps).length=us.length
 |[],us=>rfl
 |p::ps,us=>by show(S8 i _ ps).length=_;rw[DZ i ps,List.length_set]
theorem Rx{m:IM Int}{i:Nat}{us:List (List Int)}{f:bp}{j:Nat}{id:Int}(h:(wm f)[j]?=some id):Ha m i us f (j+1)=(Ha m i us f j).set (H0 m id) ((Ha m i us f j).getD (H0 m id) []++[(i:Int)]):=by
 unfold Ha S8;rw[adY,h,ad7,aee];rfl
theorem D0(i:Nat){b:Nat}:∀(ps:List Nat) (us:List (List Int)),(∀r∈us,r.length<=b)->∀r∈S8 i us ps,r.length<=b+ps.length
 |[],us,h,r,hr=>Nat.le_trans (h r hr) (Nat.le_add_right _ _)
 |p::ps,us,h,r,hr=>by
  have:=D0 i ps _ (fun q hq=>by
   rcases List.mem_or_eq_of_mem_set hq with hq|rfl
   ·exact Nat.le_succ_of_le (h q hq)
   grind) r hr
  grind
def BY(m:IM Int)(f:bp):List Nat:=(wm f).map (H0 m)
theorem Vg(m:IM Int)(i:Nat)(us:List (List Int))(f:bp):Ha m i us f (wm f).length=S8 i us (BY m f):=by unfold Ha BY;grind
theorem Ry(i:Nat){q:Nat}:∀(ps:List Nat) (us:List (List Int)),q<us.length->(S8 i us ps).getD q []=us.getD q []++List.replicate (ps.count q) (i:Int)
 |[],us,_=>by simp[S8]
 |p::ps,us,h=>by
  show(S8 i _ ps).getD q []=_
  rw[Ry i ps _ (by grind),List.count_cons]
  by_cases hp:p=q
  ·simp_all [List.replicate_succ]
  grind
def zJ(m:IM Int)(fl:List bp):Nat->List (List Int)
 |0=>List.replicate fl.length []
 |i+1=>match fl[i]? with
  |some f=>S8 i (zJ m fl i) (BY m f)
  |none=>zJ m fl i
theorem tR(m:IM Int)(fl:List bp):∀i,(zJ m fl i).length=fl.length
 |0=>by simp[zJ]
 |i+1=>by
  rw[zJ]
  split
  ·rw[DZ,tR m fl i]
  ·exact tR m fl i
def jo(m:IM Int)(fl:List bp)(i:Nat):List Nat:=match fl[i]? with
 |some f=>BY m f
 |none=>[]
theorem BZ(m:IM Int)(fl:List bp){q:Nat}(hq:q<fl.length):∀j,j<=fl.length->(∀x∈(zJ m fl j).getD q [],∃i:Nat,x=i/\i<j)/\∀i:Nat,((zJ m fl j).getD q []).count (i:Int)=if i<j then(jo m fl i).count q else 0
 |0,_=>by simp[zJ,hq]
 |j+1,hj=>by
  obtain⟨h1,h2⟩:=BZ m fl hq j (by omega)
  have e:(zJ m fl (j+1)).getD q []=(zJ m fl j).getD q []++List.replicate ((jo m fl j).count q) (j:Int):=by
   grind [zJ,Ry,tR,jo]
  grind
theorem LG(m:IM Int)(fl:List bp){b:Nat}(hb:∀f∈fl,(wm f).length<=b):∀j,j<=fl.length->∀r∈zJ m fl j,r.length<=j*b
 |0,_,r,hr=>by rw[(List.mem_replicate.1 hr).2];simp
 |j+1,hj,r,hr=>by
  rw[zJ,(ace (show j<fl.length by omega))]at hr
  have:=D0 j _ _ (LG m fl hb j (by omega)) r hr
  grind [List.getElem_mem,BY,wm,Nat.add_mul]
structure Kh(m:IM Int)(fl:List bp)(a:Nat)(dn:List Int)(ord:List Nat)(ms:List Int):Prop where
 nd:ord.Nodup
 lt:∀i∈ord,i<fl.length
 le:a<=ord.length
 len:ms.length=fl.length
 cnt:∀i,i<fl.length->ms[i]?=some (((jo m fl i).countP (fun p=>decide (p∉ord.take a)):Int)-(dn.count (i:Int):Int))
 mem:∀i,i<fl.length->(i∈ord↔ms[i]?=some 0)
theorem Rz:∀{l r:List Nat},l.Nodup->(∀x∈l,x∈r)->l.length<=r.length
 |[],r,_,_=>ad3 _
 |x::l,r,h,hs=>by
  obtain⟨h1,h2⟩:=List.nodup_cons.1 h
  have:=Rz h2 fun y hy=>(List.mem_erase_of_ne fun e=>by subst e;exact h1 hy).2 (hs y (adW _ hy))
  grind
theorem Kh.YT{m:IM Int}{fl:List bp}{a:Nat}{dn:List Int}{ord:List Nat}{ms:List Int}(h:Kh m fl a dn ord ms):ord.length<=fl.length:=by
 have:=Rz h.nd fun x hx=>aeh.2 (h.lt x hx)
 grind
theorem Kh.step{m:IM Int}{fl:List bp}{a p:Nat}{row dn:List Int}{ord:List Nat}{ms:List Int}{u:Nat}{x:Int}(h:Kh m fl a dn ord ms)(ha:ord[a]?=some p)(tS:∀i:Nat,row.count (i:Int)=if i<fl.length then(jo m fl i).count p else 0)(hd:∃r,row=dn++(u:Int)::r)(hu:u<fl.length)(hx:ms[u]?=some x):1<=x/\Kh m fl a (dn++[(u:Int)]) (if x-1=0 then ord++[u]else ord) (ms.set u (x-1)):=by
 obtain⟨r,hr⟩:=hd
 have uz:u<ms.length:=by rwa[h.len]
 have hmu:=h.cnt u hu
 rw[hx]at hmu
 injection hmu with hmu
 have hc:=tS u
 rw[hr,List.count_append,List.count_cons_self,if_pos hu]at hc
 have hpn:=fun hp=>by
  have dC:=h.nd
  rw[<-List.take_append_drop a ord]at dC
  have:=(List.nodup_append.1 dC).2.2 p hp p (by rw[List.drop_eq_getElem_cons ((adP.1 ha).1)];rw[(adP.1 ha).2];exact ad0)
  exact this rfl
 have hle:(jo m fl u).count p<=(jo m fl u).countP fun q=>decide (q∉ord.take a):=by
  rw[List.count]
  exact List.countP_mono_left fun q _ hq=>by rw[beq_iff_eq.1 hq];simpa using hpn
 have fy:u∉ord:=fun hm=>by
  have:=(h.mem u hu).1 hm
  rw[hx]at this;injection this with this;omega
 refine⟨(by omega),?_,?_,?_,by rw[List.length_set];exact h.len,fun i hi=>?_,fun i hi=>?_⟩
 ·split
  ·exact List.nodup_append.2 ⟨h.nd,by simp,fun y hy z hz=>by rw[adU]at hz;subst hz;exact fun e=>fy (e▸hy)⟩
  ·exact h.nd
 ·split
  ·intro i hi
   rcases adX.1 hi with hi|hi
   ·exact h.lt i hi
   grind
  ·exact h.lt
 ·have:=h.le;split<;>simp<;>omega
 ·have ht:(if x-1=0 then ord++[u]else ord).take a=ord.take a:=by
   split
   ·rw[List.take_append_of_le_length h.le]
   ·rfl
  rw[ht,List.count_append]
  by_cases hiu:i=u
  ·subst hiu
   rw[List.getElem?_set_self uz,show List.count (i:Int) [(i:Int)]=1 by simp]
   grind
  ·rw[List.getElem?_set_ne (Ne.symm hiu),h.cnt i hi]
   have:List.count (i:Int) [(u)]=0:=List.count_eq_zero.2 (by grind)
   grind
 ·by_cases hiu:i=u
  ·subst hiu
   rw[List.getElem?_set_self uz]
   by_cases SP:x-1=0
   ·grind
   grind
  ·rw[List.getElem?_set_ne (Ne.symm hiu),<-h.mem i hi]
   split
   ·grind
   grind
theorem Kh.next{m:IM Int}{fl:List bp}{a p:Nat}{row:List Int}{ord:List Nat}{ms:List Int}(h:Kh m fl a row ord ms)(ha:ord[a]?=some p)(tS:∀i:Nat,row.count (i:Int)=if i<fl.length then(jo m fl i).count p else 0):Kh m fl (a+1) [] ord ms:=by
 refine⟨h.nd,h.lt,((adP.1 ha).1),h.len,fun i hi=>?_,h.mem⟩
 have hpn:=fun hp=>by
  have dC:=h.nd
  rw[<-List.take_append_drop a ord]at dC
  exact(List.nodup_append.1 dC).2.2 p hp p (by grind [List.drop_eq_getElem_cons,List.getElem?_eq_some_iff,List.mem_cons_self]) rfl
 rw[h.cnt i hi,tS i,if_pos hi,adY,ha]
 have key:∀l:List Nat,l.countP (fun q=>decide (q∉ord.take a))=l.countP (fun q=>decide (q∉ord.take a++[p]))+l.count p:=fun l=>by
  induction l with
  |nil=>rfl
  |cons q l ih=>
   grind
 simp_all
theorem Kh.all{m:IM Int}{fl:List bp}{ord:List Nat}{ms:List Int}(h:Kh m fl ord.length [] ord ms)(hr:∀i,∀p∈jo m fl i,p<i):ord.length=fl.length:=by
 have key:∀i,i<fl.length->i∈ord:=fun i=>by
  induction i using Nat.strongRecOn with
  |_ i ih=>
   intro hi
   rw[h.mem i hi,h.cnt i hi]
   grind [jo,decide,List.countP_eq_zero,List.take_length]
 have h1:=Rz List.nodup_range fun x hx=>key x (aeh.1 hx)
 rw[List.length_range]at h1
 have:=h.YT
 omega
end
section
open Go.TM
def eS:List Int->DV
 |[]=>.aw
 |a::r=>.aD 1 ((a::r).map I)
theorem Hb(r:List Int)(a:Int):eS (r++[a])=.aD 1 (r.map I++[I a]):=by
 cases r with
 |nil=>rfl
 |cons b r=>show DV.aD 1 ((b::(r++[a])).map I)=_;simp
def H3(v e:Nat)(fl:List bp)(m:IM Int)(us:List (List Int))(i:Int)(ms:List Int):ad:=[(0,.cells [.ptr 4 0]),(1,.cells [.own 5 v e []]),(2,.cells [.dv (I i)]),(3,.cells [.own 6 0 0 []]),(4,.cells [.dv (.sl 11 (fl.map ar)),.dv .aw,.own 7 0 0 [],.dv .aw,.dv .aw]),(5,.tree v e (.aD 1 (us.map eS))),(6,.tree 0 0 (.aD 1 (ms.map I))),(7,.tree 0 0 (.omap bX (j4 m)))]
variable [bj]
theorem Nw(fl:List bp)(m:IM Int)(us:List (List Int))(i:Nat)(ms:List Int)(id:Int)(p:Nat)(r:List Int)(x:Int)(hp:aU m id=some (p:Int))(hu:us[p]?=some r)(hx:ms[i]?=some x)(hb:0<=x/\x<=1000000)(hr:r.length<=1000000):aj Tryz.prog 115 [.dv (I id),.ptr 0 0,.ptr 1 0,.ptr 2 0,.ptr 3 0] 8 (H3 1 0 fl m us i ms) 0 [] (H3 1 0 fl m (us.set p (r++[(i:Int)])) i (ms.set i (x+1))):=by
 have hq:=dU (ev:=eI) eT m id
 rw[hp]at hq
 refine cO Tryz.func115 rfl (by kernel_rfl) ?_
 refine⟨gf,eI id,rfl,rfl,I p,true,fun _=>hq,fun h=>(by cases h),rfl,?_⟩
 have lu:(us.map eS).length=us.length:=adO ..
 have lm:(ms.map I).length=ms.length:=adO ..
 have iu:(us.map eS)[(p:Int).toNat]?=some (eS r):=by rw[adQ];simp[hu]
 have im:(ms.map I)[(i:Int).toNat]?=some (I x):=by rw[adQ];simp[hx]
 have A2:=(adP.1 hu).1
 have uZ:=(adP.1 hx).1
 have lr:(r.map I).length=r.length:=adO ..
 have e2:(ms.set i (x+1)).map I=(ms.map I).set (i:Int).toNat (I (x+1)):=List.map_set ..
 have e1:∀q,(us.set p (r++[(i:Int)])).map eS=((us.map eS).set (p:Int).toNat q).set (p:Int).toNat (.aD 1 (r.map I++[I i])):=fun q=>by
  rw[List.set_set,List.map_set,Hb];rfl
 unfold H3
 rw[e2]
 refine⟨fun _=>by omega,eS r,fun _=>iu,?_⟩
 cases r with
 |nil=>
  refine .inl ⟨[I i],rfl,⟨rf,tv⟩,(by simp;rfl),?_⟩
  refine .inr ⟨[I i],bV.refl _,show 1*8<=_ by decide,show 1<=_ by decide,fun _=>by omega,[.aD 1 [I i]],⟨rfl,tv⟩,_,iu,?_⟩
  refine⟨by kernel_rfl,fun _=>by omega,I x,fun _=>im,?_⟩
  refine⟨fun _=>by omega,?_⟩
  refine⟨fun _=>by omega,[I (x+1)],⟨rf,tv⟩,_,im,?_⟩
  rw[show(us.set p ([]++[(i:Int)])).map eS=(us.map eS).set (p:Int).toNat (.aD 1 [I i])by rw[List.map_set];rfl]
  exact ext (by kernel_rfl) rfl rfl
 |cons c r=>
  rw[e1 (qP (eS (c::r)) 0 DV.any)]
  refine .inl ⟨[I i],rfl,⟨rf,tv⟩,(by simp;rfl),?_⟩
  refine .inr ⟨eS (c::r),fun _=>iu,?_⟩
  refine⟨[I i],bV.refl _,show(((c::r).map I).length+1)*8<=_ by omega,show((c::r).map I).length+1<=_ by omega,eS (c::r),iu,?_⟩
  have ls:((us.map eS).set (p:Int).toNat (qP (eS (c::r)) 0 DV.any)).length=us.length:=by rw[List.length_set,lu]
  refine⟨fun _=>by omega,[.aD 1 ((c::r).map I++[I i])],⟨rfl,tv⟩,_,List.getElem?_set_self (by rw[lu];omega),?_⟩
  refine⟨by kernel_rfl,fun _=>by omega,I x,fun _=>im,?_⟩
  refine⟨fun _=>by omega,?_⟩
  refine⟨fun _=>by omega,[I (x+1)],⟨rf,tv⟩,_,im,?_⟩
  exact ext (by kernel_rfl) rfl rfl
theorem Hc{f:Nat}{fl:List bp}{m:IM Int}{us:List (List Int)}{i:Int}{ms:List Int}{a rs:List AV}{K':ad}{ex:Nat}(h:aj Tryz.prog f a 8 (H3 1 0 fl m us i ms) ex rs K'):aj Tryz.prog f a 8 (H3 0 0 fl m us i ms) ex rs K':=
 cH 5 (K0:=H3 0 0 fl m us i ms) h ⟨⟨_,rfl,rfl,fun j hj=>(by match j,hj with|0,_=>exact .refl _|1,_=>exact .cells (.rU .nil)|2,_=>exact .refl _|3,_=>exact .refl _|4,_=>exact .refl _|6,_=>exact .refl _|7,_=>exact .refl _|j+8,_=>exact .refl _)⟩,iW.refl _ _ _ _⟩
structure VOk(m:IM Int)(us:List (List Int))(i:Nat)(ms:List Int)(f:bp):Prop where
 pl:∀id∈wm f,∃p:Nat,aU m id=some (p:Int)/\p<us.length
 ms:ms[i]?=some 0
 len:(wm f).length<=5000
 row:∀r∈us,r.length<=900000
theorem JK(fl:List bp)(m:IM Int)(us:List (List Int))(i:Nat)(ms:List Int)(f:bp)(hv:VOk m us i ms f):aj Tryz.prog 114 [cx (ar f),.fn 115 [.ptr 0 0,.ptr 1 0,.ptr 2 0,.ptr 3 0]] 8 (H3 1 0 fl m us i ms) 0 [] (H3 1 0 fl m (Ha m i us f (wm f).length) i (ms.set i ((wm f).length:Int))):=by
 have hl:=hv.len
 have lr:(wm f).length=f.ps.length+f.md.length:=by simp[wm]
 have lp:(f.ps.map ax).length=f.ps.length:=adO ..
 have lm:(f.md.map I).length=f.md.length:=adO ..
 have il:=(adP.1 hv.ms).1
 have step:∀(j:Nat) id,(wm f)[j]?=some id->aj Tryz.prog 115 [.dv (I id),.ptr 0 0,.ptr 1 0,.ptr 2 0,.ptr 3 0] 8 (H3 0 0 fl m (Ha m i us f j) i (ms.set i (j:Int))) 0 [] (H3 1 0 fl m (Ha m i us f (j+1)) i (ms.set i ((j+1:Nat):Int))):=fun j id h=>by
  obtain⟨p,h1,h2⟩:=hv.pl id (adR h)
  have hj:=(adP.1 h).1
  have hp:H0 m id=p:=by unfold H0;rw[h1];simp
  have hlu:p<(Ha m i us f j).length:=by unfold Ha;rw[DZ];exact h2
  have hu:=ace hlu
  have hr:=D0 i (((wm f).take j).map (H0 m)) us hv.row _ (adR hu)
  rw[adO,ad9]at hr
  have:=Hc (Nw fl m (Ha m i us f j) i (ms.set i (j:Int)) id p _ (j:Int) h1 hu (List.getElem?_set_self il) (by omega) (by omega))
  rw[List.set_set]at this
  rw[Rx h,hp,adT,hu]
  exact this
 have e0:H3 1 0 fl m us i ms=H3 1 0 fl m (Ha m i us f 0) i (ms.set i ((0:Nat):Int)):=by
  rw[show ms.set i ((0:Nat):Int)=ms from List.ext_getElem? fun k=>by
   rw[List.getElem?_set];split
   ·rename_i h;subst h;rw[hv.ms];simp[il]
   ·rfl];rfl
 rw[e0,lr]
 refine cO Tryz.func114 rfl (by kernel_rfl) ?_
 refine⟨Nat,fun j=>⟨9,[(1,.fn 115 [.ptr 0 0,.ptr 1 0,.ptr 2 0,.ptr 3 0]),(2,.ptr 8 0),(9,.dv (aQ f.ps)),(10,.dv (I (f.ps.map ax).length)),(11,.dv (I j))],H3 1 0 fl m (Ha m i us f j) i (ms.set i (j:Int))++[(8,.cells (eP (ar f).cells))]⟩,fun j=>j<=f.ps.length,fun j=>f.ps.length-j,0,fun _=>rfl,jn rfl rfl rfl rfl,ad3 _,?_⟩
 intro j hj
 refine adN (fun h=>?_) fun h=>?_
 ·have ay:j<f.ps.length:=by have:=ad5 h;omega
  obtain⟨x,hx⟩:∃x,f.ps[j]?=some x:=⟨_,ace ay⟩
  have ix:(f.ps.map ax)[(j:Int).toNat]?=some (ax x):=by rw[adQ];simp[hx]
  have hs:=step j x.f (by unfold wm;rw[List.getElem?_append_left (by simpa using ay)];simp[hx])
  refine⟨ax x,fun _=>⟨by omega,ix⟩,?_⟩
  refine .inr (cl [0,1,2,3,4,5,6,7] hs (by kernel_rfl) rfl rfl ?_)
  exact⟨fun _=>by omega,j+1,jn rfl rfl rfl rfl,ay,mlt ay⟩
 obtain rfl:j=f.ps.length:=by have:=ad6 h;omega
 refine⟨Nat,fun k=>⟨9,[(1,.fn 115 [.ptr 0 0,.ptr 1 0,.ptr 2 0,.ptr 3 0]),(21,.dv (Ints f.md)),(22,.dv (I (f.md.map I).length)),(23,.dv (I k))],H3 1 0 fl m (Ha m i us f (f.ps.length+k)) i (ms.set i ((f.ps.length+k:Nat):Int))++[(8,.cells (eP (ar f).cells))]⟩,fun k=>k<=f.md.length,fun k=>f.md.length-k,0,fun _=>rfl,jn rfl rfl rfl rfl,ad3 _,?_⟩
 intro k hk
 refine adN (fun h=>?_) fun h=>?_
 ·have ay:k<f.md.length:=by have:=ad5 h;omega
  obtain⟨x,hx⟩:∃x,f.md[k]?=some x:=⟨_,ace ay⟩
  have ix:(f.md.map I)[(k:Int).toNat]?=some (I x):=by rw[adQ];simp[hx]
  have hs:=step (f.ps.length+k) x (by unfold wm;rw[List.getElem?_append_right (by simp)];simp[hx])
  refine⟨I x,fun _=>⟨by omega,ix⟩,?_⟩
  refine .inr (cl [0,1,2,3,4,5,6,7] hs (by kernel_rfl) rfl rfl ?_)
  exact⟨fun _=>by omega,k+1,jn rfl rfl rfl rfl,ay,mlt ay⟩
 ·obtain rfl:k=f.md.length:=by have:=ad6 h;omega
  exact ext (by kernel_rfl) rfl rfl
theorem Hd(fl:List bp)(m:IM Int)(us:List (List Int))(i:Nat)(ms:List Int)(f:bp)(hv:VOk m us i ms f):aj Tryz.prog 114 [cx (ar f),.fn 115 [.ptr 0 0,.ptr 1 0,.ptr 2 0,.ptr 3 0]] 8 (H3 0 0 fl m us i ms) 0 [] (H3 1 0 fl m (Ha m i us f (wm f).length) i (ms.set i ((wm f).length:Int))):=Hc (JK fl m us i ms f hv)
end
section
open Go.TM
def ogC(fl:List bp)(o:AV):List AV:=[.dv (.sl 11 (fl.map ar)),.dv .aw,.own 1 0 0 [],o,.dv .aw]
def ogF(fl:List bp)(m:IM Int)(o:AV):ad:=[(0,.cells (ogC fl o)),(1,.tree 0 0 (.omap bX (j4 m)))]
def arF(fl:List bp)(m:IM Int)(us:List (List Int))(ms:List Int)(o:AV):ad:=ogF fl m o++[(2,.cells [.ptr 0 0]),(3,.tree 0 0 (.aD 1 (us.map eS))),(4,.cells [.own 3 0 0 []]),(5,.tree 0 0 (.aD 1 (ms.map I))),(6,.cells [.own 5 0 0 []])]
def He(fl:List bp)(i:Nat):List Int:=(fl.take i).map (fun f=>((wm f).length:Int))++List.replicate (fl.length-i) 0
def Nx(ms:List Int)(j:Nat):List Nat:=(List.range j).filter fun i=>ms[i]? ==some 0
def JL(fl:List bp)(m:IM Int)(us:List (List Int))(ms:List Int)(ord:List Nat):ad:=arF fl m us ms (.own 7 0 0 [])++[(7,.tree 0 0 (.aD 1 (ord.map fun(i:Nat)=>I (i:Int))))]
structure abT(fl:List bp)(m:IM Int):Prop where
 len:fl.length<=1000
 rf:∀f∈fl,(wm f).length<=800
 ref:∀(i:Nat) (f:bp),fl[i]?=some f->∀id∈wm f,∃p:Nat,aU m id=some (p:Int)/\p<i
def ZX(s:List Nat×List Int)(u:Int):List Nat×List Int:=(if s.2.getD u.toNat 0-1=0 then s.1++[u.toNat]else s.1,s.2.set u.toNat (s.2.getD u.toNat 0-1))
def Vh(us:List (List Int))(s:List Nat×List Int):Nat->List Nat×List Int
 |0=>s
 |a+1=>match(Vh us s a).1[a]? with
  |some p=>(us.getD p []).foldl ZX (Vh us s a)
  |none=>Vh us s a
theorem RA{us:List (List Int)}{s:List Nat×List Int}{a p:Nat}{R:List Int}(h:(Vh us s a).1[a]?=some p)(hu:us.getD p []=R):Vh us s (a+1)=R.foldl ZX (Vh us s a):=by rw[Vh,h,<-hu]
def Ny(fl:List bp)(m:IM Int):List Nat:=(Vh (zJ m fl fl.length) (Nx (He fl fl.length) fl.length,He fl fl.length) fl.length).1
structure OrS where
 a:Nat
 ord:List Nat
 ms:List Int
theorem D1{ms:List Int}{n i:Nat}:i∈Nx ms n↔i<n/\ms[i]?=some 0:=by
 unfold Nx;simp
theorem kh0{fl:List bp}{m:IM Int}{ms:List Int}(hl:ms.length=fl.length)(hma:∀i,i<fl.length->ms[i]?=some (((jo m fl i).length:Nat):Int)):Kh m fl 0 [] (Nx ms fl.length) ms:=by
 refine⟨List.nodup_range.filter _,fun i hi=>(D1.1 hi).1,ad3 _,hl,fun i hi=>?_,fun i hi=>⟨fun h=>(D1.1 h).2,fun h=>D1.2 ⟨hi,h⟩⟩⟩
 rw[hma i hi,List.take_zero];simp
variable [bj]
theorem RD(fl:List bp)(m:IM Int)(h:abT fl m):aj Tryz.prog 78 [.ptr 0 0] 2 (ogF fl m (.dv .aw)) 0 [.dv (B true)] (ogF fl m (.dv (.sl 1 ((Ny fl m).map fun(i:Nat)=>I (i:Int))))):=by
 unfold Ny
 have hl:=h.len
 have lf:(fl.map ar).length=fl.length:=adO ..
 refine cO Tryz.func78 rfl (by kernel_rfl) ?_
 refine⟨.aw,⟨rf,tv⟩,by omega,by omega,show(((fl.map ar).length:Int))*24<=_ by omega,by omega,false,(fun h=>by cases h),?_⟩
 refine⟨I 0,⟨rf,tv⟩,by omega,by omega,show(((fl.map ar).length:Int))*8<=_ by omega,by omega,false,(fun h=>by cases h),?_⟩
 have row:=LG m fl h.rf
 refine⟨Nat,fun i=>⟨7,[(1,.ptr 2 0),(3,.ptr 4 0),(4,.ptr 6 0),(27,.dv (.sl 11 (fl.map ar))),(28,.dv (I (fl.map ar).length)),(29,.dv (I i))],arF fl m (zJ m fl i) (He fl i) (.dv .aw)⟩,fun i=>i<=fl.length,fun i=>fl.length-i,0,fun _=>rfl,?_,ad3 _,?_⟩
 ·have e1:(zJ m fl 0).map eS=List.replicate (fl.map ar).length .aw:=by rw[lf];simp[zJ,eS]
  have e2:(He fl 0).map I=List.replicate (fl.map ar).length (I 0):=by rw[lf];simp[He]
  exact jn rfl (by simp only[arF,e1,e2];rfl) rfl rfl
 intro i hi
 refine adN (fun h2=>?_) fun h2=>?_
 ·have ay:i<fl.length:=by have:=ad5 h2;omega
  obtain⟨f,hf⟩:∃f,fl[i]?=some f:=⟨_,ace ay⟩
  have hm:=adR hf
  have im:(fl.map ar)[(i:Int).toNat]?=some (ar f):=by rw[adQ];simp[hf]
  refine⟨ar f,fun _=>⟨by omega,im⟩,?_⟩
  have hz:(He fl i)[i]?=some 0:=by
   unfold He
   rw[List.getElem?_append_right (by simp;omega)]
   simp[show min i fl.length=i by omega,show 0<fl.length-i by omega]
  have hv:VOk m (zJ m fl i) i (He fl i) f:=⟨fun id kl=>by
   obtain⟨p,h1,h2⟩:=h.ref i f hf id kl
   exact⟨p,h1,by rw[tR];omega⟩,hz,by have:=h.rf f hm;omega,fun r hr=>by have:=row i (by omega) r hr;have:i*800<=1000*800:=aej _ (by omega);omega⟩
  have hs:=Hd fl m (zJ m fl i) i (He fl i) f hv
  have e1:Ha m i (zJ m fl i) f (wm f).length=zJ m fl (i+1):=by rw[Vg,zJ,hf]
  have e2:(He fl i).set i ((wm f).length:Int)=He fl (i+1):=by
   unfold He
   rw[List.set_append_right _ _ (by simp;omega),adY,hf]
   obtain⟨d,hd⟩:∃d,fl.length-i=d+1:=⟨fl.length-i-1,by omega⟩
   rw[hd,show fl.length-(i+1)=d by omega,List.replicate_succ]
   simp[show min i fl.length=i by omega]
  rw[e1,e2]at hs
  refine .inr (cl [2,4,7,6,0,3,5,1] hs (by kernel_rfl) rfl rfl ?_)
  exact⟨fun _=>by omega,i+1,jn rfl rfl rfl rfl,ay,mlt ay⟩
 obtain rfl:i=fl.length:=by have:=ad6 h2;omega
 have uz:=tR m fl fl.length
 have F2:=fun {q:Nat} (hq:q<fl.length)=>BZ m fl hq fl.length (aei _)
 have hml:(He fl fl.length).length=fl.length:=by simp[He]
 have hma:∀i,i<fl.length->(He fl fl.length)[i]?=some (((jo m fl i).length:Nat):Int):=fun i hi=>by
  unfold He jo
  simp[ace hi,BY]
 have tS:=row fl.length (aei _)
 generalize zJ m fl fl.length=us at*
 generalize He fl fl.length=ms at*
 have lm:(ms.map I).length=fl.length:=by rw[adO,hml]
 refine⟨Nat,fun j=>⟨8,[(1,.ptr 2 0),(3,.ptr 4 0),(4,.ptr 6 0),(38,.own 5 0 0 []),(39,.dv (I (ms.map I).length)),(40,.dv (I j))],JL fl m us ms (Nx ms j)⟩,fun j=>j<=fl.length,fun j=>fl.length-j,0,fun _=>rfl,?_,ad3 _,?_⟩
 ·refine⟨⟨rfl,rfl,rfl,rfl,rf,rf,tv⟩,?_,rfl,rfl⟩
  repeat' first|exact trivial|rfl|exact rf|exact⟨rfl,rfl,rfl,rfl,_,rfl⟩|exact⟨rfl,rfl,_,rfl⟩|refine adN ?_ ?_
 intro j hj
 refine adN (fun h2=>?_) fun h2=>?_
 ·have ay:j<fl.length:=by have:=ad5 h2;omega
  obtain⟨x,hx⟩:∃x,ms[j]?=some x:=⟨_,ace (by omega)⟩
  have ix:(ms.map I)[(j:Int).toNat]?=some (I x):=by rw[adQ];simp[hx]
  have zn:Nx ms (j+1)=Nx ms j++if x=0 then[j]else[]:=by
   unfold Nx
   rw[List.range_succ,List.filter_append]
   congr 1
   by_cases h0:x=0<;>simp[hx,h0]
  have zl:(Nx ms j).length<=j:=by unfold Nx;exact Nat.le_trans (List.length_filter_le _ _) (by simp)
  refine⟨fun _=>by omega,I x,fun _=>ix,?_⟩
  refine adN (fun h3=>?_) fun h3=>?_
  ·have h0:x=0:=beq_iff_eq.1 h3
   rw[if_pos h0]at zn
   refine .inl ⟨[I j],rfl,⟨rf,tv⟩,(by simp;rfl),?_⟩
   refine .inr ⟨[I j],bV.refl _,show(((Nx ms j).map _).length+1)*8<=_ by rw[adO];omega,show((Nx ms j).map _).length+1<=_ by rw[adO];omega,?_⟩
   exact⟨by kernel_rfl,fun _=>by omega,j+1,jn rfl (by simp only[zn,JL,ad7];rfl) rfl rfl,ay,mlt ay⟩
  ·have h0:¬x=0:=beq_eq_false_iff_ne.1 h3
   rw[if_neg h0,List.append_nil]at zn
   exact⟨fun _=>by omega,j+1,jn rfl (by simp only[zn];rfl) rfl rfl,ay,mlt ay⟩
 obtain rfl:j=fl.length:=by have:=ad6 h2;omega
 have EW:=kh0 hml hma
 generalize Nx ms fl.length=ord at*
 generalize hs0:(ord,ms)=s0 at*
 clear hma hi hj h2
 refine⟨OrS,fun z=>⟨8,[(1,.ptr 2 0),(3,.ptr 4 0),(4,.ptr 6 0),(9,.dv (I z.a))],JL fl m us z.ms z.ord⟩,fun z=>Kh m fl z.a [] z.ord z.ms/\Vh us s0 z.a=(z.ord,z.ms),fun z=>fl.length-z.a,⟨0,ord,ms⟩,fun _=>rfl,jn rfl rfl rfl rfl,⟨EW,hs0.symm⟩,?_⟩
 clear EW hml lm hs0 ord ms
 rintro⟨a,ord,ms⟩ ⟨hK,hI⟩
 simp only at hK hI
 have lo:(ord.map fun(i:Nat)=>I (i:Int)).length=ord.length:=adO ..
 have SZ:=hK.YT
 refine adN (fun h2=>?_) fun h2=>?_
 ·have ay:a<ord.length:=by have:=ad5 h2;simp only at this;omega
  obtain⟨p,hp⟩:∃p,ord[a]?=some p:=⟨_,ace ay⟩
  have A2:=hK.lt p (adR hp)
  have ip:(ord.map fun(i:Nat)=>I (i:Int))[(a:Int).toNat]?=some (I (p:Int)):=by rw[adQ];show Option.map _ ord[a]?=_;rw[hp];rfl
  have lu:(us.map eS).length=fl.length:=by rw[adO,uz]
  obtain⟨Au,wI⟩:=F2 A2
  obtain⟨row,hu⟩:∃row,us[p]?=some row:=⟨_,ace (by omega)⟩
  have hur:us.getD p []=row:=by rw[adT,hu];rfl
  rw[hur]at Au wI
  have N1:=RA (us:=us) (s:=s0) (a:=a) (p:=p) (by rw[hI];exact hp) hur
  rw[hI]at N1
  have iu:(us.map eS)[(p:Int).toNat]?=some (eS row):=by rw[adQ];show Option.map _ us[p]?=_;rw[hu];rfl
  have hrl:=tS _ (adR hu)
  refine⟨fun _=>⟨by simp only;omega,by simp only;omega⟩,I (p:Int),fun _=>ip,?_⟩
  refine⟨fun _=>by omega,eS row,fun _=>iu,?_⟩
  cases row with
  |nil=>
   refine⟨by kernel_rfl,?_⟩
   refine⟨Unit,fun _=>⟨8,[(1,.ptr 2 0),(3,.ptr 4 0),(4,.ptr 6 0),(9,.dv (I a)),(76,.dv .aw),(77,.dv (I 0)),(78,.dv (I 0))],JL fl m us ms ord⟩,fun _=>True,fun _=>0,(),fun _=>rfl,jn rfl rfl rfl rfl,tv,?_⟩
   intro _ _
   refine adN (fun h=>by cases h) fun _=>?_
   exact⟨fun _=>by omega,⟨a+1,ord,ms⟩,jn rfl rfl rfl rfl,⟨hK.next hp wI,N1⟩,by simp only;omega⟩
  |cons c row=>
   refine⟨eS (c::row),fun _=>iu,?_⟩
   refine⟨by kernel_rfl,?_⟩
   generalize hR:c::row=R at*
   have eR:eS R=.aD 1 (R.map I):=by subst hR;rfl
   rw[eR]at iu
   have lR:(R.map I).length=R.length:=adO ..
   refine⟨OrS,fun z=>⟨8,[(1,.ptr 2 0),(3,.ptr 4 0),(4,.ptr 6 0),(9,.dv (I a)),(76,.own 3 0 0 [.el p 0]),(77,.dv (I (R.map I).length)),(78,.dv (I z.a))],JL fl m us z.ms z.ord⟩,fun z=>z.a<=R.length/\ord[a]?=z.ord[a]?/\Kh m fl a (R.take z.a) z.ord z.ms/\(R.take z.a).foldl ZX (ord,ms)=(z.ord,z.ms),fun z=>R.length-z.a,⟨0,ord,ms⟩,fun _=>rfl,?_,⟨ad3 _,rfl,hK,rfl⟩,?_⟩
   ·subst hR;exact jn rfl rfl rfl rfl
   clear hK lo SZ ay h2
   clear hI
   generalize hz:(ord,ms)=sz at*
   clear hz
   rintro⟨k,Hf,ms⟩ ⟨hk,ho,hK,hI⟩
   simp only at hk ho hK hI
   rw[hp]at ho
   have SZ:=hK.YT
   have lm:(ms.map I).length=fl.length:=by rw[adO,hK.len]
   refine adN (fun h5=>?_) fun h5=>?_
   ·have RE:k<R.length:=by have:=ad5 h5;simp only at this;omega
    have hxr:=ace RE
    obtain⟨u,hu1,T0⟩:=Au _ (ael RE)
    rw[hu1]at hxr
    have hx:=ace (show u<ms.length by rw[hK.len];exact T0)
    generalize ms[u]'(show u<ms.length by rw[hK.len];exact T0)=x at hx
    have ak:=hK.step ho.symm wI ⟨R.drop (k+1),by rw[<-(adP.1 hxr).2,List.getElem_cons_drop,List.take_append_drop]⟩ T0 hx
    have ix:(ms.map I)[(u:Int).toNat]?=some (I x):=by rw[adQ];show Option.map _ ms[u]?=_;rw[hx];rfl
    have ir:(R.map I)[(k:Int).toNat]?=some (I (u:Int)):=by rw[adQ];show Option.map _ R[k]?=_;rw[hxr];rfl
    have rX:x<=800:=by
     have h1:=hK.cnt u T0
     rw[hx]at h1
     injection h1 with h1
     have h3:(jo m fl u).countP (fun p=>decide (p∉Hf.take a))<=(jo m fl u).length:=List.countP_le_length
     have h4:(jo m fl u).length<=800:=by
      have hf:=ace T0
      unfold jo;rw[hf];show((wm _).map _).length<=_
      rw[adO];exact h.rf _ (ael T0)
     omega
    have Wm:=ak.1
    have is2:((ms.map I).set (u:Int).toNat (I (x-1)))[(u:Int).toNat]?=some (I (x-1)):=List.getElem?_set_self (by rw[lm];exact T0)
    have ls2:((ms.map I).set (u:Int).toNat (I (x-1))).length=fl.length:=by rw[List.length_set,lm]
    refine⟨_,fun _=>iu,?_⟩
    refine⟨fun _=>⟨by simp only;omega,by simp only;omega⟩,_,fun _=>iu,?_⟩
    refine⟨I (u:Int),fun _=>ir,?_⟩
    refine⟨fun _=>⟨by omega,by simp only;omega⟩,I x,fun _=>ix,?_⟩
    refine⟨fun _=>by omega,?_⟩
    refine⟨fun _=>⟨by omega,by simp only;omega⟩,[I (x-1)],⟨rf,tv⟩,_,ix,?_⟩
    refine⟨fun _=>⟨by omega,by simp only;omega⟩,I (x-1),fun _=>is2,?_⟩
    have em:(ms.set u (x-1)).map I=(ms.map I).set (u:Int).toNat (I (x-1)):=List.map_set ..
    have ht:R.take (k+1)=R.take k++[(u:Int)]:=by rw[adY,hxr];rfl
    have Nz:∀l,some p=(Hf++l)[a]?:=fun l=>by
     rw[List.getElem?_append_left ((adP.1 ho.symm).1)];exact ho
    have mz:=ak.2
    rw[<-ht]at mz
    have ZY:(R.take (k+1)).foldl ZX sz=ZX (Hf,ms) (u:Int):=by rw[ht,aee,hI];rfl
    have hgx:ms.getD (u:Int).toNat 0=x:=by rw[adT];show(ms[u]?).getD 0=x;rw[hx];rfl
    unfold ZX at ZY
    simp only[hgx]at ZY
    refine adN (fun h6=>?_) fun h6=>?_
    ·have h0:x-1=0:=beq_iff_eq.1 h6
     rw[if_pos h0]at mz ZY
     refine .inl ⟨[I (u:Int)],rfl,⟨rf,tv⟩,(by simp;rfl),?_⟩
     refine .inr ⟨[I (u:Int)],bV.refl _,show((Hf.map _).length+1)*8<=_ by rw[adO];omega,show(Hf.map _).length+1<=_ by rw[adO];omega,?_⟩
     refine⟨by kernel_rfl,fun _=>⟨by simp only;omega,by simp only;omega⟩,⟨k+1,Hf++[u],ms.set u (x-1)⟩,jn rfl (by simp only[JL,arF,em,ad7];rfl) rfl rfl,⟨RE,hp.trans (Nz _),mz,ZY⟩,by simp only;omega⟩
    ·have h0:¬x-1=0:=beq_eq_false_iff_ne.1 h6
     rw[if_neg h0]at mz ZY
     exact⟨fun _=>⟨by simp only;omega,by simp only;omega⟩,⟨k+1,Hf,ms.set u (x-1)⟩,jn rfl (by simp only[JL,arF,em];rfl) rfl rfl,⟨RE,hp.trans ho,mz,ZY⟩,by simp only;omega⟩
   ·obtain rfl:k=R.length:=by have:=ad6 h5;simp only at this;omega
    rw[ad4]at hK hI
    have acX:=(adP.1 ho.symm).1
    exact⟨fun _=>by omega,⟨a+1,Hf,ms⟩,jn rfl rfl rfl rfl,⟨hK.next ho.symm wI,N1.trans hI⟩,by simp only;omega⟩
 ·have hle:=hK.le
  obtain rfl:a=ord.length:=by have:=ad6 h2;simp only at this;omega
  have bK:=hK.all fun i p hp=>by
   unfold jo at hp
   split at hp
   ·rename_i f hf
    obtain⟨id,kl,rfl⟩:=aeg.1 hp
    obtain⟨q,hq1,yw⟩:=h.ref i f hf id kl
    unfold H0;rw[hq1];simpa using yw
   ·cases hp
  refine⟨by kernel_rfl,?_⟩
  rw[<-bK,hI]
  refine⟨_,_,⟨rfl,rfl⟩,by kernel_rfl,⟨DV.Le.of_eq (congrArg DV.bool (beq_iff_eq.2 ?_)),tv⟩,?_⟩
  ·show(((ord.map fun(i:Nat)=>I (i:Int)).length:Nat):Int)=(((fl.map ar).length:Nat):Int)
   rw[lo,lf,bK]
  ·exact⟨⟨rf,rf,rfl,DV.Le.of_eq (by show DV.sl 1 (uX _)=_;rw[dV (fun _=>rfl)]),rf,tv⟩,⟨rfl,rfl⟩,tv⟩
end
end Go.Proofs.YtfpebgpgabjieaaGreatDoor
