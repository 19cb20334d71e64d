import Derived.Test.YtmojfblpbcficaaGreatDoorCM40
import Derived.Test.YtmojfblpbcficaaGreatDoorCM42
import Derived.Test.YtmojfblpbcficaaGreatDoorCM41
set_option linter.all false
open Go.TM.oA Go.TM.oB Go.TM.oC Go.TM.oD Go.TM.oE
namespace Go.Proofs.YtmojfblpbcficaaGreatDoor
set_option maxRecDepth 100000
set_option maxHeartbeats 8000000
section
open Go.TM
def Jb(R:RL)(n k:List Int)(i:Nat):cM:=if pick k i 5=0 then r7 R n (6*i)else v8 R n (6*i)
variable [bp]
theorem Xq{P:PL}{R:RL}(h:Inv P R)(n k:List Int)(i:Nat):fQ R (Jb R n k i):=by
 unfold Jb
 split
 ·exact QP h.fI h.dx n _
 ·exact TX (TW R n _ h.fI.sh)
inductive FO(P:PL)(R:RL)(s:cM):PL->RL->Prop
 |no (e:Int):ao Tryz.prog 15 [.ptr 0 0,cF (aO s)] 7 (ki P) 0 [.dv (I 0),.dv (I e)] (ki P)->(ao Tryz.prog 16 [.ptr 0 0,cF (aO s)] 4 (dr R) 0 [.dv (I 0),.dv (I e)] (dr R)\/ao Tryz.prog 16 [.ptr 0 0,cF (aO s)] 4 (dr R) 5 [.dv (I 0),.dv (I e)] (rlY R))->FO P R s P R
 |yes (a:Int) (P':PL) (R':RL):ao Tryz.prog 15 [.ptr 0 0,cF (aO s)] 7 (ki P) 0 [.dv (I a),.dv (I 0)] (zm 1 1 P')->ao Tryz.prog 16 [.ptr 0 0,cF (aO s)] 4 (dr R) 5 [.dv (I a),.dv (I 0)] (ju 1 1 1 R')->FO P R s P' R'
theorem TZ{P:PL}{R:RL}{i:Nat}(h:Inv P R)(lU:R.sp.length<=i)(hi:i<40){s:cM}(hs:fQ R s):∃x:PL×RL,Inv x.1 x.2/\x.2.sp.length<=i+1/\(x.2=R\/r6 R s=0/\x.2=Nj R s)/\FO P R s x.1 x.2:=by
 rcases qA xe h (by omega) hs with⟨_,h1,h2⟩|⟨h0,P',hI,h1,h2⟩
 ·exact⟨(P,R),h,Nat.le_succ_of_le lU,.inl rfl,.no _ h1 h2⟩
 ·exact⟨(P',Nj R s),hI,by show(R.sp++[_]).length<=_;rw[acw];show _+1<=_;omega,.inr ⟨h0,rfl⟩,.yes _ _ _ h1 h2⟩
end
section
open Go.TM
structure LF(J:RL->Prop)(P:PL)(R:RL)(i:Nat):Prop where
 inv:Inv P R
 sp:R.sp.length<=i
 j:J R
variable [bp]
theorem MR{J:RL->Prop}{A:cM->Prop}(hJ:∀P R s,Inv P R->R.sp.length<40->fQ R s->A s->r6 R s=0->J R->J (Nj R s)){P:PL}{R:RL}{i:Nat}(h:LF J P R i)(hi:i<40){s:cM}(hs:fQ R s)(ha:A s):∃x:PL×RL,LF J x.1 x.2 (i+1)/\FO P R s x.1 x.2:=by
 obtain⟨x,h1,h2,h3,h4⟩:=TZ h.inv h.sp hi hs
 have:=h.sp
 exact⟨x,⟨h1,h2,h3.elim (fun e=>e▸h.j) fun⟨h0,e⟩=>e▸hJ P R s h.inv (by omega) hs ha h0 h.j⟩,h4⟩
theorem GC{J:RL->Prop}{A:cM->Prop}(hJ:∀P R s,Inv P R->R.sp.length<40->fQ R s->A s->r6 R s=0->J R->J (Nj R s)){P:PL}{R:RL}(n k:List Int)(hA:∀R i,A (Jb R n k i))(h:LF J P R 0):∀j:Nat,j<=40->∃f:Nat->PL×RL,f 0=(P,R)/\(∀i≤j,LF J (f i).1 (f i).2 i)/\∀i<j,FO (f i).1 (f i).2 (Jb (f i).2 n k i) (f (i+1)).1 (f (i+1)).2
 |0,_=>⟨fun _=>(P,R),rfl,fun i hi=>(by obtain rfl:i=0:=(by omega);exact h),fun i hi=>absurd hi (Nat.not_lt_zero i)⟩
 |j+1,hj=>by
  obtain⟨f,h0,h1,h2⟩:=GC hJ n k hA h j (by omega)
  obtain⟨x,h3,h4⟩:=MR hJ (h1 j (acN j)) (by omega) (Xq (h1 j (acN j)).inv n k j) (hA _ _)
  refine⟨fun i=>if i<=j then f i else x,by simp[h0],fun i hi=>?_,fun i hi=>?_⟩
  ·by_cases BT:i<=j
   ·simp only[if_pos BT];exact h1 i BT
   ·obtain rfl:i=j+1:=by omega
    simp only[if_neg BT];exact h3
  ·have BT:i<=j:=by omega
   simp only[if_pos BT]
   by_cases tL:i+1<=j
   ·simp only[if_pos tL];exact h2 i (by omega)
   ·obtain rfl:i=j:=by omega
    simp only[if_neg tL];exact h4
end
section
open Go.TM
def tN(j:Int)(f:gC):Int:=if f.it=j then(if f.fr=0 then f.n else 0)-(if f.to=0 then f.n else 0)else 0
def T0(k:Int):Prop:=k=2\/k=3\/k=8
structure Cons(R:RL):Prop where
 sum:∀j,bG R.st j=(R.fl.map (tN j)).sum
 ins:∀f∈R.fl,T0 f.kind->f.fr≠0/\f.to≠0
theorem T1{R:RL}{s:cM}{m:di}(h:(bl R s m).1=0):∃tk md,(bl R s m).2.fl=R.fl++[eG R s m tk md]:=by
 unfold bl at h⊢
 split
 ·rename_i h1;rw[if_pos h1]at h;exact absurd h h1
 ·rename_i h1
  rw[if_neg h1]at h
  split
  ·rename_i h2;rw[if_pos h2]at h;cases h
  ·exact⟨_,_,rfl⟩
theorem BK{R:RL}{s:cM}{m:di}(hC:Cons R)(h0:(bl R s m).1=0)(ht:∀j,bG (bl R s m).2.st j=if m.it=j then bG R.st j+(if m.fr=0 then m.n else 0)-(if m.to=0 then m.n else 0)else bG R.st j)(he:T0 s.kind->m.fr≠0/\m.to≠0):Cons (bl R s m).2:=by
 obtain⟨tk,md,hf⟩:=T1 h0
 refine⟨fun j=>?_,fun f Km=>?_⟩
 ·rw[ht j,hf,acC,List.sum_append,<-hC.sum j]
  simp only[List.map_cons,List.map_nil,List.sum_cons,List.sum_nil]
  show _=bG R.st j+((if m.it=j then(if m.fr=0 then m.n else 0)-(if m.to=0 then m.n else 0)else 0)+0)
  split<;>omega
 ·rw[hf]at Km
  rcases acr.1 Km with Km|Km
  ·exact hC.ins f Km
  ·rw[aco]at Km;subst Km;exact he
theorem Xr{now:Int}{s:cM}(h:jv now s=true)(hk:T0 s.kind):∀m∈s.mv,m.fr≠0/\m.to≠0:=fun m hm=>by
 unfold jv at h
 rw[acU]at h
 have h2:=h.2
 have e4:¬s.kind=4:=by unfold T0 at hk;omega
 have e10:¬s.kind=10:=by unfold T0 at hk;omega
 rw[acH e4,acH e10]at h2
 simp only[cond_false,acU,acI]at h2
 have:=h2.1 m hm
 unfold mW at this
 unfold T0 at hk
 rw[if_neg (by omega),if_neg (by omega),if_neg (by omega),if_neg (by omega),acS]at this
 omega
theorem KU{R:RL}{s:cM}(hG:Good R)(hD:Dx R)(hC:Cons R)(hl:R.fl.length+s.mv.length<=160)(hm:uV R s)(he:T0 s.kind->∀m∈s.mv,m.fr≠0/\m.to≠0):∀i,(eJ R s i).1=0->Cons (eJ R s i).2
 |0,_=>hC
 |i+1,h=>by
  have h0:=qz (Nat.le_succ i) h
  have ih:=KU hG hD hC hl hm he i h0
  obtain⟨⟨h1,h3⟩,h2⟩:=KO hG hD hl hm i
  cases hx:s.mv[i]? with
  |none=>
   have:eJ R s (i+1)=eJ R s i:=by unfold eJ;rw[acs,hx];simp
   rw[this];exact ih
  |some m=>
   have hi:=(aci.1 hx).1
   have Cp:=ack hx
   rw[lI hx h0]at h⊢
   rcases QK hm hx with my|⟨rfl,x,my⟩
   ·exact BK ih h (C7 h1 (by omega) (by rw[(uW R s i).2];exact my) h).2.2 fun hk=>he hk m Cp
   ·exact BK hC h (KN (x:=x) hG hD (by omega) my h).1.2.2 fun hk=>he hk m Cp
theorem MS{R:RL}{s:cM}(hG:Good R)(hD:Dx R)(hC:Cons R)(hl:R.fl.length+s.mv.length<=160)(hs:fQ R s)(h0:r6 R s=0):Cons (Nj R s):=by
 unfold r6 at h0
 cases hp:jv (eX R.sp) s with
 |false=>rw[hp]at h0;cases h0
 |true=>
  rw[hp]at h0
  have:=KU hG hD hC hl (hs.pos hp).1 (Xr hp) s.mv.length h0
  exact⟨this.sum,this.ins⟩
def KV(j:Int)(h:Ky×Int):Int:=if h.1.2=j then h.2 else 0
theorem Q4{l r:List Int}(h:l.Perm r):l.sum=r.sum:=by
 induction h with
 |nil=>rfl
 |cons x _ ih=>rw[List.sum_cons,List.sum_cons,ih]
 |swap x y l=>simp only[List.sum_cons];omega
 |trans _ _ i1 i2=>exact i1.trans i2
theorem Q5(m:SM)(j:Int):((pP m).map (KV j)).sum=bG m j:=by
 rw[Q4 ((pU m).2.map (KV j))]
 unfold bG
 induction m with
 |nil=>rfl
 |cons p m ih=>
  rw[List.filter_cons,List.map_cons,List.sum_cons]
  by_cases h:bZ p.2≠0
  ·rw[acG h,if_pos rfl,List.map_cons,List.map_cons,List.sum_cons,ih];rfl
  ·rw[acH h,if_neg (by simp),ih]
   have:bZ p.2=0:=Decidable.byContradiction h
   unfold Al;rw[this];split<;>omega
end
section
open Go.TM
def sq(g:Int->Int):List DV:=[I (g 0),I (g 1),I (g 2),I (g 3),I (g 4)]
theorem Jc(g:Int->Int){k:Int}(h:0<=k/\k<5):(sq g)[k.toNat]?=some (I (g k)):=by
 have:k=0\/k=1\/k=2\/k=3\/k=4:=by omega
 rcases this with rfl|rfl|rfl|rfl|rfl<;>rfl
theorem KW(g:Int->Int){k:Int}(v:Int)(h:0<=k/\k<5):(sq g).set k.toNat (I v)=sq fun j=>if j=k then v else g j:=by
 have:k=0\/k=1\/k=2\/k=3\/k=4:=by omega
 rcases this with rfl|rfl|rfl|rfl|rfl<;>simp[sq]
theorem nc{f g:Int->Int}(h:∀j,f j=g j):sq f=sq g:=by rw[funext h]
def qB{α:Type}(c:Int->α->Int)(l:List α)(i:Nat)(j:Int):Int:=((l.take i).map (c j)).sum
theorem zv{α:Type}{c:Int->α->Int}{l:List α}{i:Nat}{x:α}(h:l[i]?=some x)(j:Int):qB c l (i+1) j=qB c l i j+c j x:=by
 unfold qB;rw[acs,h,acC,List.sum_append];simp
theorem KX{α:Type}{c:Int->α->Int}{l:List α}(j:Int):qB c l l.length j=(l.map (c j)).sum:=by unfold qB;rw[acz]
theorem Jd{α:Type}{c:Int->α->Int}{l:List α}{b:Int}(h:∀x∈l,∀j,-b<=c j x/\c j x<=b)(j:Int):∀i:Nat,i<=l.length->-(i*b)<=qB c l i j/\qB c l i j<=i*b
 |0,_=>by simp[qB]
 |i+1,hi=>by
  have ih:=Jd h j i (by omega)
  have hx:l[i]?=some l[i]:=aaS (by omega)
  have:=h _ (ack hx) j
  rw[zv hx,Int.natCast_succ,Int.add_mul,Int.one_mul]
  omega
theorem Xs{f:gC}(h:1<=f.n/\f.n<=1099511627776)(j:Int):-1099511627776<=tN j f/\tN j f<=1099511627776:=by
 unfold tN;repeat' split
 all_goals omega
theorem T2{m:SM}(hk:∀p∈m,0<=p.1.2/\p.1.2<5):∀h∈pP m,0<=h.1.2/\h.1.2<5:=fun h hh=>by
 have:=(pU m).2.mem_iff.1 hh
 rw[acL]at this
 obtain⟨p,hp,rfl⟩:=this
 exact hk p (List.mem_filter.1 hp).1
theorem Xt{m:SM}:∀h∈pP m,0<=h.2/\h.2<=4503599627370496:=fun h hh=>by
 have:=(pU m).2.mem_iff.1 hh
 rw[acL]at this
 obtain⟨p,hp,rfl⟩:=this
 exact CZ _
theorem Q6(m:SM):(pP m).length<=m.length:=by
 rw[(pU m).2.length_eq,ach];exact List.length_filter_le ..
def lfK(P:PL)(R:RL):ae:=[(1,.tree 0 0 (.omap eh (oH P.st))),(2,.tree 0 0 (.omap cy (nv P.b7))),(3,.tree 0 0 (.omap cy (mZ P.imp))),(4,.tree 0 0 (.omap cy (mZ P.ret))),(5,.cells (.dv (I P.sh)::eV iP++[.own 1 0 0 [],.own 2 0 0 [],.own 8 0 0 [],.own 9 0 0 [],.own 3 0 0 [],.own 4 0 0 []])),(7,.cells (.dv (I R.sh)::eV iP++[.own 10 0 0 [],.own 11 0 0 [],.own 12 0 0 []])),(8,.tree 0 0 (.aC 7 (P.sp.map aO))),(9,.tree 0 0 (.aC 11 (P.fl.map aM))),(10,.tree 0 0 (.aC 3 (R.st.map iA))),(11,.tree 0 0 (.aC 11 (R.fl.map aM))),(12,.tree 0 0 (.aC 7 (R.sp.map aO)))]
end
section
open Go.TM
variable [bp]
theorem Je(R:RL)(n:List Int)(p:Int)(hp:0<=p/\p<=1000)(lU:R.sp.length<=40)(lT:R.fl.length<=160)(ak:R.st.length<=160)(PW:∀f∈R.fl,1<=f.n/\f.n<=1099511627776)(hs:∀q∈R.st,q.2.length<=160/\∀y∈q.2,1<=y.n/\y.n<=1099511627776/\0<=y.a/\y.a<=1099511627776):ao Tryz.prog 17 [.ptr 0 0,.dv (Ints n),.dv (I p)] 4 (dr R) 0 [cF (aO (r7 R n p))] (dr R):=by
 have cU:=fun(l:List Int) (i:Int) {m:Int} (hm:1<=m)=>kz l i m hm
 have lp:(R.sp.map aO).length=R.sp.length:=ach ..
 have lf:(R.fl.map aM).length=R.fl.length:=ach ..
 have bt:0<=(R.sp.length:Int).tdiv 2/\(R.sp.length:Int).tdiv 2<=900000:=by rw[Int.tdiv_eq_ediv_of_nonneg (by omega)];omega
 unfold r7
 rw[<-lp]at bt⊢
 refine cO Tryz.func17 rfl (by kernel_rfl) ?_
 refine⟨fun _ h=>(by cases h),fun _=>by omega,?_⟩
 refine .inl ⟨_,fun _=>(aT n p 3 (by omega) (by omega)).ok,?_⟩
 refine acg (fun h=>?_) fun h=>?_
 ·have hc:pick n p 3=0:=beq_iff_eq.1 h
  rw[if_pos hc]
  refine⟨Nat,fun i=>⟨6,[(0,.ptr 0 0),(1,.dv (Ints n)),(2,.dv (I p)),(6,.ptr 4 0),(7,.ptr 5 0),(8,.dv (I i))],dr R++[(4,.cells (eV (nth ly 42).zero)),(5,.cells (eV (aO ⟨0,9,9,((R.sp.map aO).length:Int).tdiv 2,-1,0,D6 R.fl n p i⟩).cells))]⟩,fun i=>i<=R.fl.length,fun i=>R.fl.length-i,0,fun _=>rfl,?_,acy _,?_⟩
  ·refine⟨⟨rfl,rf,rf,rfl,rfl,rf,tv⟩,?_,rfl,rfl⟩
   repeat' first|exact trivial|rfl|exact rf|exact DV.aK 5|refine acg ?_ ?_
  intro i hi
  refine acg (fun h=>?_) fun h=>?_
  ·have aw:i<R.fl.length:=by have:=acA h;omega
   obtain⟨f,hf⟩:∃f,R.fl[i]?=some f:=⟨_,aaS aw⟩
   have hm:=ack hf
   have im:(R.fl.map aM)[(i:Int).toNat]?=some (aM f):=by rw[acj];simp[hf]
   refine⟨fun _=>by omega,aM f,fun _=>im,?_⟩
   have hb:=PW f hm
   repeat refine gG ?_
   refine⟨fun _=>by omega,?_⟩
   repeat refine gG ?_
   refine⟨fun _ h=>(by cases h),?_⟩
   have b4:-4<(i:Int).tmod 4/\(i:Int).tmod 4<4:=⟨Int.lt_tmod_of_pos _ (by omega),Int.tmod_lt_of_pos _ (by omega)⟩
   repeat refine gG ?_
   refine⟨fun _=>by omega,?_⟩
   repeat refine gG ?_
   refine .inl ⟨_,fun _=>(aT n (p+1+(i:Int).tmod 4) 2 (by omega) (by omega)).ok,?_⟩
   repeat refine gG ?_
   refine acg (fun hc=>?_) fun hc=>?_
   ·have e:=aaq hf hc
    have q2:=cU n (p+2) hb.1
    have q3:=cU n (p+3) (m:=f.n-pick n (p+2) f.n) (by omega)
    have q4:=cU n (p+4) (m:=4) (by omega)
    refine⟨fun _=>by omega,?_⟩
    refine .inl ⟨_,fun _=>(aT n (p+2) f.n (by omega) (by omega)).ok,?_⟩
    refine⟨fun _=>by omega,fun _=>by omega,?_⟩
    refine .inl ⟨_,fun _=>(aT n (p+3) (f.n-pick n (p+2) f.n) (by omega) (by omega)).ok,?_⟩
    refine⟨fun _=>by omega,fun _=>by omega,?_⟩
    refine .inl ⟨_,fun _=>(aT n (p+4) 4 (by omega) (by omega)).ok,?_⟩
    refine⟨fun _=>by omega,?_⟩
    refine .inl ⟨[az ⟨f.id,pick n (p+2) f.n,1+pick n (p+3) (f.n-pick n (p+2) f.n)⟩],rfl,⟨rf,rf,rf,tv⟩,(by simp;rfl),?_⟩
    refine .inl ⟨[aq (MJ f n p)],rfl,⟨rf,rf,rf,rf,rf,tv⟩,(by simp;rfl),?_⟩
    refine⟨by kernel_rfl,fun _=>by omega,i+1,jn rfl (by simp only[e];rfl) rfl rfl,aw,mlt aw⟩
   ·have e:=aar hf hc
    exact⟨fun _=>by omega,i+1,jn rfl (by simp only[e];rfl) rfl rfl,aw,mlt aw⟩
  ·obtain rfl:i=R.fl.length:=by have:=acB h;omega
   exact ext (by kernel_rfl) rfl rfl
 ·have hc:pick n p 3≠0:=beq_eq_false_iff_ne.1 h
  rw[if_neg hc]
  have ls:(R.st.map iA).length=R.st.length:=ach ..
  refine acg (fun h=>?_) fun h=>?_
  ·have hz:R.st=[]:=by have:=beq_iff_eq.1 h;exact List.length_eq_zero_iff.1 (by omega)
   have e:Va R n p=[]:=by unfold Va;rw[hz];rfl
   rw[e]
   exact⟨_,_,⟨rfl,rfl⟩,by kernel_rfl,⟨⟨rf,rf,rf,rf,rf,rf,DV.aK 5,tv⟩,tv⟩,aX (k:=dr R) rfl⟩
  have hn:1<=R.st.length:=by have:=beq_eq_false_iff_ne.1 h;omega
  have b1:=cU n (p+1) (m:=R.st.length) (by omega)
  obtain⟨⟨ky,l⟩,hq⟩:∃q,R.st[(pick n (p+1) R.st.length).toNat]?=some q:=⟨_,aaS (by omega)⟩
  have iq:(R.st.map iA)[(pick n (p+1) R.st.length).toNat]?=some (iA (ky,l)):=by rw[acj,hq];rfl
  obtain⟨hl,hy⟩:=hs _ (ack hq)
  simp only at hl hy
  have e0:Va R n p=match l[(pick n (p+2) l.length).toNat]? with
   |none=>[]
   |some y=>[wE ky y n p]:=by unfold Va;rw[hq];rfl
  rw[<-ls]at b1 iq
  refine⟨fun _=>by omega,?_⟩
  refine .inl ⟨_,fun _=>(aT n (p+1) (R.st.map iA).length (by omega) (by omega)).ok,?_⟩
  refine⟨fun _=>by omega,iA (ky,l),fun _=>iq,?_⟩
  refine⟨by kernel_rfl,?_⟩
  have ll:(l.map az).length=l.length:=ach ..
  refine acg (fun h=>?_) fun h=>?_
  ·have hz:l=[]:=by have:=beq_iff_eq.1 h;exact List.length_eq_zero_iff.1 (by simp only at this;omega)
   have e:Va R n p=[]:=by rw[e0,hz];rfl
   rw[e]
   exact⟨_,_,⟨rfl,rfl⟩,by kernel_rfl,⟨⟨rf,rf,rf,rf,rf,rf,DV.aK 5,tv⟩,tv⟩,aX (k:=dr R) rfl⟩
  have G5:1<=l.length:=by have:=beq_eq_false_iff_ne.1 h;simp only at this;omega
  have b2:=cU n (p+2) (m:=l.length) (by omega)
  obtain⟨y,RJ⟩:∃y,l[(pick n (p+2) l.length).toNat]?=some y:=⟨_,aaS (by omega)⟩
  have iy:(l.map az)[(pick n (p+2) l.length).toNat]?=some (az y):=by rw[acj,RJ];rfl
  have e:Va R n p=[wE ky y n p]:=by rw[e0,RJ]
  have hb:=hy y (ack RJ)
  rw[e]
  rw[<-ll]at b2 iy
  refine⟨fun _=>by omega,?_⟩
  refine .inl ⟨_,fun _=>(aT n (p+2) (l.map az).length (by omega) (by omega)).ok,?_⟩
  refine⟨az y,fun _=>⟨by omega,iy⟩,?_⟩
  refine⟨by kernel_rfl,?_⟩
  have q3:=cU n (p+3) hb.1
  have q4:=cU n (p+4) (m:=y.n-pick n (p+3) y.n) (by omega)
  have q5:=cU n (p+5) (m:=4) (by omega)
  refine⟨fun _=>by omega,?_⟩
  refine .inl ⟨_,fun _=>(aT n (p+3) y.n (by omega) (by omega)).ok,?_⟩
  refine⟨fun _=>by omega,fun _=>by omega,?_⟩
  refine .inl ⟨_,fun _=>(aT n (p+4) (y.n-pick n (p+3) y.n) (by omega) (by omega)).ok,?_⟩
  refine⟨fun _=>by omega,fun _=>by omega,?_⟩
  refine .inl ⟨_,fun _=>(aT n (p+5) 4 (by omega) (by omega)).ok,?_⟩
  refine⟨fun _=>by omega,?_⟩
  refine .inl ⟨[az ⟨y.f,y.a+pick n (p+3) y.n,1+pick n (p+4) (y.n-pick n (p+3) y.n)⟩],rfl,⟨rf,rf,rf,tv⟩,(by simp;rfl),?_⟩
  refine .inr (.inl ⟨[aq ⟨ky.1,pick n (p+5) 4,ky.2,1+pick n (p+4) (y.n-pick n (p+3) y.n),[⟨y.f,y.a+pick n (p+3) y.n,1+pick n (p+4) (y.n-pick n (p+3) y.n)⟩]⟩],rfl,⟨rf,rf,rf,rf,rf,tv⟩,(by simp;rfl),?_⟩)
  refine⟨by kernel_rfl,?_⟩
  refine⟨fun _=>⟨by omega,by simp⟩,_,fun _=>rfl,?_⟩
  refine⟨by kernel_rfl,?_⟩
  refine acg (fun h=>?_) fun h=>?_
  ·have h:pick n (p+5) 4=ky.1:=beq_iff_eq.1 h
   have e2:wE ky y n p=⟨ky.1,0,ky.2,1+pick n (p+4) (y.n-pick n (p+3) y.n),[⟨y.f,y.a+pick n (p+3) y.n,1+pick n (p+4) (y.n-pick n (p+3) y.n)⟩]⟩:=by unfold wE;rw[if_pos h]
   rw[e2]
   refine⟨fun _=>⟨by omega,by simp⟩,[I 0],⟨rf,tv⟩,_,rfl,?_⟩
   exact⟨_,_,⟨rfl,rfl⟩,by kernel_rfl,⟨⟨rf,rf,rf,rf,rf,rf,rf,tv⟩,tv⟩,aX (k:=dr R) rfl⟩
  ·have e2:wE ky y n p=⟨ky.1,pick n (p+5) 4,ky.2,1+pick n (p+4) (y.n-pick n (p+3) y.n),[⟨y.f,y.a+pick n (p+3) y.n,1+pick n (p+4) (y.n-pick n (p+3) y.n)⟩]⟩:=by unfold wE;rw[if_neg (beq_eq_false_iff_ne.1 h)]
   rw[e2]
   exact⟨_,_,⟨rfl,rfl⟩,by kernel_rfl,⟨⟨rf,rf,rf,rf,rf,rf,rf,tv⟩,tv⟩,aX (k:=dr R) rfl⟩
end
section
open Go.TM
variable [bp]
theorem Xu{P:PL}{R:RL}(h:Inv P R)(n:List Int)(p:Int)(hp:0<=p/\p<=1000):ao Tryz.prog 17 [.ptr 0 0,.dv (Ints n),.dv (I p)] 4 (dr R) 0 [cF (aO (r7 R n p))] (dr R):=
 Je R n p hp h.fI.sp h.fI.fl (by have:=h.fI.st;have:=h.fI.fl;omega) (fun f hf=>(h.dx.fn f hf).1) fun q hq=>⟨by have:=(h.fI.pL q hq).2;have:=h.fI.fl;omega,fun y hy=>by have:=ai.1 ((h.fI.pL q hq).1 y hy);omega⟩
end
section
open Go.TM
variable [bp]
theorem GD{J:RL->Prop}{A:cM->Prop}(h0:J ⟨0,[],[],[]⟩)(hJ:∀P R s,Inv P R->R.sp.length<40->fQ R s->A s->r6 R s=0->J R->J (Nj R s))(n k:List Int)(hA:∀R i,A (Jb R n k i)):∃P R,LF J P R 16/\ao Tryz.prog 8 [.dv (Ints n),.dv (Ints k)] 0 [] 13 [.ptr 5 0] (lfK P R):=by
 have hb:=uQ 0 12 (by omega)
 obtain⟨f,f0,f1,f2⟩:=GC hJ n k hA (P:=⟨fV 0 12,[],[],[],[],[],[]⟩) (R:=⟨fV 0 12,[],[],[]⟩) ⟨aaF ⟨hb.1,by omega⟩,by simp,h0⟩ 16 (by omega)
 refine⟨(f 16).1,(f 16).2,f1 16 (acN _),?_⟩
 refine cO Tryz.func8 rfl (by kernel_rfl) ?_
 refine .inr (cl [] (MQ 0) (by kernel_rfl) rfl rfl ?_)
 refine acg (fun h=>by cases h) fun _=>?_
 refine⟨Nat×PL×RL,fun x=>⟨13,[(0,.dv (Ints n)),(1,.dv (Ints k)),(5,.ptr 5 0),(6,.ptr 7 0),(8,.dv (I x.1))],lfK x.2.1 x.2.2⟩,fun x=>x.1<=16/\f x.1=x.2,fun x=>16-x.1,(0,⟨fV 0 12,[],[],[],[],[],[]⟩,⟨fV 0 12,[],[],[]⟩),fun _=>rfl,?_,⟨by simp,f0⟩,?_⟩
 ·refine⟨⟨rf,rf,rfl,rfl,rf,tv⟩,?_,rfl,rfl⟩
  repeat' first|exact trivial|rfl|exact rf|exact⟨rfl,rfl,rfl,rfl,_,rfl⟩|exact⟨rfl,rfl,_,rfl⟩|refine acg ?_ ?_
 rintro⟨i,P,R⟩ ⟨hi,he⟩
 simp only at hi he
 have hL:=f1 i hi
 rw[he]at hL
 simp only at hL
 refine acg (fun h=>?_) fun h=>?_
 ·have aw:i<16:=by have:=acA h;omega
  have hG:=hL.inv.fI
  have hF:=f2 i aw
  rw[he]at hF
  simp only at hF
  generalize hy:f (i+1)=y at hF
  obtain⟨P',R'⟩:=y
  simp only at hF
  refine⟨fun _=>by omega,?_⟩
  refine .inr (cl [7,10,11,12] (MK R n (6*i) (by omega) hG.rg) (by kernel_rfl) rfl rfl ?_)
  refine .inl ⟨_,fun _=>(aT k i 5 (by omega) (by omega)).ok,?_⟩
  refine acg (fun hc=>?_) fun hc=>?_
  ·unfold Jb at hF
   rw[if_pos (beq_iff_eq.1 hc)]at hF
   refine⟨fun _=>by omega,?_⟩
   refine .inr (cl [7,10,11,12] (Xu hL.inv n (6*i) (by omega)) (by kernel_rfl) rfl rfl ?_)
   generalize r7 R n (6*i)=s at*
   rcases hF with⟨e,h1,h2⟩|⟨a,_,_,h1,h2⟩
   ·refine .inr (cl [5,1,2,8,9,3,4] h1 (by kernel_rfl) rfl rfl ?_)
    rcases h2 with h2|h2
    all_goals
     refine .inr (cl [7,10,11,12] h2 (by kernel_rfl) rfl rfl ?_)
     refine acg (fun h=>absurd h (by simp)) fun _=>?_
     exact⟨fun _=>by omega,(i+1,P,R),jn rfl rfl rfl rfl,⟨aw,hy⟩,mlt aw⟩
   ·refine .inr (cl [5,1,2,8,9,3,4] h1 (by kernel_rfl) rfl rfl ?_)
    refine .inr (cl [7,10,11,12] h2 (by kernel_rfl) rfl rfl ?_)
    refine acg (fun h=>by cases h) fun _=>?_
    exact⟨fun _=>by omega,(i+1,P',R'),jn rfl rfl rfl rfl,⟨aw,hy⟩,mlt aw⟩
  ·unfold Jb at hF
   rw[if_neg (fun h=>beq_eq_false_iff_ne.1 hc h)]at hF
   generalize v8 R n (6*i)=s at*
   rcases hF with⟨e,h1,h2⟩|⟨a,_,_,h1,h2⟩
   ·refine .inr (cl [5,1,2,8,9,3,4] h1 (by kernel_rfl) rfl rfl ?_)
    rcases h2 with h2|h2
    all_goals
     refine .inr (cl [7,10,11,12] h2 (by kernel_rfl) rfl rfl ?_)
     refine acg (fun h=>absurd h (by simp)) fun _=>?_
     exact⟨fun _=>by omega,(i+1,P,R),jn rfl rfl rfl rfl,⟨aw,hy⟩,mlt aw⟩
   ·refine .inr (cl [5,1,2,8,9,3,4] h1 (by kernel_rfl) rfl rfl ?_)
    refine .inr (cl [7,10,11,12] h2 (by kernel_rfl) rfl rfl ?_)
    refine acg (fun h=>by cases h) fun _=>?_
    exact⟨fun _=>by omega,(i+1,P',R'),jn rfl rfl rfl rfl,⟨aw,hy⟩,mlt aw⟩
 ·obtain rfl:i=16:=by have:=acB h;omega
  obtain rfl:P=(f 16).1:=by rw[he]
  obtain rfl:R=(f 16).2:=by rw[he]
  exact ext (by kernel_rfl) rfl rfl
end
end Go.Proofs.YtmojfblpbcficaaGreatDoor
