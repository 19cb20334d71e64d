import Derived.Test.YtmojfblpbcficaaGreatDoorUM43
import Derived.Test.YtmojfblpbcficaaGreatDoorUM40
import Derived.Test.YtmojfblpbcficaaGreatDoorUM41
set_option linter.all false
namespace Go.Proofs.YtmojfblpbcficaaGreatDoor
set_option maxRecDepth 100000
set_option maxHeartbeats 4000000
section
open Go.TM
structure LF(J:RL->Prop)(P:PL)(R:RL)(i:Nat):Prop where
 inv:Inv P R
 sp:R.sp.length<=i
 j:J R
variable [bp]
theorem NO{J:RL->Prop}{A:cJ->Prop}(hJ:∀P R s,Inv P R->R.sp.length<40->fA R s->A s->pj R s=0->J R->J (LW R s)){P:PL}{R:RL}{i:Nat}(h:LF J P R i)(hi:i<40){s:cJ}(hs:fA R s)(ha:A s):∃x:PL×RL,LF J x.1 x.2 (i+1)/\FO P R s x.1 x.2:=by
 obtain⟨x,h1,h2,h3,h4⟩:=El h.inv h.sp hi hs
 have:=h.sp
 exact⟨x,⟨h1,h2,h3.elim (fun e=>e▸h.j) fun⟨h0,e⟩=>e▸hJ P R s h.inv (by omega) hs ha h0 h.j⟩,h4⟩
theorem Hp{J:RL->Prop}{A:cJ->Prop}(hJ:∀P R s,Inv P R->R.sp.length<40->fA R s->A s->pj R s=0->J R->J (LW R s)){P:PL}{R:RL}(n k:List Int)(hA:∀R i,A (Ek R n k i))(h:LF J P R 0):∀j:Nat,j<=40->∃f:Nat->PL×RL,f 0=(P,R)/\(∀i≤j,LF J (f i).1 (f i).2 i)/\∀i<j,FO (f i).1 (f i).2 (Ek (f i).2 n k i) (f (i+1)).1 (f (i+1)).2
 |0,_=>⟨fun _=>(P,R),rfl,fun i hi=>(by obtain rfl:i=0:=(by omega);exact h),fun i hi=>absurd hi (Nat.not_lt_zero i)⟩
 |j+1,hj=>by
  obtain⟨f,h0,h1,h2⟩:=Hp hJ n k hA h j (by omega)
  obtain⟨x,h3,h4⟩:=NO hJ (h1 j (adM j)) (by omega) (YN (h1 j (adM j)).inv n k j) (hA _ _)
  refine⟨fun i=>if i<=j then f i else x,by simp[h0],fun i hi=>?_,fun i hi=>?_⟩
  ·by_cases A1:i<=j
   ·simp only[if_pos A1];exact h1 i A1
   ·obtain rfl:i=j+1:=by omega
    simp only[if_neg A1];exact h3
  ·have A1:i<=j:=by omega
   simp only[if_pos A1]
   by_cases uo:i+1<=j
   ·simp only[if_pos uo];exact h2 i (by omega)
   ·obtain rfl:i=j:=by omega
    simp only[if_neg uo];exact h4
end
section
open Go.TM
def Oj(j:Int)(f:eS):Int:=if f.it=j then(if f.fr=0 then f.n else 0)-(if f.to=0 then f.n else 0)else 0
def YP(k:Int):Prop:=k=2\/k=3\/k=8
structure Cons(R:RL):Prop where
 sum:∀j,bK R.st j=(R.fl.map (Oj j)).sum
 ins:∀f∈R.fl,YP f.kind->f.fr≠0/\f.to≠0
theorem UX{R:RL}{s:cJ}{m:dc}(h:(bl R s m).1=0):∃tk md,(bl R s m).2.fl=R.fl++[cS R s m tk md]:=by
 unfold bl at h⊢
 split
 ·rename_i h1;rw[if_pos h1]at h;exact absurd h h1
 ·rename_i h1
  rw[if_neg h1]at h
  split
  ·rename_i h2;rw[if_pos h2]at h;cases h
  ·exact⟨_,_,rfl⟩
theorem Cj{R:RL}{s:cJ}{m:dc}(hC:Cons R)(h0:(bl R s m).1=0)(ht:∀j,bK (bl R s m).2.st j=if m.it=j then bK R.st j+(if m.fr=0 then m.n else 0)-(if m.to=0 then m.n else 0)else bK R.st j)(he:YP s.kind->m.fr≠0/\m.to≠0):Cons (bl R s m).2:=by
 obtain⟨tk,md,hf⟩:=UX h0
 refine⟨fun j=>?_,fun f Lr=>?_⟩
 ·rw[ht j,hf,adB,List.sum_append,<-hC.sum j]
  simp only[List.map_cons,List.map_nil,List.sum_cons,List.sum_nil]
  show _=bK R.st j+((if m.it=j then(if m.fr=0 then m.n else 0)-(if m.to=0 then m.n else 0)else 0)+0)
  split<;>omega
 ·rw[hf]at Lr
  rcases adr.1 Lr with Lr|Lr
  ·exact hC.ins f Lr
  ·rw[ado]at Lr;subst Lr;exact he
theorem YQ{now:Int}{s:cJ}(h:jo now s=true)(hk:YP s.kind):∀m∈s.mv,m.fr≠0/\m.to≠0:=fun m hm=>by
 unfold jo at h
 rw[adT]at h
 have h2:=h.2
 have e4:¬s.kind=4:=by unfold YP at hk;omega
 have e10:¬s.kind=10:=by unfold YP at hk;omega
 rw[adG e4,adG e10]at h2
 simp only[cond_false,adT,adH]at h2
 have:=h2.1 m hm
 unfold nD at this
 unfold YP at hk
 rw[if_neg (by omega),if_neg (by omega),if_neg (by omega),if_neg (by omega),adR]at this
 omega
theorem L3{R:RL}{s:cJ}(hG:Good R)(hD:Dx R)(hC:Cons R)(hl:R.fl.length+s.mv.length<=160)(hm:vD R s)(he:YP s.kind->∀m∈s.mv,m.fr≠0/\m.to≠0):∀i,(eE R s i).1=0->Cons (eE R s i).2
 |0,_=>hC
 |i+1,h=>by
  have h0:=oJ (Nat.le_succ i) h
  have ih:=L3 hG hD hC hl hm he i h0
  obtain⟨⟨h1,h3⟩,h2⟩:=Hf hG hD hl hm i
  cases hx:s.mv[i]? with
  |none=>
   have:eE R s (i+1)=eE R s i:=by unfold eE;rw[ads,hx];simp
   rw[this];exact ih
  |some m=>
   have hi:=(W8.1 hx).1
   have wU:=ab6 hx
   rw[kf hx h0]at h⊢
   rcases LV hm hx with kB|⟨rfl,x,kB⟩
   ·exact Cj ih h (DF h1 (by omega) (by rw[(ql R s i).2];exact kB) h).2.2 fun hk=>he hk m wU
   ·exact Cj hC h (LU (x:=x) hG hD (by omega) kB h).1.2.2 fun hk=>he hk m wU
theorem NP{R:RL}{s:cJ}(hG:Good R)(hD:Dx R)(hC:Cons R)(hl:R.fl.length+s.mv.length<=160)(hs:fA R s)(h0:pj R s=0):Cons (LW R s):=by
 unfold pj at h0
 cases hp:jo (eC R.sp) s with
 |false=>rw[hp]at h0;cases h0
 |true=>
  rw[hp]at h0
  have:=L3 hG hD hC hl (hs.pos hp).1 (YQ hp) s.mv.length h0
  exact⟨this.sum,this.ins⟩
end
section
open Go.TM
def lfK(P:PL)(R:RL):ae:=[(1,.tree 0 0 (.omap eb (oq P.st))),(2,.tree 0 0 (.omap cr (nG P.b9))),(3,.tree 0 0 (.omap cr (mU P.imp))),(4,.tree 0 0 (.omap cr (mU P.ret))),(5,.cells (.dv (I P.sh)::ed gE++[.own 1 0 0 [],.own 2 0 0 [],.own 8 0 0 [],.own 9 0 0 [],.own 3 0 0 [],.own 4 0 0 []])),(7,.cells (.dv (I R.sh)::ed gE++[.own 10 0 0 [],.own 11 0 0 [],.own 12 0 0 []])),(8,.tree 0 0 (.aD 7 (P.sp.map aC))),(9,.tree 0 0 (.aD 11 (P.fl.map aG))),(10,.tree 0 0 (.aD 3 (R.st.map fB))),(11,.tree 0 0 (.aD 11 (R.fl.map aG))),(12,.tree 0 0 (.aD 7 (R.sp.map aC)))]
end
section
open Go.TM
variable [bp]
theorem Hq{J:RL->Prop}{A:cJ->Prop}(h0:J ⟨0,[],[],[]⟩)(hJ:∀P R s,Inv P R->R.sp.length<40->fA R s->A s->pj R s=0->J R->J (LW R s))(n k:List Int)(hA:∀R i,A (Ek R n k i)):∃P R,LF J P R 16/\aj Tryz.prog 8 [.dv (Ints n),.dv (Ints k)] 0 [] 13 [.ptr 5 0] (lfK P R):=by
 have hb:=qU 0 12 (by omega)
 obtain⟨f,f0,f1,f2⟩:=Hp hJ n k hA (P:=⟨fC 0 12,[],[],[],[],[],[]⟩) (R:=⟨fC 0 12,[],[],[]⟩) ⟨YM ⟨hb.1,by omega⟩,by simp,h0⟩ 16 (by omega)
 refine⟨(f 16).1,(f 16).2,f1 16 (adM _),?_⟩
 refine cO Tryz.func8 rfl (by kernel_rfl) ?_
 refine .inr (cl [] (Cg 0) (by kernel_rfl) rfl rfl ?_)
 refine T5 (fun h=>by cases h) fun _=>?_
 refine⟨Nat×PL×RL,fun x=>⟨13,[(0,.dv (Ints n)),(1,.dv (Ints k)),(5,.ptr 5 0),(6,.ptr 7 0),(8,.dv (I x.1))],lfK x.2.1 x.2.2⟩,fun x=>x.1<=16/\f x.1=x.2,fun x=>16-x.1,(0,⟨fC 0 12,[],[],[],[],[],[]⟩,⟨fC 0 12,[],[],[]⟩),fun _=>rfl,?_,⟨by simp,f0⟩,?_⟩
 ·refine⟨⟨rf,rf,rfl,rfl,rf,tv⟩,?_,rfl,rfl⟩
  repeat' first|exact trivial|rfl|exact rf|exact⟨rfl,rfl,rfl,rfl,_,rfl⟩|exact⟨rfl,rfl,_,rfl⟩|refine T5 ?_ ?_
 rintro⟨i,P,R⟩ ⟨hi,he⟩
 simp only at hi he
 have hL:=f1 i hi
 rw[he]at hL
 simp only at hL
 refine T5 (fun h=>?_) fun h=>?_
 ·have au:i<16:=by have:=adz h;omega
  have hG:=hL.inv.fj
  have hF:=f2 i au
  rw[he]at hF
  simp only at hF
  generalize hy:f (i+1)=y at hF
  obtain⟨P',R'⟩:=y
  simp only at hF
  refine⟨fun _=>by omega,?_⟩
  refine .inr (cl [7,10,11,12] (Ce R n (6*i) (by omega) hG.rg) (by kernel_rfl) rfl rfl ?_)
  refine .inl ⟨_,fun _=>(aU k i 5 (by omega) (by omega)).ok,?_⟩
  refine T5 (fun hc=>?_) fun hc=>?_
  ·unfold Ek at hF
   rw[if_pos (beq_iff_eq.1 hc)]at hF
   refine⟨fun _=>by omega,?_⟩
   refine .inr (cl [7,10,11,12] (R3 hL.inv n (6*i) (by omega)) (by kernel_rfl) rfl rfl ?_)
   generalize oK R n (6*i)=s at*
   rcases hF with⟨e,h1,h2⟩|⟨a,_,_,h1,h2⟩
   ·refine .inr (cl [5,1,2,8,9,3,4] h1 (by kernel_rfl) rfl rfl ?_)
    rcases h2 with h2|h2
    all_goals
     refine .inr (cl [7,10,11,12] h2 (by kernel_rfl) rfl rfl ?_)
     refine T5 (fun h=>absurd h (by simp)) fun _=>?_
     exact⟨fun _=>by omega,(i+1,P,R),jn rfl rfl rfl rfl,⟨au,hy⟩,mlt au⟩
   ·refine .inr (cl [5,1,2,8,9,3,4] h1 (by kernel_rfl) rfl rfl ?_)
    refine .inr (cl [7,10,11,12] h2 (by kernel_rfl) rfl rfl ?_)
    refine T5 (fun h=>by cases h) fun _=>?_
    exact⟨fun _=>by omega,(i+1,P',R'),jn rfl rfl rfl rfl,⟨au,hy⟩,mlt au⟩
  ·unfold Ek at hF
   rw[if_neg (fun h=>beq_eq_false_iff_ne.1 hc h)]at hF
   generalize qo R n (6*i)=s at*
   rcases hF with⟨e,h1,h2⟩|⟨a,_,_,h1,h2⟩
   ·refine .inr (cl [5,1,2,8,9,3,4] h1 (by kernel_rfl) rfl rfl ?_)
    rcases h2 with h2|h2
    all_goals
     refine .inr (cl [7,10,11,12] h2 (by kernel_rfl) rfl rfl ?_)
     refine T5 (fun h=>absurd h (by simp)) fun _=>?_
     exact⟨fun _=>by omega,(i+1,P,R),jn rfl rfl rfl rfl,⟨au,hy⟩,mlt au⟩
   ·refine .inr (cl [5,1,2,8,9,3,4] h1 (by kernel_rfl) rfl rfl ?_)
    refine .inr (cl [7,10,11,12] h2 (by kernel_rfl) rfl rfl ?_)
    refine T5 (fun h=>by cases h) fun _=>?_
    exact⟨fun _=>by omega,(i+1,P',R'),jn rfl rfl rfl rfl,⟨au,hy⟩,mlt au⟩
 ·obtain rfl:i=16:=by have:=adA h;omega
  obtain rfl:P=(f 16).1:=by rw[he]
  obtain rfl:R=(f 16).2:=by rw[he]
  exact ext (by kernel_rfl) rfl rfl
end
section
open Go.TM
theorem R7(f u:Int):∀(l:List (Lt×Int)) (p:List Lt×List Lt),(∀q∈l,0<=q.2/\q.2<=q.1.n)->(∀y∈p.1,0<=y.n)->(∀y∈p.2,0<=y.n)->(has (l.foldl XO p).1 f u\/has (l.foldl XO p).2 f u↔(has p.1 f u\/has p.2 f u)\/has (l.map (·.1)) f u)
 |[],p,_,_,_=>by simp[aZ]
 |q::l,p,h,h1,h2=>by
  obtain⟨q1,q2⟩:=h q adu
  have n1:0<=(⟨q.1.f,q.1.a,q.2⟩:Lt).n:=q1
  have n2:0<=(QN q).n:=by simp only[QN];omega
  rw[List.foldl_cons,R7 f u l (XO p q) (fun z hz=>h z (adq _ hz)) (DG h1 n1) (DG h2 n2),List.map_cons,bn]
  show(has (aR p.1 ⟨q.1.f,q.1.a,q.2⟩) f u\/has (aR p.2 (QN q)) f u)\/_↔_
  rw[nu h1 n1,nu h2 n2]
  have e:di q.1 f u↔di ⟨q.1.f,q.1.a,q.2⟩ f u\/di (QN q) f u:=by unfold di QN;simp only;omega
  rw[e]
  grind
theorem R8{s:List Lt}{n:Int}(mx:Bool)(hn:0<=n)(hs:∀x∈s,az x=true)(ht:n<=b8 s)(f u:Int):has s f u↔has (eP s n mx).1 f u\/has (eP s n mx).2 f u:=by
 obtain⟨c1,c2⟩:=tA mx hn hs ht
 unfold eP mA
 generalize pg s n mx=ks at c1 c2
 have hq:∀q∈s.zip ks,0<=q.2/\q.2<=q.1.n:=fun q hq=>by
  obtain⟨i,hi⟩:=adE hq
  obtain⟨h1,h2⟩:=List.getElem?_zip_eq_some.1 hi
  have:=c2 i q.1 h1
  rw[acb,h2]at this
  exact this
 rw[List.take_of_length_le (by rw[List.length_zip];omega),R7 f u _ _ hq (fun _ h=>by cases h) (fun _ h=>by cases h),List.map_fst_zip (by omega)]
 simp[aZ]
inductive Shape(R:RL)(s:cJ)(m:dc):RL->Prop
 |fr (tk:List Lt×List Lt):0<m.fr->s.kind≠5->(∀f u,has (aW R.st (m.fr,m.it)) f u↔has tk.1 f u\/has tk.2 f u)->b8 tk.1=m.n->(∀x∈tk.1,az x=true)->(∀x∈tk.2,az x=true)->tk.1.length<=(aW R.st (m.fr,m.it)).length+1->Shape R s m (Gn R s m tk)
 |w (l:List Lt) (md:List Int):m.fr=0->(l=[]/\s.kind≠5/\s.kind≠9\/s.kind=5\/s.kind=9/\∃x f,l=[x]/\G7 R s m x f)->Shape R s m (wL R s m l md)
theorem R9{R:RL}{s:cJ}{m:dc}(hG:Good R)(hm:DD R.sh s m)(h0:(bl R s m).1=0):Shape R s m (bl R s m).2:=by
 have hb:=adz hm.base
 have hS:=hG.mB (m.fr,m.it)
 have kP:=hG.fl
 by_cases fb:0<m.fr
 ·have hp:s.kind≠5/\m.ps=[]:=by
   rcases hm.ps with h|h
   ·omega
   ·exact⟨h.1,h.2.2⟩
  have cF:aW (aH R.st (m.fr,m.it) (eP (aW R.st (m.fr,m.it)) m.n (ur m.it)).2) (m.to,m.it)=aW R.st (m.to,m.it):=by
   rw[eX,if_neg];intro h;injection h with h1;omega
  rw[xA R s m fb hp.2]at h0⊢
  by_cases hc:br (aW R.st (m.fr,m.it))<m.n
  ·rw[if_pos hc]at h0;cases h0
  rw[if_neg hc]
  have hn:m.n<=b8 (aW R.st (m.fr,m.it)):=by rw[kq (dF hS.1 (by omega))]at hc;omega
  have Nt:0<=m.n:=by omega
  obtain⟨t1,t2,t3,_⟩:=DC (ur m.it) Nt hS.1 hn
  simp only[cF]
  exact .fr (eP (aW R.st (m.fr,m.it)) m.n (ur m.it)) fb hp.1 (R8 _ Nt hS.1 hn) (Gm _ Nt hS.1 hn).1 t1 t2 (Nat.le_succ_of_le t3)
 ·have nE:m.fr=0:=by omega
  rw[tT R s m nE (by omega)]at h0⊢
  unfold wR at h0⊢
  by_cases he:EI R s.kind m≠0
  ·rw[if_pos he]at h0;exact absurd h0 he
  rw[if_neg he]at h0⊢
  by_cases hc:1099511627776<bK R.st m.it+m.n
  ·rw[if_pos hc]at h0;cases h0
  rw[if_neg hc]
  refine .w _ _ nE ?_
  rcases hm.ps with⟨h5,_⟩|⟨h5,h9,_⟩
  ·exact .inr (.inl h5)
  ·exact .inl ⟨if_neg (by omega),h5,h9⟩
theorem Sa{R:RL}{s:cJ}{m:dc}{x:Lt}(hG:Good R)(hD:Dx R)(hl:R.fl.length+1<=160)(hm:JY R s m x\/∃f,G7 R s m x f)(h0:(bl R s m).1=0):Shape R s m (bl R s m).2:=by
 rcases hm with hm|⟨f,hm⟩
 ·rw[(Ea hG hD hl hm).1]
  obtain⟨y,hy,hi⟩:=hm.lot
  have hS:=hG.mB (m.fr,m.it)
  have hx:=ai.1 hm.pos
  have Vn:∀z∈aW R.st (m.fr,m.it),1<=z.n:=fun z hz=>(ai.1 (hS.1 z hz)).2.2.1
  have X2:∀z∈[x],az z=true:=fun z hz=>by rw[ado]at hz;subst hz;exact hm.pos
  refine .fr ([x],my (aW R.st (m.fr,m.it)) [x]) hm.fr (by rw[hm.kind];decide) (fun g u=>?_) (by simp[b8,hm.n]) X2 ?_ (by simp)
  ·rw[(yW Vn fun z hz=>(ai.1 (X2 z hz)).2.2.1).2,cR]
   refine⟨fun h=>?_,fun h=>?_⟩
   ·by_cases h1:di x g u
    ·exact .inl h1
    ·exact .inr ⟨h,h1⟩
   ·rcases h with h|h
    ·exact⟨y,hy,by unfold di at h⊢;omega⟩
    ·exact h.1
  ·have:=(vh (s:=aW R.st (m.fr,m.it)) (P:=[x]) hS.1 X2 (aW R.st (m.fr,m.it)).length).1
   rw[DI]at this;exact this
 ·rw[(LR hG hD hl hm h0).1]
  exact .w [x] [] hm.fr (.inr (.inr ⟨hm.kind,x,f,rfl,hm⟩))
theorem NQ{J:RL->Prop}{s:cJ}(hJ:∀R m R',Good R->Dx R->m∈s.mv->du m=true->R.fl.length+1<=160->R'.sp=R.sp->Shape R s m R'->J R->J R')(jv:∀(R:RL) l,J R->J { R with sp:=l }){R:RL}(hG:Good R)(hD:Dx R)(hl:R.fl.length+s.mv.length<=160)(hs:fA R s)(h0:pj R s=0)(h:J R):J (LW R s):=by
 unfold pj at h0
 cases hp:jo (eC R.sp) s with
 |false=>rw[hp]at h0;cases h0
 |true=>
  rw[hp]at h0
  have hm:=(hs.pos hp).1
  have hb:=zX hp
  have key:∀i,(eE R s i).1=0->J (eE R s i).2:=fun i=>by
   induction i with
   |zero=>exact fun _=>h
   |succ i ih=>
    intro h
    have h0:=oJ (Nat.le_succ i) h
    obtain⟨⟨h1,h3⟩,h2⟩:=Hf hG hD hl hm i
    cases hx:s.mv[i]? with
    |none=>
     have:eE R s (i+1)=eE R s i:=by unfold eE;rw[ads,hx];simp
     rw[this];exact ih h0
    |some m=>
     have hi:=(W8.1 hx).1
     have wU:=ab6 hx
     have e1:=ql R s i
     have e2:=ql R s (i+1)
     rw[kf hx h0]at h e2⊢
     refine hJ _ m _ h1 h3 wU (hb m wU) (by omega) (by rw[e2.1,e1.1]) ?_ (ih h0)
     rcases LV hm hx with kB|⟨rfl,x,kB⟩
     ·exact R9 h1 (by rw[e1.2];exact kB) h
     ·exact Sa hG hD (by omega) kB h
  exact jv _ _ (key s.mv.length h0)
end
section
open Go.TM
def ua(f:eS):Prop:=f.kind≠5/\(f.kind≠9\/0<f.fr)
instance(f:eS):Decidable (ua f):=inferInstanceAs (Decidable (_/\_))
structure Hd(R:RL):Prop where
 pt:∀f∈R.fl,0<=f.to/\(f.fr≠0->ua f/\b8 f.ps=f.n)/\(f.fr=0->ua f->f.ps=[])/\(ua f->∀x∈f.ps,az x=true)
 len:∀(i:Nat) (f:eS),R.fl[i]?=some f->ua f->f.ps.length<=i+1
 cov:∀g u,((∃k,has (aW R.st k) g u)\/∃f∈R.fl,ua f/\has f.ps g u)↔∃f∈R.fl,0<f.to/\f.id=g/\0<=u/\u<f.n
 ac:∀p∈R.st,p.1.1<=5
theorem hd0{sh:Int}:Hd ⟨sh,[],[],[]⟩:=⟨nofun,nofun,fun g u=>⟨fun h=>(by rcases h with⟨k,x,hx,_⟩|⟨f,hf,_⟩;cases hx;cases hf),fun⟨f,hf,_⟩=>(by cases hf)⟩,nofun⟩
theorem Em{l:List eS}{f:eS}{p:eS->Prop}:(∃x∈l++[f],p x)↔(∃x∈l,p x)\/p f:=by
 simp only[adr,ado]
 constructor
 ·rintro⟨x,hx|rfl,hp⟩
  ·exact .inl ⟨x,hx,hp⟩
  ·exact .inr hp
 ·rintro(⟨x,hx,hp⟩|hp)
  ·exact⟨x,.inl hx,hp⟩
  ·exact⟨f,.inr rfl,hp⟩
theorem Ka{m:SM}{k:Ky}{l:List Lt}{g u:Int}:(∃k',has (aW (aH m k l) k') g u)↔has l g u\/∃k',k≠k'/\has (aW m k') g u:=by
 constructor
 ·rintro⟨k',h⟩
  rw[eX]at h
  split at h
  ·exact .inl h
  ·rename_i hk;exact .inr ⟨k',hk,h⟩
 ·rintro(h|⟨k',hk,h⟩)
  ·exact⟨k,by rw[eX,if_pos rfl];exact h⟩
  ·exact⟨k',by rw[eX,if_neg hk];exact h⟩
theorem Sb{m:SM}(k:Ky){g u:Int}:(∃k',has (aW m k') g u)↔has (aW m k) g u\/∃k',k≠k'/\has (aW m k') g u:=by
 constructor
 ·rintro⟨k',h⟩
  by_cases hk:k=k'
  ·subst hk;exact .inl h
  ·exact .inr ⟨k',hk,h⟩
 ·rintro(h|⟨k',_,h⟩)
  ·exact⟨k,h⟩
  ·exact⟨k',h⟩
theorem Sc{R:RL}(hG:Good R){m:SM}(k:Ky){id n:Int}(hm:∀x∈aW m k,az x=true)(hn:1<=n){g u:Int}:(∃k',has (aW (aH m k (aR (aW m k) ⟨id,0,n⟩)) k') g u)↔(∃k',has (aW m k') g u)\/(id=g/\0<=u/\u<n):=by
 rw[Ka,Sb k,nu (fun y hy=>(j5 (hm y hy)).1) (by simp only;omega)]
 have:di ⟨id,0,n⟩ g u↔id=g/\0<=u/\u<n:=by unfold di;simp only;omega
 rw[this];grind
theorem abI{R:RL}{s:cJ}{m:dc}{R':RL}(hG:Good R)(hb:du m=true)(ha:m.to<=5)(h:Shape R s m R')(hH:Hd R):Hd R':=by
 have hb:=adz hb
 have W0:∀{m':SM} {k:Ky} {l:List Lt},(∀p∈m',p.1.1<=5)->k.1<=5->∀p∈aH m' k l,p.1.1<=5:=fun hm hk p hp=>by
  rcases gU hp with rfl|hp
  ·exact hk
  ·exact hm p hp
 cases h with
 |fr tk h1 h2 h3 h4 h5 h6 h7=>
  have hc:ua (cS R s m tk.1 []):=⟨h2,.inr h1⟩
  have hS:=hG.mB (m.fr,m.it)
  have hT:=hG.mB (m.to,m.it)
  have cF:aW (aH R.st (m.fr,m.it) tk.2) (m.to,m.it)=aW R.st (m.to,m.it):=by
   rw[eX,if_neg];intro h;injection h with h1;omega
  have hfa:m.fr<=5:=by
   refine Decidable.byContradiction fun hc=>?_
   have:aW R.st (m.fr,m.it)=[]:=Decidable.byContradiction fun hs=>hc (hH.ac _ (oo hs))
   have h0:tk.1=[]:=by
    cases ht:tk.1 with
    |nil=>rfl
    |cons x r=>
     have hx:=ai.1 (h5 x (by rw[ht];simp))
     have:=(h3 x.f x.a).2 (.inl ⟨x,by rw[ht];simp,rfl,Int.le_refl _,by omega⟩)
     rw[‹aW R.st (m.fr,m.it)=[]›]at this
     exact absurd this aZ
   rw[h0]at h4;simp[b8]at h4;omega
  refine⟨fun f hf=>?_,fun i f hi ZF=>?_,fun g u=>?_,fun p hp=>?_⟩
  ·rcases adr.1 hf with hf|hf
   ·exact hH.pt f hf
   ·rw[ado]at hf;subst hf
    exact⟨hb.2.2.2.2.2.2.1,fun _=>⟨hc,h4⟩,fun h=>absurd h (by show¬m.fr=0;omega),fun _=>h5⟩
  ·have hi:(R.fl++[cS R s m tk.1 []])[i]?=some f:=hi
   rw[List.getElem?_append]at hi
   split at hi
   ·exact hH.len i f hi ZF
   ·have:i-R.fl.length=0:=by have:=(W8.1 hi).1;simp at this;omega
    rw[this]at hi
    injection hi with hi;subst hi
    show tk.1.length<=_
    have:=hS.2;omega
  ·show(_\/∃f∈R.fl++[_],_)↔∃f∈R.fl++[_],_
   rw[Em,Em,<-hH.cov g u,Sb (m:=R.st) (m.fr,m.it),h3]
   have e2:(0<(cS R s m tk.1 []).to/\(cS R s m tk.1 []).id=g/\0<=u/\u<(cS R s m tk.1 []).n)↔0<m.to/\(R.sh*4294967296+R.fl.length=g/\0<=u/\u<m.n):=Iff.rfl
   have e3:(ua (cS R s m tk.1 [])/\has (cS R s m tk.1 []).ps g u)↔has tk.1 g u:=⟨fun h=>h.2,fun h=>⟨hc,h⟩⟩
   rw[e2,e3]
   by_cases ht:0<m.to
   ·have:=Sc hG (m:=aH R.st (m.fr,m.it) tk.2) (m.to,m.it) (id:=R.sh*4294967296+R.fl.length) (n:=m.n) (by rw[cF];exact hT.1) hb.2.2.1 (g:=g) (u:=u)
    rw[cF,Ka (m:=R.st)]at this
    show((∃k,has (aW (if 0<m.to then _ else _) k) g u)\/_)↔_
    rw[if_pos ht,this];grind
   ·show((∃k,has (aW (if 0<m.to then _ else _) k) g u)\/_)↔_
    rw[if_neg ht,Ka];grind
  ·have hp:p∈if 0<m.to then aH (aH R.st (m.fr,m.it) tk.2) (m.to,m.it) (aR (aW R.st (m.to,m.it)) ⟨R.sh*4294967296+R.fl.length,0,m.n⟩)else aH R.st (m.fr,m.it) tk.2:=hp
   split at hp
   ·exact W0 (W0 hH.ac hfa) ha p hp
   ·exact W0 hH.ac hfa p hp
 |w l md h1 h2=>
  have hT:=hG.mB (m.to,m.it)
  have jH:0<m.to:=by omega
  have BY:ua (cS R s m l md)->l=[]:=fun⟨c1,c2⟩=>by
   rcases h2 with h|h|h
   ·exact h.1
   ·exact absurd h c1
   ·rcases c2 with c2|c2
    ·exact absurd h.1 c2
    ·exact absurd c2 (by show¬0<m.fr;omega)
  refine⟨fun f hf=>?_,fun i f hi ZF=>?_,fun g u=>?_,fun p hp=>?_⟩
  ·rcases adr.1 hf with hf|hf
   ·exact hH.pt f hf
   ·rw[ado]at hf;subst hf
    exact⟨hb.2.2.2.2.2.2.1,fun h=>absurd h1 h,fun _=>BY,fun h x hx=>by rw[show(cS R s m l md).ps=l from rfl,BY h]at hx;cases hx⟩
  ·have hi:(R.fl++[cS R s m l md])[i]?=some f:=hi
   rw[List.getElem?_append]at hi
   split at hi
   ·exact hH.len i f hi ZF
   ·have:i-R.fl.length=0:=by have:=(W8.1 hi).1;simp at this;omega
    rw[this]at hi
    injection hi with hi;subst hi
    rw[show(cS R s m l md).ps=l from rfl,BY ZF];simp
  ·show((∃k,has (aW (aH R.st (m.to,m.it) (aR (aW R.st (m.to,m.it)) ⟨R.sh*4294967296+R.fl.length,0,m.n⟩)) k) g u)\/∃f∈R.fl++[_],_)↔∃f∈R.fl++[_],_
   rw[Em,Em,<-hH.cov g u,Sc hG (m.to,m.it) hT.1 hb.2.2.1]
   have e2:(0<(cS R s m l md).to/\(cS R s m l md).id=g/\0<=u/\u<(cS R s m l md).n)↔(R.sh*4294967296+R.fl.length=g/\0<=u/\u<m.n):=⟨fun h=>h.2,fun h=>⟨jH,h⟩⟩
   have e3:¬(ua (cS R s m l md)/\has (cS R s m l md).ps g u):=fun⟨c,h⟩=>by rw[show(cS R s m l md).ps=l from rfl,BY c]at h;exact aZ h
   rw[e2];grind
  ·exact W0 hH.ac ha p hp
theorem UY{R:RL}{s:cJ}(hG:Good R)(hD:Dx R)(hl:R.fl.length+s.mv.length<=160)(hs:fA R s)(ha:∀m∈s.mv,m.to<=5)(h0:pj R s=0)(h:Hd R):Hd (LW R s):=
 NQ (fun R m R' hG _ hm hb _ _ h1 h2=>abI hG hb (ha m hm) h1 h2) (fun R l h=>⟨h.pt,h.len,h.cov,h.ac⟩) hG hD hl hs h0 h
end
section
open Go.TM
def uN(ls:List (List Lt)):List Lt:=ls.foldl (fun a s=>ct (a++s)) []
def tN(ls:List (List Lt)):Int:=(ls.map br).sum
def lN(ls:List (List Lt)):Nat:=(ls.map List.length).sum
def kJ(j:Nat):Ky:=(((j/5+1:Nat):Int),((j%5:Nat):Int))
def SL(m:SM):List (List Lt):=(List.range 30).map fun j=>aW m (kJ j)
def CP(fl:List eS):List (List Lt):=(fl.filter fun f=>decide (ua f)).map (·.ps)
def wF(f:eS):Lt:=⟨f.id,0,f.n⟩
def WL(fl:List eS):List (List Lt):=(fl.filter fun f=>decide (0<f.to)).map fun f=>[wF f]
theorem En(ls:List (List Lt))(s:List Lt):uN (ls++[s])=ct (uN ls++s):=by unfold uN;rw[adI];rfl
theorem Sd(l r:List (List Lt)):tN (l++r)=tN l+tN r:=by unfold tN;rw[adB,List.sum_append]
theorem Kb(l r:List (List Lt)):lN (l++r)=lN l+lN r:=by unfold lN;rw[adB,List.sum_append]
theorem L4:∀(ls:List (List Lt)) (a:List Lt),NS a->(∀x∈a,az x=true)->(∀s∈ls,∀x∈s,az x=true)->NS (ls.foldl (fun a s=>ct (a++s)) a)/\(∀x∈ls.foldl (fun a s=>ct (a++s)) a,az x=true)/\(ls.foldl (fun a s=>ct (a++s)) a).length<=a.length+lN ls/\∀g u,has (ls.foldl (fun a s=>ct (a++s)) a) g u↔has a g u\/∃s∈ls,has s g u
 |[],a,h1,h2,_=>⟨h1,h2,Nat.le_add_right _ _,fun g u=>by simp⟩
 |s::ls,a,h1,h2,h3=>by
  have hp:∀x∈a++s,az x=true:=fun x hx=>(adr.1 hx).elim (h2 x) (h3 s adu x)
  obtain⟨q1,q2,q3⟩:=nC hp
  have so:=fS fun x hx=>(ai.1 (hp x hx)).2.2.1
  obtain⟨r1,r2,r3,r4⟩:=L4 ls (ct (a++s)) q3 q1 fun t ht=>h3 t (adq _ ht)
  refine⟨r1,r2,?_,fun g u=>?_⟩
  ·have:lN (s::ls)=s.length+lN ls:=by simp[lN]
   rw[adv]at q2
   rw[List.foldl_cons];omega
  ·rw[List.foldl_cons,r4,so.2,dp]
   simp only[adp]
   grind
theorem z7{ls:List (List Lt)}(h:∀s∈ls,∀x∈s,az x=true):NS (uN ls)/\(∀x∈uN ls,az x=true)/\(uN ls).length<=lN ls/\∀g u,has (uN ls) g u↔∃s∈ls,has s g u:=by
 obtain⟨r1,r2,r3,r4⟩:=L4 ls [] ⟨.nil,nofun⟩ nofun h
 exact⟨r1,r2,by rw[List.length_nil,Nat.zero_add]at r3;exact r3,fun g u=>(r4 g u).trans (by simp[aZ])⟩
theorem L5(v:Int)(j0:Nat):∀n:Nat,((List.range n).map fun j=>if j0=j then v else 0).sum=if j0<n then v else 0
 |0=>rfl
 |n+1=>by
  rw[List.range_succ,adB,List.sum_append,L5 v j0 n]
  simp only[List.map_cons,List.map_nil,List.sum_cons,List.sum_nil]
  (repeat' split)<;>omega
theorem L6(f g:Nat->Int):∀l:List Nat,(l.map fun j=>f j+g j).sum=(l.map f).sum+(l.map g).sum
 |[]=>rfl
 |j::l=>by simp only[List.map_cons,List.sum_cons,L6 f g l];omega
theorem Wi:∀{m:SM},Nk m->(∀p∈m,1<=p.1.1/\p.1.1<=5/\0<=p.1.2/\p.1.2<5)->tN (SL m)=bK m 0+bK m 1+bK m 2+bK m 3+bK m 4
 |[],_,_=>by unfold tN SL;decide
 |p::m,hn,hk=>by
  have ih:=Wi (m:=m) (List.nodup_cons.1 hn).2 fun q hq=>hk q (adq _ hq)
  obtain⟨k1,k2,k3,k4⟩:=hk p adu
  have dI:aW m p.1=[]:=by
   refine Decidable.byContradiction fun h=>(List.nodup_cons.1 hn).1 (adK.2 ⟨_,oo h,rfl⟩)
  have e:∀j,br (aW (p::m) (kJ j))=br (aW m (kJ j))+if(5*(p.1.1-1)+p.1.2).toNat=j then br p.2 else 0:=fun j=>by
   have e1:aW (p::m) (kJ j)=if p.1=kJ j then p.2 else aW m (kJ j):=by
    obtain⟨a,b⟩:=p
    unfold aW;simp only[aX];split<;>rfl
   have e2:p.1=kJ j↔(5*(p.1.1-1)+p.1.2).toNat=j:=by
    rw[Prod.ext_iff];unfold kJ;simp only;omega
   rw[e1]
   by_cases h:p.1=kJ j
   ·rw[if_pos h,if_pos (e2.1 h),<-h,dI];simp[br,bB,b8]
   ·rw[if_neg h,if_neg fun h2=>h (e2.2 h2)];omega
  have s1:tN (SL (p::m))=((List.range 30).map fun j=>br (aW (p::m) (kJ j))).sum:=by unfold tN SL;rw[List.map_map];rfl
  have s2:tN (SL m)=((List.range 30).map fun j=>br (aW m (kJ j))).sum:=by unfold tN SL;rw[List.map_map];rfl
  have e0:∀it,bK (p::m) it=zr it p+bK m it:=fun it=>rfl
  rw[s1,funext e,L6,<-s2,ih,L5,if_pos (by omega),e0,e0,e0,e0,e0]
  unfold zr
  (repeat' split)<;>omega
theorem Ck:∀{fl:List eS},(∀f∈fl,(0<=f.it/\f.it<5)/\0<=f.to/\(f.fr≠0->ua f/\br f.ps=f.n)/\(f.fr=0->ua f->f.ps=[]))->(fl.map (Oj 0)).sum+(fl.map (Oj 1)).sum+(fl.map (Oj 2)).sum+(fl.map (Oj 3)).sum+(fl.map (Oj 4)).sum+tN (CP fl)=((fl.filter fun f=>decide (0<f.to)).map (·.n)).sum
 |[],_=>rfl
 |f::fl,h=>by
  have ih:=Ck fun g hg=>h g (adq _ hg)
  obtain⟨⟨h1,h2⟩,h3,h4,h5⟩:=h f adu
  have e1:tN (CP (f::fl))=(if ua f then br f.ps else 0)+tN (CP fl):=by
   unfold CP
   rw[List.filter_cons]
   by_cases hc:ua f
   ·rw[if_pos (adF hc),if_pos hc];rfl
   ·rw[if_neg (by simpa using hc),if_neg hc,Int.zero_add]
  have e2:(((f::fl).filter fun f=>decide (0<f.to)).map (·.n)).sum=(if 0<f.to then f.n else 0)+((fl.filter fun f=>decide (0<f.to)).map (·.n)).sum:=by
   rw[List.filter_cons]
   by_cases hc:0<f.to
   ·rw[if_pos (adF hc),if_pos hc];rfl
   ·rw[if_neg (by simpa using hc),if_neg hc,Int.zero_add]
  have e3:Oj 0 f+Oj 1 f+Oj 2 f+Oj 3 f+Oj 4 f=(if f.fr=0 then f.n else 0)-(if f.to=0 then f.n else 0):=by
   unfold Oj;(repeat' split)<;>omega
  have e4:(if f.fr=0 then f.n else 0)-(if f.to=0 then f.n else 0)+(if ua f then br f.ps else 0)=if 0<f.to then f.n else 0:=by
   by_cases h0:f.fr=0
   ·rw[if_pos h0]
    by_cases hc:ua f
    ·rw[if_pos hc,h5 h0 hc,show br []=0 by simp[br,bB,b8]];(repeat' split)<;>omega
    ·rw[if_neg hc];(repeat' split)<;>omega
   ·rw[if_neg h0,if_pos (h4 h0).1,(h4 h0).2];(repeat' split)<;>omega
  simp only[List.map_cons,List.sum_cons]
  rw[e1,e2];omega
theorem abJ{fl:List eS}(h:∀f∈fl,az (wF f)=true)(hs:fl.Pairwise fun f g=>f.id<g.id):uN (WL fl)=(fl.filter fun f=>decide (0<f.to)).map wF:=by
 have hm:∀x∈(fl.filter fun f=>decide (0<f.to)).map wF,az x=true:=fun x hx=>by
  obtain⟨f,hf,rfl⟩:=adK.1 hx
  exact h f (List.mem_filter.1 hf).1
 obtain⟨q1,_,_,q4⟩:=z7 (ls:=WL fl) fun s hs x hx=>by
  obtain⟨f,hf,rfl⟩:=adK.1 hs
  rw[ado]at hx;subst hx
  exact h f (List.mem_filter.1 hf).1
 refine NS.uniq q1 ⟨?_,fun x hx=>(ai.1 (hm x hx)).2.2.1⟩ fun g u=>?_
 ·exact List.pairwise_map.2 ((hs.filter _).imp fun h=>.inl h)
 ·rw[q4]
  constructor
  ·rintro⟨s,hs,hu⟩
   obtain⟨f,hf,rfl⟩:=adK.1 hs
   exact⟨_,adK.2 ⟨f,hf,rfl⟩,cR.1 hu⟩
  ·rintro⟨x,hx,hu⟩
   obtain⟨f,hf,rfl⟩:=adK.1 hx
   exact⟨_,adK.2 ⟨f,hf,rfl⟩,cR.2 hu⟩
theorem L7:∀l:List eS,b8 (l.map wF)=(l.map (·.n)).sum
 |[]=>rfl
 |f::l=>by
  rw[List.map_cons,show wF f::l.map wF=[wF f]++l.map wF from rfl,gS,L7 l];simp[b8,wF]
end
section
open Go.TM
def A_(m:SM)(j:Nat):List Lt:=uN ((SL m).take j)
def T_(m:SM)(j:Nat):Int:=tN ((SL m).take j)
def B_(P:PL)(j:Nat):List Lt:=uN (SL P.st++CP (P.fl.take j))
def V_(P:PL)(j:Nat):Int:=tN (SL P.st)+tN (CP (P.fl.take j))
def W_(P:PL)(j:Nat):List Lt:=uN (WL (P.fl.take j))
theorem abK(m:SM){j:Nat}(h:j<30):(SL m)[j]?=some (aW m (kJ j)):=by unfold SL;simp[h]
theorem Se(m:SM){j:Nat}(h:j<30):A_ m (j+1)=ct (A_ m j++aW m (kJ j))/\T_ m (j+1)=T_ m j+br (aW m (kJ j)):=by
 unfold A_ T_
 rw[ads,abK m h]
 exact⟨En _ _,by rw[show(some (aW m (kJ j))).toList=[aW m (kJ j)]from rfl,Sd];simp[tN]⟩
theorem Wj(m:SM):A_ m 30=uN (SL m)/\T_ m 30=tN (SL m):=by
 unfold A_ T_;rw[List.take_of_length_le (by simp[SL])];exact⟨rfl,rfl⟩
theorem L8{fl:List eS}{j:Nat}{f:eS}(h:fl[j]?=some f):CP (fl.take (j+1))=CP (fl.take j)++if ua f then[f.ps]else[]:=by
 unfold CP
 rw[ads,h,List.filter_append,adB]
 by_cases hc:ua f
 ·rw[if_pos hc];simp[hc]
 ·rw[if_neg hc];simp[hc]
theorem UZ{fl:List eS}{j:Nat}{f:eS}(h:fl[j]?=some f):WL (fl.take (j+1))=WL (fl.take j)++if 0<f.to then[[wF f]]else[]:=by
 unfold WL
 rw[ads,h,List.filter_append,adB]
 by_cases hc:0<f.to
 ·rw[if_pos hc];simp[hc]
 ·rw[if_neg hc];simp[hc]
theorem YR{P:PL}{j:Nat}{f:eS}(h:P.fl[j]?=some f):(ua f->B_ P (j+1)=ct (B_ P j++f.ps)/\V_ P (j+1)=V_ P j+br f.ps)/\(¬ua f->B_ P (j+1)=B_ P j/\V_ P (j+1)=V_ P j):=by
 unfold B_ V_
 rw[L8 h]
 refine⟨fun hc=>?_,fun hc=>?_⟩
 ·rw[if_pos hc,<-adJ,En,Sd]
  exact⟨rfl,by simp[tN];omega⟩
 ·rw[if_neg hc,List.append_nil];exact⟨rfl,rfl⟩
theorem YS{P:PL}{j:Nat}{f:eS}(h:P.fl[j]?=some f):(0<f.to->W_ P (j+1)=ct (W_ P j++[wF f]))/\(¬0<f.to->W_ P (j+1)=W_ P j):=by
 unfold W_
 rw[UZ h]
 refine⟨fun hc=>?_,fun hc=>?_⟩
 ·rw[if_pos hc,En]
 ·rw[if_neg hc,List.append_nil]
def Wk(j:Nat):Nat:=(List.range (j+1)).sum
theorem Hr(j:Nat):Wk (j+1)=Wk j+(j+1):=by unfold Wk;rw[List.range_succ,List.sum_append];simp
theorem Sf{i:Nat}:∀{j:Nat},i<=j->Wk i<=Wk j
 |0,h=>by rw[Nat.le_zero.1 h];exact adM _
 |j+1,h=>by
  rcases adC i (j+1)with h1|h1
  ·have:=Sf (Nat.le_of_lt_succ h1);rw[Hr];omega
  ·rw[Nat.le_antisymm h h1];exact adM _
theorem xJ(ls:List (List Lt))(b:Nat)(h:∀s∈ls,s.length<=b):∀j,lN (ls.take j)<=j*b
 |0=>by simp[lN]
 |j+1=>by
  have ih:=xJ ls b h j
  rw[ads,Kb,Nat.add_mul,Nat.one_mul]
  cases hx:ls[j]? with
  |none=>simp only[Option.toList,lN,List.map_nil,List.sum_nil];show lN _+0<=_;omega
  |some s=>have:=h s (ab6 hx);simp only[Option.toList,lN,List.map_cons,List.map_nil,List.sum_cons,List.sum_nil];show lN _+_<=_;omega
structure HF(P:PL)(R:RL):Prop where
 st:∀k,(∀x∈aW P.st k,az x=true)/\(aW P.st k).length<=64
 fl:P.fl.length<=64
 fp:∀f∈P.fl,(ua f->(∀x∈f.ps,az x=true)/\f.ps.length<=65)/\az (wF f)=true
 cl:∀j,j<=P.fl.length->lN (CP (P.fl.take j))<=Wk j
 eq:B_ P P.fl.length=W_ P P.fl.length
 b9:V_ P P.fl.length=br (W_ P P.fl.length)
theorem qt{l:List Lt}{n:Nat}(h:∀x∈l,az x=true)(hl:l.length<=n)(hn:n<=4096):bB l=true:=dF h (by omega)
theorem HF.a{P:PL}{R:RL}(h:HF P R){j:Nat}(hj:j<=30):(∀x∈A_ P.st j,az x=true)/\(A_ P.st j).length<=1920:=by
 have hm:∀s∈SL P.st,(∀x∈s,az x=true)/\s.length<=64:=fun s hs=>by
  obtain⟨i,_,rfl⟩:=adK.1 hs;exact h.st _
 obtain⟨_,h2,h3,_⟩:=z7 (ls:=(SL P.st).take j) fun s hs=>(hm s (List.mem_of_mem_take hs)).1
 have:=xJ (SL P.st) 64 (fun s hs=>(hm s hs).2) j
 exact⟨h2,by unfold A_;omega⟩
theorem HF.b{P:PL}{R:RL}(h:HF P R){j:Nat}(hj:j<=P.fl.length):(∀x∈B_ P j,az x=true)/\(B_ P j).length<=4000:=by
 have hm:∀s∈SL P.st,(∀x∈s,az x=true)/\s.length<=64:=fun s hs=>by
  obtain⟨i,_,rfl⟩:=adK.1 hs;exact h.st _
 have hc:∀s∈CP (P.fl.take j),∀x∈s,az x=true:=fun s hs=>by
  obtain⟨f,hf,rfl⟩:=adK.1 hs
  rw[List.mem_filter,adR]at hf
  exact((h.fp f (List.mem_of_mem_take hf.1)).1 hf.2).1
 obtain⟨_,h2,h3,_⟩:=z7 (ls:=SL P.st++CP (P.fl.take j)) fun s hs=>(adr.1 hs).elim (fun h=>(hm s h).1) (hc s)
 have h4:=xJ (SL P.st) 64 (fun s hs=>(hm s hs).2) 30
 rw[List.take_of_length_le (by simp[SL])]at h4
 have h5:=h.cl j hj
 have h6:=Sf (Nat.le_trans hj h.fl)
 have h7:Wk 64=2080:=by decide
 rw[Kb]at h3
 exact⟨h2,by unfold B_;omega⟩
theorem HF.w{P:PL}{R:RL}(h:HF P R){j:Nat}(hj:j<=P.fl.length):(∀x∈W_ P j,az x=true)/\(W_ P j).length<=64:=by
 have hc:∀s∈WL (P.fl.take j),(∀x∈s,az x=true)/\s.length<=1:=fun s hs=>by
  obtain⟨f,hf,rfl⟩:=adK.1 hs
  exact⟨fun x hx=>by rw[ado]at hx;subst hx;exact(h.fp f (List.mem_of_mem_take (List.mem_filter.1 hf).1)).2,by simp⟩
 obtain⟨_,h2,h3,_⟩:=z7 (ls:=WL (P.fl.take j)) fun s hs=>(hc s hs).1
 have h4:=xJ (WL (P.fl.take j)) 1 (fun s hs=>(hc s hs).2) (WL (P.fl.take j)).length
 rw[ady]at h4
 have h5:(WL (P.fl.take j)).length<=j:=by
  unfold WL;rw[WY];exact Nat.le_trans (List.length_filter_le _ _) (by rw[adD];omega)
 have:=h.fl
 exact⟨h2,by unfold W_;omega⟩
theorem U0:∀ls:List (List Lt),0<=tN ls/\tN ls<=ls.length*4503599627370496
 |[]=>by simp[tN]
 |s::ls=>by
  have h1:=U0 ls
  have h2:=vl s
  have:tN (s::ls)=br s+tN ls:=rfl
  rw[this,List.length_cons];omega
theorem T_b(m:SM)(j:Nat):0<=T_ m j/\T_ m j<=30*4503599627370496:=by
 have:=U0 ((SL m).take j)
 have h2:((SL m).take j).length<=30:=by rw[adD];simp[SL];omega
 unfold T_;omega
theorem HF.v{P:PL}{R:RL}(h:HF P R)(j:Nat):0<=V_ P j/\V_ P j<=94*4503599627370496:=by
 have h1:=U0 (SL P.st)
 have h2:=U0 (CP (P.fl.take j))
 have h3:(SL P.st).length=30:=by simp[SL]
 have h4:(CP (P.fl.take j)).length<=64:=by
  unfold CP;rw[WY];exact Nat.le_trans (List.length_filter_le _ _) (by rw[adD];have:=h.fl;omega)
 unfold V_;omega
theorem abL{P:PL}{R:RL}(hI:Inv P R)(hC:Cons R)(hH:Hd R)(hL:R.fl.length<=64):HF P R:=by
 have hG:=hI.fj
 have hD:=hI.dx
 have ak:∀k,aW P.st k=aW R.st k:=fun k=>hI.mB k
 have hSL:SL P.st=SL R.st:=by unfold SL;rw[funext fun j=>ak (kJ j)]
 have pf:=hG.sh
 have hk:∀p∈R.st,1<=p.1.1/\p.1.1<=5/\0<=p.1.2/\p.1.2<5:=fun p hp=>by have:=hD.ky p hp;have:=hH.ac p hp;omega
 have hw:∀f∈R.fl,az (wF f)=true:=fun f hf=>by
  have h1:=hG.AP f hf
  have h2:=hD.fn f hf
  exact ai.2 ⟨by simp only[wF];omega,by simp[wF],by simp only[wF];omega,by simp only[wF];omega⟩
 have acI:R.fl.Pairwise fun f g=>f.id<g.id:=List.pairwise_iff_getElem.2 fun i j hi hj A1=>by
  have h1:=hD.ids i _ (IF hi)
  have h2:=hD.ids j _ (IF hj)
  rw[h1,h2];omega
 have l7:∀j,j<=R.fl.length->lN (CP (R.fl.take j))<=Wk j:=fun j=>by
  induction j with
  |zero=>intro _;simp[CP,lN]
  |succ j ih=>
   intro hj
   have h1:=ih (by omega)
   have hx:=IF (show j<R.fl.length by omega)
   rw[L8 hx,Kb,Hr]
   by_cases hc:ua R.fl[j]
   ·have:=hH.len j _ hx hc
    rw[if_pos hc];simp only[lN,List.map_cons,List.map_nil,List.sum_cons,List.sum_nil];show lN _+_<=_;omega
   ·rw[if_neg hc];show lN _+0<=_;omega
 have Wh:∀f∈R.fl,ua f->(∀x∈f.ps,az x=true)/\f.ps.length<=65:=fun f hf hc=>by
  obtain⟨i,hi⟩:=adE hf
  have:=hH.len i f hi hc
  have:=(W8.1 hi).1
  exact⟨(hH.pt f hf).2.2.2 hc,by omega⟩
 have bO:∀s∈SL R.st++CP R.fl,∀x∈s,az x=true:=fun s hs=>by
  rcases adr.1 hs with hs|hs
  ·obtain⟨i,_,rfl⟩:=adK.1 hs;exact(hG.mB _).1
  ·obtain⟨f,hf,rfl⟩:=adK.1 hs
   rw[List.mem_filter,adR]at hf
   exact(Wh f hf.1 hf.2).1
 have hU:=abJ hw acI
 have hwl:∀s∈WL R.fl,∀x∈s,az x=true:=fun s hs x hx=>by
  obtain⟨f,hf,rfl⟩:=adK.1 hs
  rw[ado]at hx;subst hx
  exact hw f (List.mem_filter.1 hf).1
 have hWn:bB (uN (WL R.fl))=true:=by
  have h1:=z7 hwl
  have h2:(uN (WL R.fl)).length<=64:=by rw[hU,WY];exact Nat.le_trans (List.length_filter_le _ _) hL
  exact qt h1.2.1 h2 (by omega)
 refine⟨fun k=>by rw[ak];have:=hG.mB k;exact⟨this.1,by omega⟩,by rw[hI.fl];exact hL,fun f hf=>by rw[hI.fl]at hf;exact⟨Wh f hf,hw f hf⟩,fun j hj=>by rw[hI.fl]at hj⊢;exact l7 j hj,?_,?_⟩
 ·unfold B_ W_
  rw[ady,hI.fl,hSL]
  obtain⟨q1,_,_,q4⟩:=z7 bO
  obtain⟨r1,_,_,r4⟩:=z7 hwl
  refine NS.uniq q1 r1 fun g u=>?_
  rw[q4,r4]
  have c:=hH.cov g u
  have e1:(∃s∈SL R.st++CP R.fl,has s g u)↔(∃k,has (aW R.st k) g u)\/∃f∈R.fl,ua f/\has f.ps g u:=by
   constructor
   ·rintro⟨s,hs,hu⟩
    rcases adr.1 hs with hs|hs
    ·obtain⟨i,_,rfl⟩:=adK.1 hs;exact .inl ⟨_,hu⟩
    ·obtain⟨f,hf,rfl⟩:=adK.1 hs
     rw[List.mem_filter,adR]at hf
     exact .inr ⟨f,hf.1,hf.2,hu⟩
   ·rintro(⟨k,hu⟩|⟨f,hf,hc,hu⟩)
    ·have cF:aW R.st k≠[]:=fun e=>by rw[e]at hu;exact aZ hu
     have hq:=hk _ (oo cF)
     simp only at hq
     refine⟨_,adr.2 (.inl (adK.2 ⟨(5*(k.1-1)+k.2).toNat,adL.2 (by omega),rfl⟩)),?_⟩
     rw[show kJ (5*(k.1-1)+k.2).toNat=k by unfold kJ;rw[Prod.ext_iff];simp only;omega];exact hu
    ·exact⟨f.ps,adr.2 (.inr (adK.2 ⟨f,List.mem_filter.2 ⟨hf,adF hc⟩,rfl⟩)),hu⟩
  have e2:(∃s∈WL R.fl,has s g u)↔∃f∈R.fl,0<f.to/\f.id=g/\0<=u/\u<f.n:=by
   have h1:∀f:eS,has [wF f] g u↔f.id=g/\0<=u/\u<f.n:=fun f=>by rw[cR];unfold di wF;simp only;omega
   constructor
   ·rintro⟨s,hs,hu⟩
    obtain⟨f,hf,rfl⟩:=adK.1 hs
    rw[List.mem_filter,adR]at hf
    exact⟨f,hf.1,hf.2,(h1 f).1 hu⟩
   ·rintro⟨f,hf,h0,hu⟩
    exact⟨_,adK.2 ⟨f,List.mem_filter.2 ⟨hf,adF h0⟩,rfl⟩,(h1 f).2 hu⟩
  rw[e1,e2];exact c
 ·unfold V_ W_
  rw[ady,hI.fl,hSL,kq hWn,hU,L7,Wi hG.nk hk,hC.sum 0,hC.sum 1,hC.sum 2,hC.sum 3,hC.sum 4]
  exact Ck fun f hf=>by
   obtain⟨p1,p2,p3,p4⟩:=hH.pt f hf
   refine⟨(hD.fn f hf).2,p1,fun h=>?_,p3⟩
   obtain⟨c1,c2⟩:=p2 h
   exact⟨c1,by rw[kq (qt (p4 c1) (Wh f hf c1).2 (by omega))];exact c2⟩
end
end Go.Proofs.YtmojfblpbcficaaGreatDoor
