import Derived.Test.YtpbiiigpphehbaaGreatDoorFM39
import Derived.Test.YtpbiiigpphehbaaGreatDoorFM30
set_option linter.all false
namespace Go.Proofs.YtpbiiigpphehbaaGreatDoor
set_option maxRecDepth 100000
set_option maxHeartbeats 4000000
section
open Go.TM
structure SeI where
 i:Nat
 j:Nat
theorem PZ{i j:Nat}(h:i+j<=1000000):IntKind.i64.wrap (IntKind.u64.wrap ((i:Int)+(j:Int))/2^min (Int.toNat 1) IntKind.u64.bits)=(((i+j)/2:Nat):Int):=by
 have e:min (Int.toNat 1) IntKind.u64.bits=1:=rfl
 rw[e,IntKind.wrap_u64,IntKind.wrap_i64]
 omega
def ZA(f:Nat)(bK:List AV)(m:Nat)(K:ae)(q:SeI):cI:=⟨m,[(1,.fn f bK),(5,.dv (I q.i)),(6,.dv (I q.j))],K⟩
def Mi(set:List Lt)(x:Lt):Nat:=(set.takeWhile fun s=>!jG x s).length
theorem P0{p:Lt->Bool}:∀{l:List Lt} {y:Lt},y∈l.takeWhile p->p y=true
 |[],y,h=>by cases h
 |x::l,y,h=>by
  rw[List.takeWhile_cons]at h
  split at h
  ·rename_i hx
   rcases abG.1 h with rfl|h
   ·exact hx
   ·exact P0 h
  ·cases h
theorem P3{set:List Lt}(hs:NS set)(x:Lt):Mi set x<=set.length/\(set.dropWhile fun s=>!jG x s)=set.drop (Mi set x)/\(∀i y,i<Mi set x->set[i]?=some y->jG x y=false)/\∀i y,Mi set x<=i->set[i]?=some y->jG x y=true:=by
 have e:=List.takeWhile_append_dropWhile (p:=fun s=>!jG x s) (l:=set)
 have hd:=(C0 x set hs).2.1
 have hl:=congrArg List.length e
 rw[abM]at hl
 have e2:(set.dropWhile fun s=>!jG x s)=set.drop (Mi set x):=by
  have h:=congrArg (List.drop (set.takeWhile fun s=>!jG x s).length) e
  rw[List.drop_left]at h
  exact h
 refine⟨by unfold Mi;omega,e2,fun i y hi hy=>?_,fun i y hi hy=>?_⟩
 ·rw[<-e,List.getElem?_append_left hi]at hy
  have:=P0 (abC hy)
  simpa using this
 ·refine hd y ?_
  rw[e2]
  refine abC (i:=i-Mi set x) ?_
  rw[List.getElem?_drop,show Mi set x+(i-Mi set x)=i by omega];exact hy
variable [bJ]
def Xh(set:List Lt)(x:Lt):ae:=[(0,.cells [.dv (aS set)]),(1,.cells (eB (aF x).cells))]
theorem Mj(set:List Lt)(x y:Lt)(i:Nat)(hy:set[i]?=some y)(hb:0<=y.a/\y.a<=1099511627776/\0<=y.n/\y.n<=1099511627776):aq Tryz.prog 238 [.dv (I i),.ptr 0 0,.ptr 1 0] 2 (Xh set x) 0 [.dv (B (jG x y))] (Xh set x):=by
 have iy:(set.map aF)[(i:Int).toNat]?=some (aF y):=by rw[abB];simp[hy]
 have i0:(0:Int)<=i:=by omega
 refine cO Tryz.func238 rfl (by kernel_rfl) ?_
 refine⟨aF y,fun _=>⟨i0,iy⟩,?_⟩
 repeat first|apply g1|apply g2|apply g3|apply g4|apply g5
 refine⟨aF y,fun _=>⟨i0,iy⟩,?_⟩
 repeat first|apply g1|apply g2|apply g3|apply g4|apply g5
 refine⟨aF y,fun _=>⟨i0,iy⟩,?_⟩
 repeat first|apply g1|apply g2|apply g3|apply g4|apply g5
 refine⟨aF y,fun _=>⟨i0,iy⟩,?_⟩
 repeat first|apply g1|apply g2|apply g3|apply g4|apply g5
 refine⟨fun _=>⟨by omega,by omega⟩,?_⟩
 repeat first|apply g1|apply g2|apply g3|apply g4|apply g5
 refine⟨by kernel_rfl,?_⟩
 rw[show jG x y=(bif decide (x.f<y.f)then true else bif y.f==x.f then decide (x.a<y.a+y.n)else false)by
  unfold jG;rw[ab5];simp]
 exact ext (by kernel_rfl) rfl rfl
theorem Dl(set:List Lt)(x:Lt)(hs:NS set)(hb:lB set):aq Tryz.prog 237 [.dv (I set.length),.fn 238 [.ptr 0 0,.ptr 1 0]] 2 (Xh set x) 0 [.dv (I (Mi set x))] (Xh set x):=by
 obtain⟨hk,-,h1,h2⟩:=P3 hs x
 obtain⟨hl,Jm⟩:=hb
 generalize Mi set x=k at*
 refine cO Tryz.func237 rfl (by kernel_rfl) ?_
 refine⟨SeI,ZA 238 [.ptr 0 0,.ptr 1 0] 2 (Xh set x),fun q=>q.i<=k/\k<=q.j/\q.j<=set.length,fun q=>q.j-q.i,⟨0,set.length⟩,fun _=>rfl,jn rfl rfl rfl rfl,⟨abO _,hk,ab3 _⟩,?_⟩
 rintro q ⟨p1,p2,p3⟩
 refine aby (fun au=>?_) fun gG=>?_
 ·have au:q.i<q.j:=by have:=abQ au;simp only[Int.ofNat_lt]at this;exact this
  refine⟨fun _=>⟨by omega,by omega⟩,?_⟩
  refine⟨fun _=>by omega,?_⟩
  obtain⟨y,hy⟩:∃y,set[(q.i+q.j)/2]?=some y:=⟨_,aaa (by omega)⟩
  refine .inr ⟨[0,1],[.dv (I ((q.i+q.j)/2:Nat)),.ptr 0 0,.ptr 1 0],Xh set x,0,_,_,Mj set x y _ hy (Jm y (abC hy)),by kernel_rfl,by kernel_rfl,⟨?_,rfl,rfl,tv⟩,⟨⟨rf,tv⟩,⟨rf,rf,rf,tv⟩,tv⟩,?_⟩
  ·rw[PZ (by omega)];exact rf
  rw[PZ (by omega)]
  refine aby (fun hb=>?_) fun hb=>?_
  ·have me:(q.i+q.j)/2<k:=by
    rcases abT ((q.i+q.j)/2) k with h|h
    ·exact h
    ·have:=h2 _ _ h hy;rw[this]at hb;cases hb
   exact⟨fun _=>⟨by omega,by omega⟩,⟨(q.i+q.j)/2+1,q.j⟩,jn rfl rfl rfl rfl,⟨me,p2,p3⟩,by simp only;omega⟩
  ·have aaT:k<=(q.i+q.j)/2:=by
    rcases abT ((q.i+q.j)/2) k with h|h
    ·have:=h1 _ _ h hy;rw[this]at hb;cases hb
    ·exact h
   exact⟨⟨q.i,(q.i+q.j)/2⟩,jn rfl rfl rfl rfl,⟨p1,aaT,by simp only;omega⟩,by simp only;omega⟩
 ·have gG:q.i=q.j:=by have:=abR gG;omega
  have GQ:q.i=k:=by omega
  rw[<-GQ]
  exact ext (by kernel_rfl) rfl rfl
end
section
open Go.TM
def F5:Code->Option RC
 |.seq a b=>match F5 a with
  |some r=>some r
  |none=>F5 b
 |.cond _ a b=>match F5 a with
  |some r=>some r
  |none=>F5 b
 |.block _ c=>F5 c
 |.scope c=>F5 c
 |.loop c=>F5 c
 |.rangeFunc _ ps a b=>some ⟨ps,a,b⟩
 |_=>none
def F6(f:Func):RC:=match f.body with
 |some c=>(match F5 c with
  |some r=>r
  |none=>⟨#[],.skip,.skip⟩)
 |none=>⟨#[],.skip,.skip⟩
abbrev ZZ:=List Lt×List Lt
def fm(x s:Lt):Int:=if 0<s.a-x.a then s.a-x.a else 0
def k8(x s:Lt):Int:=if s.a+s.n-(x.a+fm x s)<x.n-fm x s then s.a+s.n-(x.a+fm x s)else x.n-fm x s
def SN(x s:Lt):Bool:=decide (0<x.n)&&(s.f==x.f&&decide (s.a<x.a+x.n))
theorem Kw{x s:Lt}{r:List Lt}(h:SN x s=true):D0 x (s::r)=(if 0<fm x s then[(⟨x.f,x.a,fm x s⟩,false)]else[])++(⟨x.f,x.a+fm x s,k8 x s⟩,true)::D0 ⟨x.f,x.a+fm x s+k8 x s,x.n-fm x s-k8 x s⟩ r:=by
 simp only[SN,aca,decide_eq_true_eq,beq_iff_eq]at h
 have e1:fm x s=max 0 (s.a-x.a):=by unfold fm;split<;>omega
 have e2:k8 x s=min (x.n-max 0 (s.a-x.a)) (s.a+s.n-(x.a+max 0 (s.a-x.a))):=by unfold k8;rw[e1];split<;>omega
 rw[e2,e1]
 conv=>lhs;unfold D0
 rw[if_pos h]
theorem P4{x s:Lt}{r:List Lt}(h:SN x s=false):D0 x (s::r)=if 0<x.n then[(x,false)]else[]:=by
 have h2:¬(0<x.n/\s.f=x.f/\s.a<x.a+x.n):=fun hc=>by
  have:SN x s=true:=by simp only[SN,aca,decide_eq_true_eq,beq_iff_eq];exact hc
  rw[this]at h;cases h
 conv=>lhs;unfold D0
 rw[if_neg h2]
def GN(n:Nat)(z:ZZ):Prop:=(∀y∈z.1,aQ y=true)/\(∀y∈z.2,aQ y=true)/\z.1.length<=n/\z.2.length<=n
theorem GN.lB{n:Nat}{z:ZZ}(h:GN n z)(hn:n<=100000):lB z.1/\lB z.2:=
 ⟨⟨by have:=h.2.2.1;omega,fun y hy=>by have:=aw.1 (h.1 y hy);omega⟩,⟨by have:=h.2.2.2;omega,fun y hy=>by have:=aw.1 (h.2.1 y hy);omega⟩⟩
theorem GN.put{n:Nat}{z:ZZ}(h:GN n z){p:Lt×Bool}(hp:aQ p.1=true):GN (n+1) (gf z p):=by
 obtain⟨h1,h2,h3,h4⟩:=h
 have hb:=aw.1 hp
 unfold gf
 cases p.2
 ·exact⟨h1,s9 [p.1] z.2 (by simpa using hp) h2 |>.1,by show z.1.length<=_;omega,by have:=fj z.2 p.1;show(bj z.2 p.1).length<=_;omega⟩
 ·exact⟨s9 [p.1] z.1 (by simpa using hp) h1 |>.1,h2,by have:=fj z.1 p.1;show(bj z.1 p.1).length<=_;omega,by show z.2.length<=_;omega⟩
theorem GN.fold:∀{l:List (Lt×Bool)} {n:Nat} {z:ZZ},GN n z->(∀p∈l,aQ p.1=true)->GN (n+l.length) (l.foldl gf z)
 |[],n,z,h,_=>h
 |p::l,n,z,h,hp=>by
  have:=GN.fold (h.put (hp p abL)) fun q hq=>hp q (abH _ hq)
  rw[List.length_cons,show n+(l.length+1)=n+1+l.length by omega]
  exact this
theorem Kx:∀(s:List Lt) (x:Lt),(D0 x s).length<=2*s.length+1
 |[],x=>by unfold D0;split<;>simp
 |s::r,x=>by
  cases h:SN x s with
  |true=>
   rw[Kw h]
   have:=Kx r ⟨x.f,x.a+fm x s+k8 x s,x.n-fm x s-k8 x s⟩
   simp only[abM,List.length_cons]
   split<;>simp<;>omega
  |false=>rw[P4 h];split<;>simp
theorem F7(set:List Lt)(x:Lt):(oA set x).length<=2*set.length+1:=by
 have h1:=Kx (set.dropWhile fun s=>!jG x s) x
 have h2:=(List.dropWhile_sublist (p:=fun s=>!jG x s) (l:=set)).length_le
 unfold oA;omega
theorem Dm{set:List Lt}{x:Lt}(hs:NS set)(hx:aQ x=true):∀p∈oA set x,aQ p.1=true:=fun p hp=>by
 have hb:=aw.1 hx
 have:=(sY hs (by omega:0<=x.n)).pos p hp
 rw[aw];omega
end
section
open Go.TM
variable [bJ]
def zW(v:Nat)(rc:RC)(z:ZZ):ae:=[(0,.c5 rc .ready (((List.replicate 22 .any).set 4 (.ptr 1 0)).set 5 (.ptr 2 0))),(1,.cells [.own 3 v 0 []]),(2,.cells [.own 4 v 0 []]),(3,.tree v 0 (.aB 3 (z.1.map aF))),(4,.tree v 0 (.aB 3 (z.2.map aF)))]
theorem We(z:ZZ)(x:Lt)(b:Bool)(h1:lB z.1)(h2:lB z.2)(hx:0<=x.n/\x.n<=1099511627776):eh Tryz.prog [cJ (aF x),.dv (B b)] 5 (zW 1 (F6 Tryz.f197) z) 0 fun r k=>r=[.dv (B true)]/\k=zW 1 (F6 Tryz.f197) (gf z (x,b)):=by
 refine A7 gx mixed rfl (by kernel_rfl) ?_
 cases b with
 |true=>
  refine aby (fun _=>?_) fun h=>by cases h
  refine .inr (cl [3] (BI z.1 x h1 hx) (by kernel_rfl) rfl rfl ?_)
  exact ext (by kernel_rfl) rfl rfl
 |false=>
  refine aby (fun h=>by cases h) fun _=>?_
  refine .inr (cl [4] (BI z.2 x h2 hx) (by kernel_rfl) rfl rfl ?_)
  exact ext (by kernel_rfl) rfl rfl
theorem Dn{rc:RC}{z:ZZ}{a:List AV}:Go.TM.Start 4 [(0,.c5 rc .ready (((List.replicate 22 .any).set 4 (.ptr 1 0)).set 5 (.ptr 2 0))),(1,.cells [.own 3 1 0 []]),(2,.cells [.own 4 0 0 []]),(3,.tree 1 0 (.aB 3 (z.1.map aF))),(4,.tree 0 0 (.aB 3 (z.2.map aF)))] (zW 1 rc z) a a/\
 Go.TM.Start 3 (zW 0 rc z) [(0,.c5 rc .ready (((List.replicate 22 .any).set 4 (.ptr 1 0)).set 5 (.ptr 2 0))),(1,.cells [.own 3 1 0 []]),(2,.cells [.own 4 0 0 []]),(3,.tree 1 0 (.aB 3 (z.1.map aF))),(4,.tree 0 0 (.aB 3 (z.2.map aF)))] a a:=by
 refine⟨⟨⟨_,rfl,rfl,fun j hj=>?_⟩,iS.refl _ _ _ _⟩,⟨_,rfl,rfl,fun j hj=>?_⟩,iS.refl _ _ _ _⟩
 ·match j,hj with
  |0,_=>exact .refl _
  |1,_=>exact .refl _
  |2,_=>exact .cells (.rY .nil)
  |3,_=>exact .refl _
  |j+5,_=>exact .refl _
 ·match j,hj with
  |0,_=>exact .refl _
  |1,_=>exact .cells (.rY .nil)
  |2,_=>exact .refl _
  |4,_=>exact .refl _
  |j+5,_=>exact .refl _
theorem IF(z:ZZ)(x:Lt)(b:Bool)(h1:lB z.1)(h2:lB z.2)(hx:0<=x.n/\x.n<=1099511627776):eh Tryz.prog [cJ (aF x),.dv (B b)] 5 (zW 0 (F6 Tryz.f197) z) 0 fun r k=>r=[.dv (B true)]/\k=zW 1 (F6 Tryz.f197) (gf z (x,b)):=
 kg 3 (kg 4 (We z x b h1 h2 hx) Dn.1) Dn.2
def Xi(v:Nat)(rc:RC)(l set:List Lt)(z:ZZ):ae:=[(0,.c5 rc .ready (((List.replicate 22 .any).set 4 (.ptr 1 0)).set 5 (.ptr 2 0))),(1,.cells [.own 5 v 0 []]),(2,.cells [.own 6 v 0 []]),(3,.cells [.dv (aS l)]),(4,.cells [.dv (aS set)]),(5,.tree v 0 (.aB 3 (z.1.map aF))),(6,.tree v 0 (.aB 3 (z.2.map aF)))]
structure ItS where
 j:Nat
 x:Lt
 z:ZZ
def zN(l set:List Lt)(z:ZZ)(i:Nat):ZZ:=((l.take i).flatMap (oA set)).foldl gf z
theorem Kz{l set:List Lt}{z:ZZ}{i:Nat}{x:Lt}(h:l[i]?=some x):zN l set z (i+1)=(oA set x).foldl gf (zN l set z i):=by
 unfold zN;rw[abJ,h,List.flatMap_append,abZ];simp
theorem GN.mono{m n:Nat}{z:ZZ}(h:GN m z)(Xg:m<=n):GN n z:=⟨h.1,h.2.1,Nat.le_trans h.2.2.1 Xg,Nat.le_trans h.2.2.2 Xg⟩
theorem Ub{l set:List Lt}{z:ZZ}(hl:∀x∈l,aQ x=true)(hs:NS set)(hz:GN 0 z):∀i,GN (i*(2*set.length+1)) (zN l set z i)
 |0=>by rw[Nat.zero_mul];exact hz
 |i+1=>by
  have ih:=Ub hl hs hz i
  cases h:l[i]? with
  |none=>
   have:zN l set z (i+1)=zN l set z i:=by unfold zN;rw[abJ,h];simp
   rw[this]
   exact ih.mono (ab4 _ (by omega))
  |some x=>
   rw[Kz h]
   have h1:=ih.fold (Dm hs (hl x (abC h)))
   have h2:=F7 set x
   exact h1.mono (by rw[Nat.add_mul,Nat.one_mul];omega)
theorem Wf{l set:List Lt}{z:ZZ}{i:Nat}{x:Lt}(hl:∀x∈l,aQ x=true)(hs:NS set)(hz:GN 0 z)(hx:l[i]?=some x)(aW:l.length*(2*set.length+1)<=90000){pre suf:List (Lt×Bool)}(h:oA set x=pre++suf):
 lB (pre.foldl gf (zN l set z i)).1/\lB (pre.foldl gf (zN l set z i)).2:=by
 have h1:=(Ub hl hs hz i).fold (l:=pre) fun p hp=>Dm hs (hl x (abC hx)) p (by rw[h];exact List.mem_append_left _ hp)
 have h2:=F7 set x
 have h3:=congrArg List.length h
 rw[abM]at h3
 have hi:=(abA.1 hx).1
 have h4:(i+1)*(2*set.length+1)<=l.length*(2*set.length+1):=ab4 _ hi
 rw[Nat.add_mul,Nat.one_mul]at h4
 exact h1.lB (by omega)
theorem Wg(rc:RC)(l set:List Lt)(z:ZZ)(hl:∀x∈l,aQ x=true)(hs:NS set)(hp:∀x∈set,aQ x=true)(DQ:l.length<=5000)(iQ:set.length<=5000)(hz:GN 0 z)(aW:l.length*(2*set.length+1)<=90000)
 (hY:∀(z:ZZ) (x:Lt) (b:Bool),lB z.1->lB z.2->0<=x.n/\x.n<=1099511627776->eh Tryz.prog [cJ (aF x),.dv (B b)] 5 (zW 0 rc z) 0 fun r k=>r=[.dv (B true)]/\k=zW 1 rc (gf z (x,b))):
 aq Tryz.prog 236 [.eP 0,.ptr 3 0,.ptr 4 0] 7 (Xi 1 rc l set z) 0 [] (Xi 1 rc l set ((l.flatMap (oA set)).foldl gf z)):=by
 refine cO Tryz.func236 rfl (by kernel_rfl) ?_
 have ll:(l.map aF).length=l.length:=abz ..
 have ls:(set.map aF).length=set.length:=abz ..
 refine⟨Nat,fun i=>⟨7,[(0,.eP 0),(1,.ptr 3 0),(2,.ptr 4 0),(9,.dv (aS l)),(10,.dv (I l.length)),(11,.dv (I i))],Xi 1 rc l set (zN l set z i)⟩,fun i=>i<=l.length,fun i=>l.length-i,0,fun _=>rfl,jn (by simp only[ll];rfl) rfl rfl rfl,abO _,?_⟩
 rintro i hi
 refine aby (fun h=>?_) fun h=>?_
 ·have au:i<l.length:=by have:=abQ h;omega
  obtain⟨x,hx⟩:∃x,l[i]?=some x:=⟨_,aaa au⟩
  have ix:(l.map aF)[(i:Int).toNat]?=some (aF x):=by rw[abB];simp[hx]
  have T6:=hl x (abC hx)
  have LS:=aw.1 T6
  have hpp:=(sY hs (by omega:0<=x.n)).pos
  have tM:=Dm hs T6
  have dQ:=Kz (set:=set) (z:=z) hx
  have hlb:lB set:=⟨by omega,fun y hy=>by have:=aw.1 (hp y hy);omega⟩
  obtain⟨hk,aJ,oP,Lm⟩:=P3 hs x
  refine⟨aF x,fun _=>⟨by omega,ix⟩,?_⟩
  have hse:=Dl set x hs hlb
  rw[<-ls]at hse
  refine .inr (cl [4,7] hse (by kernel_rfl) rfl rfl ?_)
  have hM:oA set x=D0 x (set.drop (Mi set x)):=by unfold oA;rw[aJ]
  generalize hz0:zN l set z i=zi at*
  refine⟨ItS,fun q=>⟨8,[(0,.eP 0),(1,.ptr 3 0),(2,.ptr 4 0),(9,.dv (aS l)),(10,.dv (I l.length)),(11,.dv (I i)),(5,.ptr 7 0),(6,.dv (I q.j))],Xi 1 rc l set q.z++[(7,.cells (eB (aF q.x).cells))]⟩,fun q=>q.j<=set.length/\q.x.f=x.f/\x.a<=q.x.a/\q.x.a+q.x.n=x.a+x.n/\0<=q.x.n/\∃pre,oA set x=pre++D0 q.x (set.drop q.j)/\q.z=pre.foldl gf zi,fun q=>set.length-q.j,⟨Mi set x,x,zi⟩,fun _=>rfl,jn rfl rfl rfl rfl,⟨hk,rfl,Int.le_refl _,rfl,by show 0<=x.n;omega,[],hM,rfl⟩,?_⟩
  rintro⟨j,y,w⟩ ⟨hj,hf,ha,hn,Wh,pre,tu,hw⟩
  dsimp only at hj hf ha hn Wh tu hw⊢
  have Wi:∀{p s:List (Lt×Bool)},oA set x=p++s->lB (p.foldl gf zi).1/\lB (p.foldl gf zi).2:=fun h=>by
   rw[<-hz0];exact Wf hl hs hz hx aW h
  obtain⟨s,IG⟩:∃s,j<set.length->set[j]?=some s:=by
   by_cases h:j<set.length
   ·exact⟨set[j],fun _=>aaa h⟩
   ·exact⟨x,fun h2=>absurd h2 h⟩
  have is:bw (bif decide (0<y.n)then decide ((j:Int)<(((set.map aF).length:Nat):Int))else false) true=true->(0:Int)<=j/\(set.map aF)[(j:Int).toNat]?=some (aF s):=fun hg=>by
   have me:j<set.length:=by have:=abQ (dV (gL hg)).2;omega
   refine⟨by omega,?_⟩
   rw[abB];simp[IG me]
  repeat first|apply g1|apply g2|apply g3|apply g4|apply g5
  refine⟨aF s,fun h=>is h,?_⟩
  repeat first|apply g1|apply g2|apply g3|apply g4|apply g5
  refine⟨aF s,fun h=>is (uP (dV (gL h)).1),?_⟩
  repeat first|apply g1|apply g2|apply g3|apply g4|apply g5
  refine⟨fun _=>⟨by omega,by omega⟩,?_⟩
  repeat first|apply g1|apply g2|apply g3|apply g4|apply g5
  refine⟨by kernel_rfl,aby (fun hc=>?_) fun hc=>?_⟩
  ·have c1:=dV hc
   have c2:=dV c1.1
   have c3:=dV c2.1
   have me:j<set.length:=by have:=abQ c3.2;omega
   have IG:=IG me
   have hsb:=aw.1 (hp s (abC IG))
   have hg:SN y s=true:=by unfold SN;rw[c3.1,c2.2,c1.2];rfl
   have hdj:set.drop j=s::set.drop (j+1):=by
    rw[List.drop_eq_getElem_cons me]
    rw[aaa me]at IG
    injection IG with IG
    rw[IG]
   rw[hdj,Kw hg]at tu
   have io:(0:Int)<=j/\(set.map aF)[(j:Int).toNat]?=some (aF s):=⟨by omega,by rw[abB];simp[IG]⟩
   refine⟨aF s,fun _=>io,fun _=>⟨by omega,by omega⟩,?_⟩
   refine⟨by kernel_rfl,?_⟩
   repeat first|apply g1|apply g2|apply g3|apply g4|apply g5
   have jP:=Wi tu
   rw[<-hw]at jP
   by_cases hO:0<fm y s
   ·have rX:bw (decide (0<fm y s)) true=true:=uP (abW hO)
    rw[if_pos hO]at tu
    have hm1:=hpp (⟨y.f,y.a,fm y s⟩,false) (by rw[tu];simp)
    have T2:=hpp (⟨y.f,y.a+fm y s,k8 y s⟩,true) (by rw[tu];simp)
    dsimp only at hm1 T2
    refine .inl (Ua [0,1,2,5,6] (hY w ⟨y.f,y.a,fm y s⟩ false jP.1 jP.2 (by show 0<=fm y s/\fm y s<=_;omega)) (by kernel_rfl) rfl rfl ?_)
    refine⟨rX,fun _=>rfl,fun _ h=>uP h,aby (fun h=>by cases(dV h).2) fun _=>?_⟩
    have cd:=Wi (p:=pre++[(⟨y.f,y.a,fm y s⟩,false)]) (by rw[tu];simp;rfl)
    rw[abZ,<-hw]at cd
    refine⟨fun _=>⟨by omega,by omega⟩,fun _=>⟨by omega,by omega⟩,?_⟩
    refine⟨aF s,fun _=>io,aF s,fun _=>io,fun _=>⟨by omega,by omega⟩,fun _=>⟨by omega,by omega⟩,?_⟩
    refine⟨by kernel_rfl,?_⟩
    refine .inl (Ua [0,1,2,5,6] (hY (gf w (⟨y.f,y.a,fm y s⟩,false)) ⟨y.f,y.a+fm y s,k8 y s⟩ true cd.1 cd.2 (by show 0<=k8 y s/\k8 y s<=_;omega)) (by kernel_rfl) rfl rfl ?_)
    refine aby (fun h=>by cases h) fun _=>?_
    refine⟨fun _=>⟨by omega,by omega⟩,fun _=>⟨by omega,by omega⟩,fun _=>⟨by omega,by omega⟩,⟨j+1,⟨y.f,y.a+fm y s+k8 y s,y.n-fm y s-k8 y s⟩,gf (gf w (⟨y.f,y.a,fm y s⟩,false)) (⟨y.f,y.a+fm y s,k8 y s⟩,true)⟩,jn rfl rfl rfl rfl,⟨me,hf,by dsimp only;omega,by dsimp only;omega,by dsimp only;omega,(pre++[(⟨y.f,y.a,fm y s⟩,false)])++[(⟨y.f,y.a+fm y s,k8 y s⟩,true)],by rw[tu];simp,by rw[hw];simp⟩,by dsimp only;omega⟩
   ·have hgf:bw (decide (0<fm y s)) true=false:=by rw[abX hO];rfl
    have h0:0<=fm y s:=by unfold fm;split<;>omega
    rw[if_neg hO,List.nil_append]at tu
    have T2:=hpp (⟨y.f,y.a+fm y s,k8 y s⟩,true) (by rw[tu];simp)
    dsimp only at T2
    have cd:=jP
    refine .inr ⟨hgf,.dv (B false),fun h=>h,fun _ h=>uP h,aby (fun h=>absurd (abQ (dV h).1) hO) fun _=>?_⟩
    refine⟨fun _=>⟨by omega,by omega⟩,fun _=>⟨by omega,by omega⟩,?_⟩
    refine⟨aF s,fun _=>io,aF s,fun _=>io,fun _=>⟨by omega,by omega⟩,fun _=>⟨by omega,by omega⟩,?_⟩
    refine⟨by kernel_rfl,?_⟩
    refine .inl (Ua [0,1,2,5,6] (hY (w) ⟨y.f,y.a+fm y s,k8 y s⟩ true cd.1 cd.2 (by show 0<=k8 y s/\k8 y s<=_;omega)) (by kernel_rfl) rfl rfl ?_)
    refine aby (fun h=>by cases h) fun _=>?_
    refine⟨fun _=>⟨by omega,by omega⟩,fun _=>⟨by omega,by omega⟩,fun _=>⟨by omega,by omega⟩,⟨j+1,⟨y.f,y.a+fm y s+k8 y s,y.n-fm y s-k8 y s⟩,gf (w) (⟨y.f,y.a+fm y s,k8 y s⟩,true)⟩,jn rfl rfl rfl rfl,⟨me,hf,by dsimp only;omega,by dsimp only;omega,by dsimp only;omega,pre++[(⟨y.f,y.a+fm y s,k8 y s⟩,true)],by rw[tu];simp,by rw[hw];simp⟩,by dsimp only;omega⟩
  ·have iW:D0 y (set.drop j)=if 0<y.n then[(y,false)]else[]:=by
    by_cases wK:j<set.length
    ·have IG:=IG wK
     rw[List.drop_eq_getElem_cons wK]
     rw[aaa wK]at IG
     injection IG with IG
     rw[IG]
     refine P4 ?_
     have h2:=lQ hc
     rw[Bool.eq_false_iff]
     intro hg
     simp only[SN,aca]at hg
     exact h2 ⟨by rw[hg.1,abW (by omega),hg.2.1];rfl,hg.2.2⟩
    ·rw[List.drop_eq_nil_of_le (by omega)]
     conv=>lhs;unfold D0
   have jP:=Wi tu
   rw[<-hw]at jP
   rw[iW]at tu
   rw[tu,abZ,<-hw]at dQ
   repeat first|apply g1|apply g2|apply g3|apply g4|apply g5
   by_cases hO:0<y.n
   ·have rX:bw (decide (0<y.n)) true=true:=uP (abW hO)
    rw[if_pos hO]at dQ
    refine .inl (Ua [0,1,2,5,6] (hY w y false jP.1 jP.2 (by omega)) (by kernel_rfl) rfl rfl ?_)
    refine⟨rX,fun _=>rfl,fun _ h=>uP h,aby (fun h=>by cases(dV h).2) fun _=>?_⟩
    exact⟨fun _=>⟨by omega,by omega⟩,i+1,jn rfl (by simp only[dQ];rfl) rfl rfl,au,mlt au⟩
   ·have hgf:bw (decide (0<y.n)) true=false:=by rw[abX hO];rfl
    rw[if_neg hO]at dQ
    refine .inr ⟨hgf,.dv (B false),fun h=>h,fun _ h=>uP h,aby (fun h=>absurd (abQ (dV h).1) hO) fun _=>?_⟩
    exact⟨fun _=>⟨by omega,by omega⟩,i+1,jn rfl (by simp only[dQ];rfl) rfl rfl,au,mlt au⟩
 ·have he:i=l.length:=by have:=abR h;omega
  subst he
  have:zN l set z l.length=(l.flatMap (oA set)).foldl gf z:=by unfold zN;rw[abP]
  rw[this]
  exact ext (by kernel_rfl) rfl rfl
end
section
open Go.TM
variable [bJ]
def SO:List AV->List AV->Bool
 |[],[]=>true
 |.any::r,_::l=>SO r l
 |.ptr i o::r,.ptr j p::l=>Nat.beq i j&&Nat.beq o p&&SO r l
 |_,_=>false
theorem mV{m:Nat}{κ κ':Nat->ar}:∀{r l:List AV},SO r l=true->dU m κ κ' r l
 |[],[],_=>trivial
 |.any::r,_::l,h=>⟨tv,mV (r:=r) (l:=l) h⟩
 |.ptr i o::r,.ptr j p::l,h=>by
  simp only[SO,aca]at h
  have h1:=abD h.1.1
  have h2:=abD h.1.2
  subst h1;subst h2
  exact⟨rfl,mV h.2⟩
theorem rS(l:List Lt):(oo (.aB 3 (l.map aF))).Le (aS l):=DV.Le.of_eq (by
 show DV.sl 3 (w8 (l.map aF))=_
 rw[fE (fun _=>rfl)])
theorem F8(l set:List Lt):aq Tryz.prog 213 [.dv (aS l),.dv (aS set)] 0 [] 2 [.fn 236 [.ptr 0 0,.ptr 1 0]] [(0,.cells [.dv (aS l)]),(1,.cells [.dv (aS set)])]:=by
 refine cO Tryz.func213 rfl (by kernel_rfl) ?_
 exact ext (by kernel_rfl) rfl rfl
def kI0(rc:RC)(l set:List Lt):ae:=[(0,.c5 rc .ready (((List.replicate 22 .any).set 4 (.ptr 1 0)).set 5 (.ptr 2 0))),(1,.cells [.dv .az]),(2,.cells [.dv .az]),(3,.cells [.dv (aS l)]),(4,.cells [.dv (aS set)])]
def kI1(rc:RC)(l set:List Lt):ae:=[(0,.c5 rc .ready (((List.replicate 22 .any).set 4 (.ptr 1 0)).set 5 (.ptr 2 0))),(1,.cells [.own 5 0 0 []]),(2,.cells [.dv .az]),(3,.cells [.dv (aS l)]),(4,.cells [.dv (aS set)]),(5,.tree 0 0 (.aB 3 []))]
def kI2(rc:RC)(l set:List Lt):ae:=[(0,.c5 rc .ready (((List.replicate 22 .any).set 4 (.ptr 1 0)).set 5 (.ptr 2 0))),(1,.cells [.own 5 1 0 []]),(2,.cells [.own 6 0 0 []]),(3,.cells [.dv (aS l)]),(4,.cells [.dv (aS set)]),(5,.tree 1 0 (.aB 3 [])),(6,.tree 0 0 (.aB 3 []))]
theorem IH(rc:RC)(l set:List Lt)(hl:∀x∈l,aQ x=true)(hs:NS set)(hp:∀x∈set,aQ x=true)(DQ:l.length<=5000)(iQ:set.length<=5000)(aW:l.length*(2*set.length+1)<=90000)
 (hY:∀(z:ZZ) (x:Lt) (b:Bool),lB z.1->lB z.2->0<=x.n/\x.n<=1099511627776->eh Tryz.prog [cJ (aF x),.dv (B b)] 5 (zW 0 rc z) 0 fun r k=>r=[.dv (B true)]/\k=zW 1 rc (gf z (x,b))):
 aq Tryz.prog 236 [.eP 0,.ptr 3 0,.ptr 4 0] 5 (kI0 rc l set) 2 [] (Xi 1 rc l set (An l set)):=by
 have h1:=Wg rc l set ([],[]) hl hs hp DQ iQ ⟨fun _ h=>(by cases h),fun _ h=>(by cases h),ab3 _,ab3 _⟩ aW hY
 have h2:=cM 6 (K0:=kI2 rc l set) h1 ⟨⟨_,rfl,rfl,fun j hj=>(by match j,hj with|0,_=>exact .refl _|1,_=>exact .refl _|2,_=>exact .cells (.rY .nil)|3,_=>exact .refl _|4,_=>exact .refl _|5,_=>exact .refl _|j+7,_=>exact .refl _)⟩,iS.refl _ _ _ _⟩
 have h3:=cM 5 (K0:=Xi 0 rc l set ([],[])) h2 ⟨⟨_,rfl,rfl,fun j hj=>(by match j,hj with|0,_=>exact .refl _|1,_=>exact .cells (.rY .nil)|2,_=>exact .refl _|3,_=>exact .refl _|4,_=>exact .refl _|6,_=>exact .refl _|j+7,_=>exact .refl _)⟩,iS.refl _ _ _ _⟩
 have h4:=jh (K2:=kI1 rc l set) (args2:=[.eP 0,.ptr 3 0,.ptr 4 0]) h3 rfl rfl (fun j hj=>(by match j,hj with|0,_=>exact .inl ⟨rfl,rfl⟩|1,_=>exact .inl ⟨rfl,rfl⟩|2,_=>exact .inr ⟨_,_,rfl,rfl,.born .nil⟩|3,_=>exact .inl ⟨rfl,rfl⟩|4,_=>exact .inl ⟨rfl,rfl⟩|5,_=>exact .inl ⟨rfl,rfl⟩|j+7,_=>exact .inl ⟨rfl,rfl⟩)) (.same _ rfl (.same _ rfl (.same _ rfl .nil)))
 exact jh (K2:=kI0 rc l set) (args2:=[.eP 0,.ptr 3 0,.ptr 4 0]) h4 rfl rfl (fun j hj=>(by match j,hj with|0,_=>exact .inl ⟨rfl,rfl⟩|1,_=>exact .inr ⟨_,_,rfl,rfl,.born .nil⟩|2,_=>exact .inl ⟨rfl,rfl⟩|3,_=>exact .inl ⟨rfl,rfl⟩|4,_=>exact .inl ⟨rfl,rfl⟩|j+6,_=>exact .inl ⟨rfl,rfl⟩)) (.same _ rfl (.same _ rfl (.same _ rfl .nil)))
theorem vV(l set:List Lt)(hl:∀x∈l,aQ x=true)(hs:NS set)(hp:∀x∈set,aQ x=true)(DQ:l.length<=5000)(iQ:set.length<=5000)(aW:l.length*(2*set.length+1)<=90000):aO Tryz.prog 197 [aS l,aS set] [aS (An l set).1,aS (An l set).2]:=by
 refine pO Tryz.func197 rfl (by kernel_rfl) rfl ?_
 have hi:=IH (F6 Tryz.f197) l set hl hs hp DQ iQ aW fun z x b a1 a2 a3=>IF z x b a1 a2 a3
 refine .inr (cl [] (F8 l set) (by kernel_rfl) rfl rfl ?_)
 refine⟨F6 Tryz.f197,by kernel_rfl,?_⟩
 refine⟨[4,0,1,2,3],[.eP 0,.ptr 3 0,.ptr 4 0],kI0 (F6 Tryz.f197) l set,2,_,hi,by kernel_rfl,⟨rfl,rfl,rfl,tv⟩,⟨⟨rfl,rfl,?_⟩,⟨rf,tv⟩,⟨rf,tv⟩,⟨rf,tv⟩,⟨rf,tv⟩,tv⟩,?_⟩
 ·exact mV (by kernel_rfl)
 rintro rs K2 ⟨rfl,rfl⟩
 refine⟨by kernel_rfl,?_⟩
 conv=>whnf
 exact⟨by kernel_rfl,rS _,rS _,tv⟩
end
section
open Go.TM
variable [bJ]
theorem Mk(x y:Lt)(hy:0<=y.a/\y.a<=1099511627776/\0<=y.n/\y.n<=1099511627776):aO Tryz.prog 199 [aF x,aF y] [B (decide (x.f=y.f/\x.a=y.a+y.n))]:=by
 refine pO Tryz.func199 rfl (by kernel_rfl) rfl ?_
 refine⟨fun _=>⟨by omega,by omega⟩,DV.Le.of_eq ?_,tv⟩
 congr 1
 rw[ab5];simp
theorem ZB(l:List Lt)(x:Lt)(hl:lB l)(hx:0<=x.n/\x.n<=1099511627776):aq Tryz.prog 166 [.own 0 1 0 [],cJ (aF x)] 1 [(0,.tree 1 0 (.aB 3 (l.map aF)))] 0 [.own 0 1 0 []] [(0,.tree 1 0 (.aB 3 ((bj l x).map aF)))]:=by
 obtain⟨hlen,Jm⟩:=hl
 have ll:(l.map aF).length=l.length:=abz ..
 refine cO Tryz.func166 rfl (by kernel_rfl) ?_
 refine aby (fun h=>?_) fun h=>?_
 ·have h:x.n=0:=beq_iff_eq.1 h
  rw[bj,if_pos h]
  exact ext (by kernel_rfl) rfl rfl
 have h0:x.n≠0:=beq_eq_false_iff_ne.1 h
 repeat first|apply g1|apply g2|apply g3|apply g4|apply g5
 obtain⟨y,hy⟩:∃y,y=l.getLastD ⟨0,0,0⟩:=⟨_,rfl⟩
 have dr:bw (decide (0<(((l.map aF).length:Nat):Int))) true=true->0<l.length:=fun h=>by have:=abQ (gL h);omega
 have ia:∀h:bw (decide (0<(((l.map aF).length:Nat):Int))) true=true,-9223372036854775808<=(((l.map aF).length:Nat):Int)-1/\(((l.map aF).length:Nat):Int)-1<=9223372036854775807:=fun h=>by omega
 have ib:∀h:bw (decide (0<(((l.map aF).length:Nat):Int))) true=true,0<=(((l.map aF).length:Nat):Int)-1/\(((l.map aF).length:Nat):Int)-1<(((l.map aF).length:Nat):Int):=fun h=>by have:=dr h;omega
 have ie:∀h:bw (decide (0<(((l.map aF).length:Nat):Int))) true=true,(l.map aF)[((((l.map aF).length:Nat):Int)-1).toNat]?=some (aF y):=fun h=>by
  have:=(om (dr h)).1
  rw[abB,show((((l.map aF).length:Nat):Int)-1).toNat=l.length-1 by omega,this,hy];rfl
 have MS:∀h:bw (decide (0<(((l.map aF).length:Nat):Int))) true=true,0<=y.a/\y.a<=1099511627776/\0<=y.n/\y.n<=1099511627776:=fun h=>Jm y (by rw[hy];exact abC (om (dr h)).1)
 refine⟨fun h=>ia h,?_⟩
 repeat first|apply g1|apply g2|apply g3|apply g4|apply g5
 refine⟨fun h=>ib h,?_⟩
 repeat first|apply g1|apply g2|apply g3|apply g4|apply g5
 refine⟨aF y,fun h=>ie h,?_⟩
 repeat first|apply g1|apply g2|apply g3|apply g4|apply g5
 refine .inl ⟨_,fun h=>(Mk x y (MS h)).ok,?_⟩
 repeat first|apply g1|apply g2|apply g3|apply g4|apply g5
 refine⟨by kernel_rfl,aby (fun h=>?_) fun h=>?_⟩
 ·have h1:=dV h
  have B0:=abQ h1.2
  have hb:=uP h1.1
  have MS:=MS hb
  have e:bj l x=l.set (l.length-1) ⟨y.f,y.a,y.n+x.n⟩:=by
   have wX:=(om (dr hb)).2
   rw[<-hy]at wX
   have hc:y.f=x.f/\y.a+y.n=x.a:=⟨B0.1.symm,B0.2.symm⟩
   unfold bj
   rw[if_neg h0,wX]
   simp only
   rw[if_pos hc]
   conv=>rhs;rw[gS wX]
   have:(l.dropLast++[y]).length-1=l.dropLast.length:=by simp
   simp
  have ei:((((l.map aF).length:Nat):Int)-1).toNat=l.length-1:=by omega
  refine⟨fun _=>ia hb,fun _=>ib hb,aF y,fun _=>ie hb,fun _=>⟨by omega,by omega⟩,fun _=>ib hb,?_⟩
  refine⟨[I (y.n+x.n)],⟨rf,tv⟩,aF y,ie hb,?_⟩
  refine⟨by kernel_rfl,ext (by kernel_rfl) rfl ?_⟩
  rw[e,List.map_set,<-ei]
  rfl
 ·have e:bj l x=l++[x]:=by
   by_cases hp:0<l.length
   ·have wX:=(om hp).2
    rw[<-hy]at wX
    have hn:¬(y.f=x.f/\y.a+y.n=x.a):=fun hc=>lQ h ⟨abW (by omega),abW ⟨hc.1.symm,hc.2.symm⟩⟩
    unfold bj
    rw[if_neg h0,wX]
    simp only
    rw[if_neg hn]
   ·have:l=[]:=List.length_eq_zero_iff.1 (by omega)
    subst this
    unfold bj
    rw[if_neg h0];rfl
  refine .inl ⟨[aF x],rfl,⟨rf,rf,rf,tv⟩,(by simp;rfl),?_⟩
  refine .inr ⟨[aF x],b7.refl _,bL (by simp;omega),by simp;omega,?_⟩
  refine ext (by kernel_rfl) rfl ?_
  rw[e,abS]
  rfl
theorem u6(l:List Lt)(x:Lt)(hl:lB l)(hx:0<=x.n/\x.n<=1099511627776):aq Tryz.prog 166 [.own 0 0 0 [],cJ (aF x)] 1 [(0,.tree 0 0 (.aB 3 (l.map aF)))] 0 [.own 0 1 0 []] [(0,.tree 1 0 (.aB 3 ((bj l x).map aF)))]:=
 cM 0 (ZB l x hl hx) ⟨⟨_,rfl,rfl,fun j hj=>(by match j,hj with|j+1,_=>exact .refl _)⟩,.rY (.same _ .nil)⟩
end
end Go.Proofs.YtpbiiigpphehbaaGreatDoor
