import Derived.Test.YtfpebgpgabjieaaGreatDoorGM29
import Derived.Test.YtfpebgpgabjieaaGreatDoorGM41
import Derived.Test.YtfpebgpgabjieaaGreatDoorGM31
import Derived.Test.YtfpebgpgabjieaaGreatDoorGM18
set_option linter.all false
open Go.TM.oA Go.TM.oB Go.TM.oC Go.TM.oD Go.TM.oE
namespace Go.Proofs.YtfpebgpgabjieaaGreatDoor
set_option maxRecDepth 100000
set_option maxHeartbeats 4000000
section
open Go.TM
variable [bj]
theorem YU(l:List bp)(hl:l.length<=900000)(hp:∀f∈l,f.ps.length<=1000000/\f.md.length<=1000000):aj Tryz.prog 38 [.dv (.sl 11 (l.map ar)),.dv (.fn 39 [])] 0 [] 0 [.dv (.sl 11 (l.map ar))] []:=by
 have ll:(l.map ar).length=l.length:=adO ..
 refine cO Tryz.func38 rfl (by kernel_rfl) ?_
 refine adN (fun h=>?_) fun h=>?_
 ·have hz:l=[]:=by have:=beq_iff_eq.1 h;exact List.length_eq_zero_iff.1 (by omega)
  subst hz
  exact⟨_,_,⟨rfl,rfl⟩,by kernel_rfl,⟨DV.aL 11,tv⟩,tv⟩
 refine⟨.agg [I 0,I 0,I 0,I 0,I 0,I 0,I 0,I 0,I 0,.aw,.aw],⟨rf,rf,rf,rf,rf,rf,rf,rf,rf,rf,rf,tv⟩,by omega,by omega,?_,by omega,false,(fun h=>by cases h),?_⟩
 ·have hb:=bF (n:=l.length) (by omega)
  rw[ll];exact Int.le_trans (Int.le_of_eq (Int.natCast_mul _ _).symm) (Int.ofNat_le.2 hb)
 have e0:List.replicate (((l.map ar).length:Int)).toNat (.agg [I 0,I 0,I 0,I 0,I 0,I 0,I 0,I 0,I 0,.aw,.aw])=(l.map ar).take 0++List.replicate ((l.map ar).length-0) (.agg [I 0,I 0,I 0,I 0,I 0,I 0,I 0,I 0,I 0,.aw,.aw]):=by simp
 rw[e0]
 refine⟨Nat,fun i=>⟨1,[(1,.dv (.fn 39 [])),(5,.own 0 0 0 []),(14,.dv (.sl 11 (l.map ar))),(15,.dv (I l.length)),(16,.dv (I i))],[(0,.tree 0 0 (.aD 11 ((l.map ar).take i++List.replicate ((l.map ar).length-i) (.agg [I 0,I 0,I 0,I 0,I 0,I 0,I 0,I 0,I 0,.aw,.aw]))))]⟩,fun i=>i<=l.length,fun i=>l.length-i,0,fun _=>rfl,jn (by simp only[ll];rfl) rfl rfl rfl,ad3 _,?_⟩
 rintro i hi
 refine adN (fun h=>?_) fun h=>?_
 ·have ay:i<l.length:=by have:=ad5 h;omega
  obtain⟨x,hx⟩:∃x,l[i]?=some x:=⟨_,ace ay⟩
  have ix:(l.map ar)[(i:Int).toNat]?=some (ar x):=by rw[adQ];simp[hx]
  have hlx:(l.map ar)[i]?=some (ar x):=by rw[adQ,hx];rfl
  have Qr:=vf (z:=.agg [I 0,I 0,I 0,I 0,I 0,I 0,I 0,I 0,I 0,.aw,.aw]) hlx
  have km:=zd (l.map ar) (.agg [I 0,I 0,I 0,I 0,I 0,I 0,I 0,I 0,I 0,.aw,.aw]) i (by omega)
  have hfg:=zb (z:=.agg [I 0,I 0,I 0,I 0,I 0,I 0,I 0,I 0,I 0,.aw,.aw]) (show i<(l.map ar).length by omega)
  refine⟨ar x,fun _=>⟨by omega,ix⟩,?_⟩
  refine .inl ⟨_,fun _=>(vg x (hp x (adR hx)).1 (hp x (adR hx)).2).ok,?_⟩
  refine⟨fun _=>⟨by omega,by rw[km];omega⟩,(ar x).cells,⟨rf,rf,rf,rf,rf,rf,rf,rf,rf,rf,rf,tv⟩,.agg [I 0,I 0,I 0,I 0,I 0,I 0,I 0,I 0,I 0,.aw,.aw],hfg,?_⟩
  exact⟨fun _=>by omega,i+1,jn rfl (by simp only[<-Qr];rfl) rfl rfl,ay,mlt ay⟩
 ·have he:i=l.length:=by have:=ad6 h;omega
  subst he
  have Gl:(l.map ar).take l.length++List.replicate ((l.map ar).length-l.length) (.agg [I 0,I 0,I 0,I 0,I 0,I 0,I 0,I 0,I 0,.aw,.aw])=(l.map ar):=by rw[<-ll,ad4];simp
  rw[Gl]
  exact⟨_,_,⟨rfl,rfl⟩,by kernel_rfl,⟨zf 11 (fun _=>rfl),tv⟩,tv⟩
theorem YV(l:List bp)(hl:l.length<=900000)(hp:∀f∈l,f.ps.length<=1000000/\f.md.length<=1000000):aj Tryz.prog 38 [.own 0 0 0 [],.dv (.fn 39 [])] 1 [(0,.tree 0 0 (.aD 11 (l.map ar)))] 1 [.own 1 0 0 []] [(0,.tree 0 0 (.aD 11 (l.map ar))),(1,.tree 0 0 (.aD 11 (l.map ar)))]:=by
 have ll:(l.map ar).length=l.length:=adO ..
 refine cO Tryz.func38 rfl (by kernel_rfl) ?_
 refine adN (fun h=>?_) fun h=>?_
 ·have hz:l=[]:=by have:=beq_iff_eq.1 h;exact List.length_eq_zero_iff.1 (by omega)
  subst hz
  exact⟨_,_,⟨rfl,rfl⟩,by kernel_rfl,⟨⟨rfl,rfl,rfl,rfl,11,rfl⟩,tv⟩,⟨rfl,rfl⟩,⟨rfl,rfl,11,rfl⟩,tv⟩
 refine⟨.agg [I 0,I 0,I 0,I 0,I 0,I 0,I 0,I 0,I 0,.aw,.aw],⟨rf,rf,rf,rf,rf,rf,rf,rf,rf,rf,rf,tv⟩,by omega,by omega,?_,by omega,false,(fun h=>by cases h),?_⟩
 ·have hb:=bF (n:=l.length) (by omega)
  rw[ll];exact Int.le_trans (Int.le_of_eq (Int.natCast_mul _ _).symm) (Int.ofNat_le.2 hb)
 have e0:List.replicate (((l.map ar).length:Int)).toNat (.agg [I 0,I 0,I 0,I 0,I 0,I 0,I 0,I 0,I 0,.aw,.aw])=(l.map ar).take 0++List.replicate ((l.map ar).length-0) (.agg [I 0,I 0,I 0,I 0,I 0,I 0,I 0,I 0,I 0,.aw,.aw]):=by simp
 rw[e0]
 refine⟨Nat,fun i=>⟨2,[(1,.dv (.fn 39 [])),(5,.own 1 0 0 []),(14,.own 0 0 0 []),(15,.dv (I l.length)),(16,.dv (I i))],[(0,.tree 0 0 (.aD 11 (l.map ar))),(1,.tree 0 0 (.aD 11 ((l.map ar).take i++List.replicate ((l.map ar).length-i) (.agg [I 0,I 0,I 0,I 0,I 0,I 0,I 0,I 0,I 0,.aw,.aw]))))]⟩,fun i=>i<=l.length,fun i=>l.length-i,0,fun _=>rfl,jn (by simp only[ll];rfl) rfl rfl rfl,ad3 _,?_⟩
 rintro i hi
 refine adN (fun h=>?_) fun h=>?_
 ·have ay:i<l.length:=by have:=ad5 h;omega
  obtain⟨x,hx⟩:∃x,l[i]?=some x:=⟨_,ace ay⟩
  have ix:(l.map ar)[(i:Int).toNat]?=some (ar x):=by rw[adQ];simp[hx]
  have hlx:(l.map ar)[i]?=some (ar x):=by rw[adQ,hx];rfl
  have Qr:=vf (z:=.agg [I 0,I 0,I 0,I 0,I 0,I 0,I 0,I 0,I 0,.aw,.aw]) hlx
  have km:=zd (l.map ar) (.agg [I 0,I 0,I 0,I 0,I 0,I 0,I 0,I 0,I 0,.aw,.aw]) i (by omega)
  have hfg:=zb (z:=.agg [I 0,I 0,I 0,I 0,I 0,I 0,I 0,I 0,I 0,.aw,.aw]) (show i<(l.map ar).length by omega)
  refine⟨fun _=>by omega,ar x,fun _=>ix,?_⟩
  refine .inl ⟨_,fun _=>(vg x (hp x (adR hx)).1 (hp x (adR hx)).2).ok,?_⟩
  refine⟨fun _=>⟨by omega,by rw[km];omega⟩,(ar x).cells,⟨rf,rf,rf,rf,rf,rf,rf,rf,rf,rf,rf,tv⟩,.agg [I 0,I 0,I 0,I 0,I 0,I 0,I 0,I 0,I 0,.aw,.aw],hfg,?_⟩
  exact⟨fun _=>by omega,i+1,jn rfl (by simp only[<-Qr];rfl) rfl rfl,ay,mlt ay⟩
 ·have he:i=l.length:=by have:=ad6 h;omega
  subst he
  have Gl:(l.map ar).take l.length++List.replicate ((l.map ar).length-l.length) (.agg [I 0,I 0,I 0,I 0,I 0,I 0,I 0,I 0,I 0,.aw,.aw])=(l.map ar):=by rw[<-ll,ad4];simp
  rw[Gl]
  exact ext (by kernel_rfl) rfl rfl
theorem D2(P:PL)(hn:P.fl.length<=900000)(hp:∀f∈P.fl,f.ps.length<=1000000/\f.md.length<=1000000):aj Tryz.prog 11 [.ptr 0 0] 7 (lF P) 1 [.own 7 0 0 []] (lF P++[(7,.tree 0 0 (.aD 11 (P.fl.map ar)))]):=by
 refine cO Tryz.func11 rfl (by kernel_rfl) ?_
 refine .inr ⟨[4],[.own 0 0 0 [],.dv (.fn 39 [])],_,1,_,_,YV P.fl hn hp,by kernel_rfl,by kernel_rfl,⟨rfl,rf,tv⟩,⟨⟨rfl,rfl⟩,tv⟩,?_⟩
 exact ext (by kernel_rfl) rfl rfl
end
section
open Go.TM
structure FW(fl:List bp):Prop where
 len:fl.length<=1000
 nd:(fl.map (·.id)).Nodup
 ok:∀f∈fl,YS f/\f.ps.length+f.md.length<=800
 rp:∀(j:Nat) (f:bp),fl[j]?=some f->∀x∈f.ps,∃(i:Nat) (g:bp),fl[i]?=some g/\i<j/\g.id=x.f/\x.a+x.n<=g.n/\g.it=f.it
 rm:∀(j:Nat) (f:bp),fl[j]?=some f->∀id∈f.md,∃(i:Nat) (g:bp),fl[i]?=some g/\i<j/\g.id=id
theorem Hg{fl:List bp}{j:Nat}{f:bp}(h:fl[j]?=some f):oM fl (j+1)=oM fl j++[(f.id,(j:Int))]:=by
 have hl:=(adP.1 h).1
 unfold oM
 rw[adY,h,show(some f).toList=[f]from rfl,List.zipIdx_append,ad7]
 simp[show min j fl.length=j by omega]
theorem RF(fl:List bp)(j:Nat):(oM fl j).map (·.1)=(fl.take j).map (·.id):=by
 unfold oM
 rw[List.map_map]
 generalize fl.take j=l
 have:∀(l:List bp) (n:Nat),(l.zipIdx n).map ((fun p:Int×Int=>p.1)∘fun p:bp×Nat=>(p.1.id,(p.2:Int)))=l.map (·.id):=fun l=>by
  induction l with
  |nil=>intro n;rfl
  |cons a l ih=>intro n;rw[List.zipIdx_cons,List.map_cons,ih,List.map_cons];rfl
 exact this l 0
theorem zK{κ β:Type}[DecidableEq κ]{k:κ}{x:β}:∀{m:List (κ×β)},k∉m.map (·.1)->aH m k x=m++[(k,x)]
 |[],_=>rfl
 |(q,v)::m,h=>by
  rw[List.map_cons,adV]at h
  rw[aH,if_neg (fun e=>h (.inl e.symm)),zK fun hm=>h (.inr hm)];rfl
theorem FW.fresh{fl:List bp}(h:FW fl){j:Nat}{f:bp}(hf:fl[j]?=some f):f.id∉(oM fl j).map (·.1):=by
 rw[RF]
 intro hm
 obtain⟨g,hg,he⟩:=aeg.1 hm
 obtain⟨i,hi⟩:=aea hg
 rw[List.getElem?_take]at hi
 split at hi
 ·rename_i wX
  obtain⟨i1,i2⟩:=adP.1 hi
  obtain⟨j1,j2⟩:=adP.1 hf
  have:=List.pairwise_iff_getElem.1 h.nd i j (by simpa using i1) (by simpa using j1) wX
  rw[List.getElem_map,List.getElem_map,i2,j2]at this
  exact this he
 ·cases hi
theorem FW.get{fl:List bp}(h:FW fl):∀(j:Nat),∀(i:Nat) (g:bp),fl[i]?=some g->i<j->j<=fl.length->aU (oM fl j) g.id=some (i:Int)
 |0,i,g,_,hi,_=>absurd hi (Nat.not_lt_zero i)
 |j+1,i,g,hg,hi,hj=>by
  have hx:=ace (show j<fl.length by omega)
  have eC:=h.fresh hx
  have:aH (oM fl j) fl[j].id (j:Int)=oM fl (j+1):=by rw[zK eC,Hg hx]
  rw[<-this,iY]
  by_cases wX:i=j
  ·subst wX;rw[hx]at hg;injection hg with hg;subst hg;rw[if_pos rfl]
  ·have h1:=FW.get h j i g hg (by omega) (by omega)
   rw[if_neg,h1]
   intro e
   exact eC (aeg.2 ⟨(fl[j].id,(i:Int)),lC (by rw[e];exact h1),rfl⟩)
def dK(f:bp)(k:Nat):List Int:=(List.range k).map fun i=>aJ (f.ps.take i)
def zL(fl:List bp)(j:Nat):List (List Int):=(fl.take j).map (fun f=>dK f f.ps.length)++List.replicate (fl.length-j) []
theorem FW.acZ{fl:List bp}(h:FW fl):abT fl (oM fl fl.length):=by
 refine⟨h.len,fun f hf=>by have:=(h.ok f hf).2;simp[wm];exact this,fun j f hf id kl=>?_⟩
 unfold wm at kl
 rcases adX.1 kl with kl|kl
 ·obtain⟨x,hx,rfl⟩:=aeg.1 kl
  obtain⟨i,g,h1,h2,h3,_⟩:=h.rp j f hf x hx
  exact⟨i,by rw[<-h3];exact h.get fl.length i g h1 (adP.1 h1).1 (aei _),h2⟩
 ·obtain⟨i,g,h1,h2,h3⟩:=h.rm j f hf id kl
  exact⟨i,by rw[<-h3];exact h.get fl.length i g h1 (adP.1 h1).1 (aei _),h2⟩
theorem FW.abU{fl:List bp}(h:FW fl){f:bp}(hf:f∈fl):WI fl f:=by
 obtain⟨j,hj⟩:=aea hf
 refine⟨fun x hx=>?_,fun id kl=>?_⟩
 ·obtain⟨i,g,h1,_,h3,h4,h5⟩:=h.rp j f hj x hx;exact⟨i,g,h1,h3,h4,h5⟩
 ·obtain⟨i,g,h1,_,h3⟩:=h.rm j f hj id kl;exact⟨i,g,h1,h3⟩
def grK(fl:List bp):ad:=[(0,.tree 0 0 (.omap bX (j4 (oM fl fl.length)))),(1,.cells [.dv (.sl 11 (fl.map ar)),.dv (.sl 1 ((fl.map fun f=>dK f f.ps.length).map Ints)),.own 0 0 0 [],.dv (.sl 1 ((Ny fl (oM fl fl.length)).map fun(i:Nat)=>I (i:Int))),.dv .aw])]
variable [bj]
theorem Vi(l:List (List Int)):(oY (.aD 1 (l.map eS))).Le (.sl 1 (l.map Ints)):=by
 show(DV.sl 1 (uX (l.map eS))).Le _
 rw[Go.TM.dV]
 refine DV.VD (by simp) fun i x y hx hy=>?_
 rw[adQ]at hx hy
 cases hr:l[i]? with
 |none=>rw[hr]at hx;cases hx
 |some r=>
  rw[hr]at hx hy
  injection hx with hx;injection hy with hy
  subst hx;subst hy
  refine⟨?_,fun d hd=>by rw[adU.1 (show d∈[Ints r]from hd)];rfl⟩
  cases r with
  |nil=>exact⟨DV.aL 1,tv⟩
  |cons a r=>exact⟨DV.Le.of_eq (by show DV.sl 1 (uX _)=_;rw[dV (fun _=>rfl)]),tv⟩
theorem NA(fl:List bp)(h:FW fl):aj Tryz.prog 25 [.dv (.sl 11 (fl.map ar))] 0 [] 3 [.ptr 1 0,.dv (I 0)] (grK fl):=by
 have hl:=h.len
 have lf:(fl.map ar).length=fl.length:=adO ..
 refine cO Tryz.func25 rfl (by kernel_rfl) ?_
 refine adN (fun h2=>?_) fun _=>?_
 ·exfalso;have:=ad5 h2;omega
 refine⟨bX,Nat,fun j=>⟨2,[(0,.dv (.sl 11 (fl.map ar))),(4,.ptr 1 0),(25,.dv (.sl 11 (fl.map ar))),(26,.dv (I (fl.map ar).length)),(27,.dv (I j))],[(0,.tree 0 0 (.omap bX (j4 (oM fl j)))),(1,.cells [.dv .aw,.dv .aw,.own 0 0 0 [],.dv .aw,.dv .aw])]⟩,fun j=>j<=fl.length,fun j=>fl.length-j,0,fun _=>rfl,jn rfl rfl rfl rfl,ad3 _,?_⟩
 intro j hj
 refine adN (fun h2=>?_) fun h2=>?_
 ·have ay:j<fl.length:=by have:=ad5 h2;omega
  obtain⟨f,hf⟩:∃f,fl[j]?=some f:=⟨_,ace ay⟩
  have hm:=adR hf
  have im:(fl.map ar)[(j:Int).toNat]?=some (ar f):=by rw[adQ];simp[hf]
  have eC:=h.fresh hf
  have hq:=dU (ev:=eI) eT (oM fl j) f.id
  rw[kQ eC]at hq
  have hpu:cW (j4 (oM fl j)) (eI f.id) (I j)=j4 (oM fl (j+1)):=by
   rw[Hg hf,<-zK eC];exact cP (ev:=eI) eT (oM fl j) f.id (j:Int)
  refine⟨ar f,fun _=>⟨by omega,im⟩,?_⟩
  refine .inl ⟨_,fun _=>(Nu f (h.ok f hm).1).ok,?_⟩
  refine adN (fun h=>by cases h) fun _=>?_
  refine⟨gf,eI f.id,rfl,rfl,I 0,false,fun _=>hq,fun _=>rfl,rfl,?_⟩
  refine⟨by kernel_rfl,adN (fun h=>by cases h) fun _=>?_⟩
  refine⟨gf,eI f.id,rfl,rfl,I j,⟨rf,tv⟩,rfl,false,fun _=>⟨mF (oM fl j) _,tJ _⟩,?_⟩
  rw[hpu]
  exact⟨by kernel_rfl,fun _=>by omega,j+1,jn rfl rfl rfl rfl,ay,mlt ay⟩
 obtain rfl:j=fl.length:=by have:=ad6 h2;omega
 refine⟨Nat,fun j=>⟨2,[(0,.dv (.sl 11 (fl.map ar))),(4,.ptr 1 0),(54,.dv (.sl 11 (fl.map ar))),(55,.dv (I (fl.map ar).length)),(56,.dv (I j))],[(0,.tree 0 0 (.omap bX (j4 (oM fl fl.length)))),(1,.cells [.dv .aw,.dv .aw,.own 0 0 0 [],.dv .aw,.dv .aw])]⟩,fun j=>j<=fl.length,fun j=>fl.length-j,0,fun _=>rfl,jn rfl rfl rfl rfl,ad3 _,?_⟩
 intro j hj
 refine adN (fun h2=>?_) fun h2=>?_
 ·have ay:j<fl.length:=by have:=ad5 h2;omega
  obtain⟨f,hf⟩:∃f,fl[j]?=some f:=⟨_,ace ay⟩
  have hm:=adR hf
  have im:(fl.map ar)[(j:Int).toNat]?=some (ar f):=by rw[adQ];simp[hf]
  refine⟨ar f,fun _=>⟨by omega,im⟩,?_⟩
  refine .inr (cl [1,0] (Nv (oM fl fl.length) fl f (h.ok f hm).1 (h.abU hm) (fun i g hg=>h.get fl.length i g hg (adP.1 hg).1 (aei _)) hl) (by kernel_rfl) rfl rfl ?_)
  refine adN (fun h=>by cases h) fun _=>?_
  exact⟨fun _=>by omega,j+1,jn rfl rfl rfl rfl,ay,mlt ay⟩
 obtain rfl:j=fl.length:=by have:=ad6 h2;omega
 refine .inr ⟨[],[.dv (.sl 11 (fl.map ar)),.dv (.fn 39 [])],[],0,_,_,YU fl (by omega) (fun f hf=>by have:=(h.ok f hf).2;omega),by kernel_rfl,by kernel_rfl,⟨rf,rf,tv⟩,tv,?_⟩
 refine .inr (cl [1,0] (RD fl (oM fl fl.length) h.acZ) (by kernel_rfl) rfl rfl ?_)
 refine adN (fun h=>by cases h) fun _=>?_
 refine⟨.aw,⟨rf,tv⟩,by omega,by omega,show(((fl.map ar).length:Int))*24<=_ by omega,by omega,false,(fun h=>by cases h),?_⟩
 generalize ac0:Ny fl (oM fl fl.length)=ord
 refine⟨Nat,fun j=>⟨3,[(4,.ptr 1 0),(85,.dv (.sl 11 (fl.map ar))),(86,.dv (I (fl.map ar).length)),(87,.dv (I j))],[(0,.tree 0 0 (.omap bX (j4 (oM fl fl.length)))),(1,.cells [.dv (.sl 11 (fl.map ar)),.own 2 0 0 [],.own 0 0 0 [],.dv (.sl 1 (ord.map fun(i:Nat)=>I (i:Int))),.dv .aw]),(2,.tree 0 0 (.aD 1 ((zL fl j).map eS)))]⟩,fun j=>j<=fl.length,fun j=>fl.length-j,0,fun _=>rfl,?_,ad3 _,?_⟩
 ·have e1:(zL fl 0).map eS=List.replicate (fl.map ar).length .aw:=by rw[lf];simp[zL,eS]
  exact jn rfl (by simp only[e1];rfl) rfl rfl
 intro j hj
 refine adN (fun h2=>?_) fun h2=>?_
 ·have ay:j<fl.length:=by have:=ad5 h2;omega
  obtain⟨f,hf⟩:∃f,fl[j]?=some f:=⟨_,ace ay⟩
  have hm:=adR hf
  have im:(fl.map ar)[(j:Int).toNat]?=some (ar f):=by rw[adQ];simp[hf]
  have b8:=h.ok f hm
  have Qy:=(dE b8.1.ps).2
  have lp:(f.ps.map ax).length=f.ps.length:=adO ..
  have ls:(zL fl j).length=fl.length:=by simp[zL];omega
  have hz:(zL fl j)[j]?=some []:=by
   unfold zL
   rw[List.getElem?_append_right (by simp;omega)]
   simp[show min j fl.length=j by omega,show 0<fl.length-j by omega]
  refine⟨ar f,fun _=>⟨by omega,im⟩,?_⟩
  refine⟨Nat,fun k=>⟨4,[(4,.ptr 1 0),(85,.dv (.sl 11 (fl.map ar))),(86,.dv (I (fl.map ar).length)),(87,.dv (I j)),(12,.dv (I j)),(14,.dv (I (aJ (f.ps.take k)))),(93,.dv (aQ f.ps)),(94,.dv (I (f.ps.map ax).length)),(95,.dv (I k))],[(0,.tree 0 0 (.omap bX (j4 (oM fl fl.length)))),(1,.cells [.dv (.sl 11 (fl.map ar)),.own 2 0 0 [],.own 0 0 0 [],.dv (.sl 1 (ord.map fun(i:Nat)=>I (i:Int))),.dv .aw]),(2,.tree 0 0 (.aD 1 (((zL fl j).set j (dK f k)).map eS)))]⟩,fun k=>k<=f.ps.length,fun k=>f.ps.length-k,0,fun _=>rfl,?_,ad3 _,?_⟩
  ·have e1:(zL fl j).set j (dK f 0)=zL fl j:=List.ext_getElem? fun q=>by
    rw[List.getElem?_set];split
    ·rename_i hq;subst hq;rw[hz];simp[ls,ay,dK]
    ·rfl
   exact jn rfl (by simp only[e1];rfl) rfl rfl
  intro k hk
  refine adN (fun h3=>?_) fun h3=>?_
  ·have RE:k<f.ps.length:=by have:=ad5 h3;omega
   obtain⟨x,hx⟩:∃x,f.ps[k]?=some x:=⟨_,ace RE⟩
   have ix:(f.ps.map ax)[(k:Int).toNat]?=some (ax x):=by rw[adQ];simp[hx]
   have dD:=jB hx
   have hsb:=xg (fun y hy=>gQ (Qy y hy)) k (by omega)
   have rX:=gQ (Qy x (adR hx))
   refine⟨ax x,fun _=>⟨by omega,ix⟩,?_⟩
   have on:dK f (k+1)=dK f k++[aJ (f.ps.take k)]:=by unfold dK;rw[List.range_succ,ad7];rfl
   have ol:(dK f k).length=k:=by simp[dK]
   have c6:k≠0->dK f k≠[]:=fun h0 e=>by rw[e]at ol;exact h0 ol.symm
   have lU:(((zL fl j).set j (dK f k)).map eS).length=fl.length:=by rw[adO,List.length_set,ls]
   have iu:(((zL fl j).set j (dK f k)).map eS)[(j:Int).toNat]?=some (eS (dK f k)):=by
    rw[adQ];show Option.map _ ((zL fl j).set j (dK f k))[j]?=_;rw[List.getElem?_set_self (by rw[ls];exact ay)];rfl
   have e1:∀q,((zL fl j).set j (dK f (k+1))).map eS=((((zL fl j).set j (dK f k)).map eS).set (j:Int).toNat q).set (j:Int).toNat (.aD 1 ((dK f k).map I++[I (aJ (f.ps.take k))])):=fun q=>by
    rw[List.set_set,on,List.map_set,List.map_set,Hb];show _=(List.set _ j _).set j _;rw[List.set_set]
   have e2:((zL fl j).set j (dK f (k+1))).map eS=(((zL fl j).set j (dK f k)).map eS).set (j:Int).toNat (.aD 1 ((dK f k).map I++[I (aJ (f.ps.take k))])):=(e1 .any).trans (List.set_set ..)
   refine⟨fun _=>by omega,eS (dK f k),fun _=>iu,?_⟩
   generalize hR:dK f k=R at*
   generalize ((zL fl j).set j R).map eS=U at*
   cases R with
   |nil=>
    refine .inl ⟨[I (aJ (f.ps.take k))],rfl,⟨rf,tv⟩,(by simp;rfl),?_⟩
    refine .inr ⟨[I (aJ (f.ps.take k))],bV.refl _,show 1*8<=_ by decide,show 1<=_ by decide,fun _=>by omega,[.aD 1 [I (aJ (f.ps.take k))]],⟨rfl,tv⟩,_,iu,?_⟩
    refine⟨by kernel_rfl,fun _=>by omega,?_⟩
    exact⟨fun _=>by omega,k+1,jn (by simp only[dD];rfl) (by simp only[e2];rfl) rfl rfl,RE,mlt RE⟩
   |cons c R=>
    refine .inl ⟨[I (aJ (f.ps.take k))],rfl,⟨rf,tv⟩,(by simp;rfl),?_⟩
    refine .inr ⟨eS (c::R),fun _=>iu,?_⟩
    have lR:((c::R).map I).length=k:=by rw[adO,ol]
    refine⟨[I (aJ (f.ps.take k))],bV.refl _,show(((c::R).map I).length+1)*8<=_ by omega,show((c::R).map I).length+1<=_ by omega,eS (c::R),iu,?_⟩
    have lS:(U.set (j:Int).toNat (qP (eS (c::R)) 0 DV.any)).length=fl.length:=by rw[List.length_set,lU]
    refine⟨fun _=>by omega,[.aD 1 ((c::R).map I++[I (aJ (f.ps.take k))])],⟨rfl,tv⟩,_,List.getElem?_set_self (by rw[lU];exact ay),?_⟩
    refine⟨by kernel_rfl,fun _=>by omega,?_⟩
    exact⟨fun _=>by omega,k+1,jn (by simp only[dD];rfl) (by simp only[e1 (qP (eS (c::R)) 0 DV.any)];rfl) rfl rfl,RE,mlt RE⟩
  ·obtain rfl:k=f.ps.length:=by have:=ad6 h3;omega
   have sn:(zL fl j).set j (dK f f.ps.length)=zL fl (j+1):=by
    unfold zL
    rw[List.set_append_right _ _ (by simp;omega),adY,hf]
    obtain⟨d,hd⟩:∃d,fl.length-j=d+1:=⟨fl.length-j-1,by omega⟩
    rw[hd,show fl.length-(j+1)=d by omega,List.replicate_succ]
    simp[show min j fl.length=j by omega]
   rw[sn]
   exact⟨fun _=>by omega,j+1,jn rfl rfl rfl rfl,ay,mlt ay⟩
 obtain rfl:j=fl.length:=by have:=ad6 h2;omega
 have se:zL fl fl.length=fl.map fun f=>dK f f.ps.length:=by unfold zL;simp
 rw[se]
 unfold grK
 rw[ac0]
 refine⟨_,_,⟨rfl,rfl⟩,by kernel_rfl,⟨rfl,rf,tv⟩,⟨rfl,rfl⟩,⟨rf,?_,rfl,rf,rf,tv⟩,tv⟩
 exact Vi _
end
section
open Go.TM
structure SlS where
 r:List Lt
 a:Int
 n:Int
def Oe(s:SlS)(x:Lt):SlS:=if s.n=0 then s else if x.n<=s.a then⟨s.r,s.a-x.n,s.n⟩else
 ⟨aN s.r ⟨x.f,x.a+s.a,if x.n-s.a<s.n then x.n-s.a else s.n⟩,0,s.n-if x.n-s.a<s.n then x.n-s.a else s.n⟩
def mI(l:List Lt)(a n:Int)(k:Nat):SlS:=(l.take k).foldl Oe ⟨[],a,n⟩
def wS(l:List Lt)(a n:Int):List Lt:=(l.foldl Oe ⟨[],a,n⟩).r
theorem qa{l:List Lt}{a n:Int}{k:Nat}{x:Lt}(h:l[k]?=some x):mI l a n (k+1)=Oe (mI l a n k) x:=by unfold mI;rw[adY,h,aee];rfl
theorem Hh:∀(l:List Lt) (s:SlS),s.n=0->l.foldl Oe s=s
 |[],s,_=>rfl
 |x::l,s,h=>by rw[List.foldl_cons,show Oe s x=s from if_pos h,Hh l s h]
theorem Vj{l:List Lt}{a n:Int}{k:Nat}(h:(mI l a n k).n=0):wS l a n=(mI l a n k).r:=by
 unfold wS
 conv=>lhs;rw[<-List.take_append_drop k l,aee]
 show(List.foldl Oe (mI l a n k) (l.drop k)).r=_
 rw[Hh _ _ h]
theorem RH{l:List Lt}(hp:∀x∈l,aB x=true){a n:Int}(ha:0<=a/\a<=1099511627776)(hn:0<=n/\n<=1099511627776):∀k,(∀x∈(mI l a n k).r,aB x=true)/\(mI l a n k).r.length<=k/\(0<=(mI l a n k).a/\(mI l a n k).a<=1099511627776)/\(0<=(mI l a n k).n/\(mI l a n k).n<=1099511627776)
 |0=>⟨nofun,aei _,ha,hn⟩
 |k+1=>by
  obtain⟨h1,h2,h3,h4⟩:=RH hp ha hn k
  cases hx:l[k]? with
  |none=>
   have:mI l a n (k+1)=mI l a n k:=by unfold mI;rw[adY,hx];simp
   rw[this];exact⟨h1,Nat.le_succ_of_le h2,h3,h4⟩
  |some x=>
   rw[qa hx]
   have rX:=ah.1 (hp x (adR hx))
   unfold Oe
   split
   ·exact⟨h1,Nat.le_succ_of_le h2,h3,h4⟩
   split
   ·exact⟨h1,Nat.le_succ_of_le h2,by simp only;omega,h4⟩
   ·generalize mI l a n k=s at*
    obtain⟨c,hc,c1,c2,c3⟩:∃c,(if x.n-s.a<s.n then x.n-s.a else s.n)=c/\0<=c/\c<=s.n/\c<=x.n-s.a:=⟨_,rfl,by split<;>omega,by split<;>omega,by split<;>omega⟩
    have h5:=dR s.r ⟨x.f,x.a+s.a,c⟩
    rw[hc]
    exact⟨fL h1 ⟨rX.1,by simp only;omega,c1,by simp only;omega⟩,by simp only;omega,by simp only;omega,by simp only;omega⟩
variable [bj]
theorem Hj(l:List Lt)(a n:Int)(hl:l.length<=5000)(hp:∀x∈l,aB x=true)(ha:0<=a/\a<=1099511627776)(hn:0<=n/\n<=1099511627776):aj Tryz.prog 118 [.dv (aQ l),.dv (I a),.dv (I n)] 0 [] 1 [.own 0 0 0 []] [(0,.tree 0 0 (.aD 3 ((wS l a n).map ax)))]:=by
 have lp:(l.map ax).length=l.length:=adO ..
 have b8:=RH hp ha hn
 refine cO Tryz.func118 rfl (by kernel_rfl) ?_
 refine⟨Nat,fun k=>⟨1,[(1,.dv (I (mI l a n k).a)),(2,.dv (I (mI l a n k).n)),(7,.own 0 0 0 []),(11,.dv (aQ l)),(12,.dv (I (l.map ax).length)),(13,.dv (I k))],[(0,.tree 0 0 (.aD 3 ((mI l a n k).r.map ax)))]⟩,fun k=>k<=l.length,fun k=>l.length-k,0,fun _=>rfl,⟨⟨rf,rf,⟨rfl,rfl,rfl,rfl,3,rfl⟩,rf,rf,rf,tv⟩,⟨⟨rfl,rfl,3,rfl⟩,tv⟩,rfl,rfl⟩,ad3 _,?_⟩
 intro k hk
 refine adN (fun h2=>?_) fun h2=>?_
 ·have ay:k<l.length:=by have:=ad5 h2;omega
  obtain⟨x,hx⟩:∃x,l[k]?=some x:=⟨_,ace ay⟩
  have ix:(l.map ax)[(k:Int).toNat]?=some (ax x):=by rw[adQ];simp[hx]
  have dD:=qa (a:=a) (n:=n) hx
  obtain⟨q1,q2,q3,q4⟩:=b8 k
  have q5:=b8 (k+1)
  have gZ:(mI l a n k).n=0->wS l a n=(mI l a n k).r:=Vj
  have rX:=ah.1 (hp x (adR hx))
  rw[dD]at q5
  unfold Oe at dD
  refine⟨ax x,fun _=>⟨by omega,ix⟩,?_⟩
  generalize mI l a n k=s at*
  refine adN (fun h3=>?_) fun h3=>?_
  ·rw[gZ (beq_iff_eq.1 h3)]
   exact ext (by kernel_rfl) rfl rfl
  have h0:¬s.n=0:=beq_eq_false_iff_ne.1 h3
  rw[if_neg h0]at dD
  refine adN (fun h4=>?_) fun h4=>?_
  ·rw[if_pos (ad5 h4)]at dD
   exact⟨fun _=>by omega,fun _=>by omega,k+1,jn (by simp only[dD];rfl) (by simp only[dD];rfl) rfl rfl,ay,mlt ay⟩
  have h5:¬x.n<=s.a:=ad6 h4
  rw[if_neg h5]at dD
  refine⟨fun _=>by omega,fun _=>by omega,?_⟩
  obtain⟨c,hc,c1,c2,c3⟩:∃c,(if x.n-s.a<s.n then x.n-s.a else s.n)=c/\0<=c/\c<=s.n/\c<=x.n-s.a:=⟨_,rfl,by split<;>omega,by split<;>omega,by split<;>omega⟩
  rw[hc]at dD⊢
  refine .inr (cl [0] (qE s.r ⟨x.f,x.a+s.a,c⟩ ⟨by omega,fun y hy=>by have:=ah.1 (q1 y hy);omega⟩ ⟨c1,by simp only;omega⟩) (by kernel_rfl) rfl rfl ?_)
  exact⟨fun _=>by omega,fun _=>by omega,k+1,jn (by simp only[dD];rfl) (by simp only[dD];rfl) rfl rfl,ay,mlt ay⟩
 ·obtain rfl:k=l.length:=by have:=ad6 h2;omega
  rw[show wS l a n=(mI l a n l.length).r by unfold wS mI;rw[ad4]]
  exact ext (by kernel_rfl) rfl rfl
end
section
open Go.TM
theorem abV{α:Type}{p:α->Bool}:∀{l:List α} {y:α},y∈l.takeWhile p->p y=true
 |[],y,h=>by cases h
 |x::l,y,h=>by
  rw[List.takeWhile_cons]at h
  split at h
  ·rename_i hx
   rcases adV.1 h with rfl|h
   ·exact hx
   ·exact abV h
  ·cases h
def kO(f:bp)(a:Int):Nat:=((dK f f.ps.length).takeWhile fun o=>decide (o<=a)).length
theorem Hk(f:bp)(k:Nat):(dK f k).length=k:=by simp[dK]
theorem xt{f:bp}{i:Nat}(h:i<f.ps.length):(dK f f.ps.length)[i]?=some (aJ (f.ps.take i)):=by unfold dK;simp[h]
theorem NB{l:List Lt}(hp:∀x∈l,aB x=true){i j:Nat}(h:i<=j):aJ (l.take i)<=aJ (l.take j):=by
 induction j with
 |zero=>rw[Nat.le_zero.1 h];exact Int.le_refl _
 |succ j ih=>
  rcases ad8 i (j+1)with h1|h1
  ·have:=ih (by omega)
   cases hx:l[j]? with
   |none=>rw[adY,hx];simpa using this
   |some x=>have:=jB hx;have:=(gQ (hp x (adR hx))).1;omega
  ·rw[Nat.le_antisymm h h1];exact Int.le_refl _
theorem RI{f:bp}(hp:∀x∈f.ps,aB x=true)(a:Int):kO f a<=f.ps.length/\(∀i,i<kO f a->aJ (f.ps.take i)<=a)/\∀i,kO f a<=i->i<f.ps.length->a<aJ (f.ps.take i):=by
 have e:=List.takeWhile_append_dropWhile (p:=fun o=>decide (o<=a)) (l:=dK f f.ps.length)
 have hl:=congrArg List.length e
 rw[ad1,Hk]at hl
 have hk:kO f a<=f.ps.length:=by unfold kO;omega
 refine⟨hk,fun i hi=>?_,fun i hi Af=>?_⟩
 ·have h1:=xt (f:=f) (show i<f.ps.length by omega)
  rw[<-e,List.getElem?_append_left hi]at h1
  have:=abV (adR h1)
  exact ad5 this
 ·have hd:a<aJ (f.ps.take (kO f a)):=by
   have h1:=xt (f:=f) (show kO f a<f.ps.length by omega)
   have h2:=List.head?_dropWhile_not (fun o=>decide (o<=a)) (dK f f.ps.length)
   have hkT:kO f a=((dK f f.ps.length).takeWhile fun o=>decide (o<=a)).length:=rfl
   generalize (dK f f.ps.length).takeWhile (fun o=>decide (o<=a))=T at e hkT
   generalize (dK f f.ps.length).dropWhile (fun o=>decide (o<=a))=D at e h2
   rw[<-e,hkT,List.getElem?_append_right (aei _),Nat.sub_self]at h1
   rw[List.head?_eq_getElem?,h1]at h2
   rw[hkT]
   simpa using h2
  have:=NB hp hi
  omega
theorem YW{f:bp}(hp:∀x∈f.ps,aB x=true){a:Int}(ha:0<=a)(h:f.ps≠[]):1<=kO f a:=by
 refine Decidable.byContradiction fun hc=>?_
 have:=(RI hp a).2.2 0 (by omega) (List.length_pos_iff.2 h)
 simp[aJ]at this;omega
theorem Hl{l:List Lt}{a n:Int}(hn:n≠0):∀q,q<=l.length->(∀i,i<=q->aJ (l.take i)<=a)->mI l a n q=⟨[],a-aJ (l.take q),n⟩
 |0,_,_=>by simp[mI,aJ]
 |q+1,hq,h=>by
  have hx:=ace (show q<l.length by omega)
  rw[qa hx,Hl hn q (by omega) fun i hi=>h i (by omega)]
  have h1:=jB hx
  have h2:=h (q+1) (aei _)
  unfold Oe
  rw[if_neg hn,if_pos (by simp only;omega),h1]
  simp only
  congr 1;omega
theorem RJ{l:List Lt}{a n:Int}(hn:n≠0){q:Nat}(hq:q<=l.length)(h:∀i,i<=q->aJ (l.take i)<=a):wS l a n=wS (l.drop q) (a-aJ (l.take q)) n:=by
 unfold wS
 conv=>lhs;rw[<-List.take_append_drop q l,aee]
 show(List.foldl Oe (mI l a n q) (l.drop q)).r=_
 rw[Hl hn q hq h]
variable [bj]
def Z0(f:bp)(x:Lt):ad:=[(0,.cells [.dv (Ints (dK f f.ps.length))]),(1,.cells (eP (ax x).cells))]
theorem NC(f:bp)(x:Lt)(i:Nat)(hi:i<f.ps.length):aj Tryz.prog 117 [.dv (I i),.ptr 0 0,.ptr 1 0] 2 (Z0 f x) 0 [.dv (B (decide (x.a<aJ (f.ps.take i))))] (Z0 f x):=by
 have iy:((dK f f.ps.length).map I)[(i:Int).toNat]?=some (I (aJ (f.ps.take i))):=by rw[adQ];show Option.map _ (dK f f.ps.length)[i]?=_;rw[xt hi];rfl
 refine cO Tryz.func117 rfl (by kernel_rfl) ?_
 refine⟨I (aJ (f.ps.take i)),fun _=>⟨by omega,iy⟩,?_⟩
 exact⟨by kernel_rfl,ext (by kernel_rfl) rfl rfl⟩
theorem D3(f:bp)(x:Lt)(hp:∀x∈f.ps,aB x=true)(hl:f.ps.length<=5000):aj Tryz.prog 116 [.dv (I f.ps.length),.fn 117 [.ptr 0 0,.ptr 1 0]] 2 (Z0 f x) 0 [.dv (I (kO f x.a))] (Z0 f x):=by
 obtain⟨hk,h1,h2⟩:=RI hp x.a
 generalize kO f x.a=k at*
 refine cO Tryz.func116 rfl (by kernel_rfl) ?_
 refine⟨SeI,Wq 117 [.ptr 0 0,.ptr 1 0] 2 (Z0 f x),fun q=>q.i<=k/\k<=q.j/\q.j<=f.ps.length,fun q=>q.j-q.i,⟨0,f.ps.length⟩,fun _=>rfl,jn rfl rfl rfl rfl,⟨ad3 _,hk,aei _⟩,?_⟩
 rintro q ⟨p1,p2,p3⟩
 refine adN (fun ay=>?_) fun jd=>?_
 ·have ay:q.i<q.j:=by have:=ad5 ay;simp only[Int.ofNat_lt]at this;exact this
  refine⟨fun _=>by omega,?_⟩
  refine⟨fun _=>by omega,?_⟩
  refine .inr ⟨[0,1],[.dv (I ((q.i+q.j)/2:Nat)),.ptr 0 0,.ptr 1 0],Z0 f x,0,_,_,NC f x ((q.i+q.j)/2) (by omega),by kernel_rfl,by kernel_rfl,⟨?_,rfl,rfl,tv⟩,⟨⟨rf,tv⟩,⟨rf,rf,rf,tv⟩,tv⟩,?_⟩
  ·rw[Dm (by omega)];exact rf
  rw[Dm (by omega)]
  refine adN (fun hb=>?_) fun hb=>?_
  ·have hb:decide (x.a<aJ (f.ps.take ((q.i+q.j)/2)))=false:=by simpa using hb
   have oU:(q.i+q.j)/2<k:=by
    rcases ad8 ((q.i+q.j)/2) k with h|h
    ·exact h
    ·exact absurd (h2 _ h (by omega)) (ad6 hb)
   exact⟨fun _=>by omega,⟨(q.i+q.j)/2+1,q.j⟩,jn rfl rfl rfl rfl,⟨oU,p2,p3⟩,by simp only;omega⟩
  ·have hb:decide (x.a<aJ (f.ps.take ((q.i+q.j)/2)))=true:=by simpa using hb
   have Yd:k<=(q.i+q.j)/2:=by
    rcases ad8 ((q.i+q.j)/2) k with h|h
    ·have:=h1 _ h;have:=ad5 hb;omega
    ·exact h
   exact⟨⟨q.i,(q.i+q.j)/2⟩,jn rfl rfl rfl rfl,⟨p1,Yd,by simp only;omega⟩,by simp only;omega⟩
 ·have jd:q.i=q.j:=by have:=ad6 jd;omega
  have FE:q.i=k:=by omega
  rw[<-FE]
  exact ext (by kernel_rfl) rfl rfl
end
section
open Go.TM
def Of(fl:List bp):ad:=[(0,.cells [.dv (.sl 11 (fl.map ar)),.dv (.sl 1 ((fl.map fun f=>dK f f.ps.length).map Ints)),.own 1 0 0 [],.dv (.sl 1 ((Ny fl (oM fl fl.length)).map fun(i:Nat)=>I (i:Int))),.dv .aw]),(1,.tree 0 0 (.omap bX (j4 (oM fl fl.length))))]
structure RK(fl:List bp)(x:Lt)(i:Nat)(f:bp):Prop where
 at_:fl[i]?=some f
 id:f.id=x.f
 pos:aB x=true
 le:x.a+x.n<=f.n
variable [bj]
theorem RN(fl:List bp)(h:FW fl)(x:Lt)(i:Nat)(f:bp)(hx:RK fl x i f):aj Tryz.prog 80 [.ptr 0 0,cx (ax x)] 2 (Of fl) 0 [.dv (B true)] (Of fl):=by
 have hl:=h.len
 have uZ:=(adP.1 hx.at_).1
 have hg:=h.get fl.length i f hx.at_ uZ (aei _)
 rw[hx.id]at hg
 have hq:=dU (ev:=eI) eT (oM fl fl.length) x.f
 rw[hg]at hq
 have lf:(fl.map ar).length=fl.length:=adO ..
 have ig:(fl.map ar)[(i:Int).toNat]?=some (ar f):=by rw[adQ];simp[hx.at_]
 have rX:=ah.1 hx.pos
 have hle:=hx.le
 have hv:=ez [x] (by simp)
 rw[show bz [x]=true by simp[bz,hx.pos]]at hv
 refine cO Tryz.func80 rfl (by kernel_rfl) ?_
 refine .inl ⟨[ax x],rfl,⟨rf,rf,rf,tv⟩,(by simp;rfl),?_⟩
 refine .inl ⟨_,fun _=>hv.ok,?_⟩
 refine adN (fun h=>by cases h) fun _=>?_
 refine⟨gf,eI x.f,rfl,rfl,I i,true,fun _=>hq,fun h=>(by cases h),rfl,?_⟩
 refine⟨by kernel_rfl,?_⟩
 repeat refine gG ?_
 refine⟨fun _=>by omega,?_⟩
 repeat refine gG ?_
 refine⟨ar f,fun _=>⟨by omega,ig⟩,?_⟩
 repeat refine gG ?_
 refine⟨by kernel_rfl,?_⟩
 rw[aeb hle]
 exact ext (by kernel_rfl) rfl rfl
theorem ND(fl:List bp)(h:FW fl)(x:Lt)(i:Nat)(f:bp)(hx:RK fl x i f)(h0:f.ps=[]):aj Tryz.prog 81 [.ptr 0 0,cx (ax x)] 2 (Of fl) 0 [.dv .aw] (Of fl):=by
 have hl:=h.len
 have uZ:=(adP.1 hx.at_).1
 have hg:=h.get fl.length i f hx.at_ uZ (aei _)
 rw[hx.id]at hg
 have hq:=dU (ev:=eI) eT (oM fl fl.length) x.f
 rw[hg]at hq
 have lf:(fl.map ar).length=fl.length:=adO ..
 have ig:(fl.map ar)[(i:Int).toNat]?=some (ar f):=by rw[adQ];simp[hx.at_]
 have is:((fl.map fun f=>dK f f.ps.length).map Ints)[(i:Int).toNat]?=some (Ints (dK f f.ps.length)):=by rw[adQ,adQ];show Option.map _ (Option.map _ fl[i]?)=_;rw[hx.at_];rfl
 refine cO Tryz.func81 rfl (by kernel_rfl) ?_
 refine⟨gf,eI x.f,rfl,rfl,I i,true,fun _=>hq,fun h=>(by cases h),rfl,?_⟩
 refine⟨by kernel_rfl,_,fun _=>⟨by omega,is⟩,?_⟩
 refine⟨ar f,fun _=>⟨by omega,ig⟩,?_⟩
 refine⟨by kernel_rfl,adN (fun _=>ext (by kernel_rfl) rfl rfl) fun h2=>?_⟩
 rw[h0]at h2;cases h2
theorem NF(fl:List bp)(h:FW fl)(x:Lt)(i:Nat)(f:bp)(hx:RK fl x i f)(h0:f.ps≠[]):aj Tryz.prog 81 [.ptr 0 0,cx (ax x)] 2 (Of fl) 3 [.own 4 0 0 []] (Of fl++[(4,.tree 0 0 (.aD 3 ((wS f.ps x.a x.n).map ax)))]):=by
 have hl:=h.len
 have uZ:=(adP.1 hx.at_).1
 have hg:=h.get fl.length i f hx.at_ uZ (aei _)
 rw[hx.id]at hg
 have hq:=dU (ev:=eI) eT (oM fl fl.length) x.f
 rw[hg]at hq
 have lf:(fl.map ar).length=fl.length:=adO ..
 have ig:(fl.map ar)[(i:Int).toNat]?=some (ar f):=by rw[adQ];simp[hx.at_]
 have is:((fl.map fun f=>dK f f.ps.length).map Ints)[(i:Int).toNat]?=some (Ints (dK f f.ps.length)):=by rw[adQ,adQ];show Option.map _ (Option.map _ fl[i]?)=_;rw[hx.at_];rfl
 refine cO Tryz.func81 rfl (by kernel_rfl) ?_
 refine⟨gf,eI x.f,rfl,rfl,I i,true,fun _=>hq,fun h=>(by cases h),rfl,?_⟩
 refine⟨by kernel_rfl,_,fun _=>⟨by omega,is⟩,?_⟩
 refine⟨ar f,fun _=>⟨by omega,ig⟩,?_⟩
 have lp:(f.ps.map ax).length=f.ps.length:=adO ..
 have b8:=h.ok f (adR hx.at_)
 have hp:=(dE b8.1.ps).2
 have rX:=ah.1 hx.pos
 have Qr:=b8.1.n
 have hle:=hx.le
 refine⟨by kernel_rfl,adN (fun h2=>?_) fun _=>?_⟩
 ·exfalso;exact h0 (List.length_eq_zero_iff.1 (by have:=beq_iff_eq.1 h2;omega))
 have lo:((dK f f.ps.length).map I).length=f.ps.length:=by rw[adO,Hk]
 have hs:=D3 f x hp (by omega)
 rw[show((f.ps.length:Nat):Int)=(((dK f f.ps.length).map I).length:Int)by rw[lo]]at hs
 refine .inr (cl [3,2] hs (by kernel_rfl) rfl rfl ?_)
 obtain⟨k1,k2,k3⟩:=RI hp x.a
 have kp:=YW hp rX.2.1 h0
 generalize kO f x.a=k at*
 refine⟨fun _=>by omega,?_⟩
 obtain⟨q,rfl⟩:∃q,k=q+1:=⟨k-1,by omega⟩
 have eq:((((q+1:Nat):Int))-1).toNat=q:=by omega
 have io:((dK f f.ps.length).map I)[((((q+1:Nat):Int))-1).toNat]?=some (I (aJ (f.ps.take q))):=by rw[eq,adQ];show Option.map _ (dK f f.ps.length)[q]?=_;rw[xt (by omega)];rfl
 have hsb:=xg (fun y hy=>gQ (hp y hy)) q (by omega)
 have hqa:=k2 q (by omega)
 refine⟨fun _=>⟨show(0:Int)<=((q+1:Nat):Int)-1 by omega,show(((q+1:Nat):Int))-1<=(((f.ps.map ax).length:Nat):Int)by omega,show(((f.ps.map ax).length:Nat):Int)<=(((f.ps.map ax).length:Nat):Int)by omega⟩,_,fun _=>⟨by omega,io⟩,?_⟩
 refine⟨fun _=>by omega,?_⟩
 have ed:List.drop ((some ((((q+1:Nat):Int))-1)).getD 0).toNat (List.take ((none:Option Int).getD (((f.ps.map ax).length:Nat):Int)).toNat (f.ps.map ax))=(f.ps.drop q).map ax:=by
  show List.drop ((((q+1:Nat):Int))-1).toNat (List.take (f.ps.map ax).length (f.ps.map ax))=_
  rw[eq,ad4,List.map_drop]
 have gl:=Hj (f.ps.drop q) (x.a-aJ (f.ps.take q)) x.n (by rw[List.length_drop];omega) (fun y hy=>hp y (List.mem_of_mem_drop hy)) (by omega) (by omega)
 rw[<-RJ (by omega) (by omega) (fun i hi=>k2 i (by omega))]at gl
 refine .inr ⟨[],_,[],1,_,_,gl,by kernel_rfl,by kernel_rfl,⟨DV.Le.of_eq (congrArg (DV.sl 3) ed),rf,rf,tv⟩,tv,?_⟩
 exact⟨by kernel_rfl,ext (by kernel_rfl) rfl rfl⟩
end
section
open Go.TM
theorem Hm{Q:Lt->Prop}(hm:∀x y,Q y->Q x->y.f=x.f->y.a+y.n=x.a->Q ⟨y.f,y.a,y.n+x.n⟩){l:List Lt}{x:Lt}(hl:∀y∈l,Q y)(hx:Q x):∀y∈aN l x,Q y:=by
 unfold aN
 split
 ·exact hl
 split
 ·rename_i y hy
  split
  ·rename_i hc
   intro z hz
   rcases adX.1 hz with hz|hz
   ·exact hl z (List.dropLast_subset _ hz)
   ·rw[adU]at hz;subst hz;exact hm x y (hl y (List.mem_of_getLast? hy)) hx hc.1 hc.2
  ·intro z hz
   rcases adX.1 hz with hz|hz
   ·grind
   ·grind
 ·grind
def YX(fl:List bp)(j:Nat)(it:Int)(y:Lt):Prop:=aB y=true/\∃(i:Nat) (g:bp),i<j/\RK fl y i g/\g.it=it
theorem NG{fl:List bp}(h:FW fl){j:Nat}{it:Int}(x y:Lt)(hy:YX fl j it y)(hx:YX fl j it x)(hf:y.f=x.f)(ha:y.a+y.n=x.a):YX fl j it ⟨y.f,y.a,y.n+x.n⟩:=by
 obtain⟨p1,i,g,h1,h2,h3⟩:=hx
 have q1:=ah.1 p1
 have q2:=ah.1 hy.1
 have hp:aB ⟨y.f,y.a,y.n+x.n⟩=true:=ah.2 ⟨q2.1,q2.2.1,by grind,by grind⟩
 exact⟨hp,i,g,h1,⟨h2.at_,by rw[h2.id];grind,hp,by have:=h2.le;grind⟩,h3⟩
theorem RO{fl:List bp}(h:FW fl){j:Nat}{f:bp}(hj:fl[j]?=some f){a n:Int}(ha:0<=a)(hn:0<=n):∀k,(∀y∈(mI f.ps a n k).r,YX fl j f.it y)/\0<=(mI f.ps a n k).a/\0<=(mI f.ps a n k).n/\aJ (mI f.ps a n k).r+(mI f.ps a n k).n=n/\((mI f.ps a n k).n=0\/(mI f.ps a n k).a+(mI f.ps a n k).n+aJ (f.ps.take k)=a+n)
 |0=>⟨nofun,ha,hn,by simp[mI,aJ],.inr (by simp[mI,aJ])⟩
 |k+1=>by
  obtain⟨h1,h2,h3,h4,h5⟩:=RO h hj ha hn k
  cases hx:f.ps[k]? with
  |none=>
   grind [mI,List.take_add_one]
  |some x=>
   rw[qa hx]
   have hm:=adR hx
   have rX:=ah.1 ((dE (h.ok f (adR hj)).1.ps).2 x hm)
   have ak:=jB hx
   obtain⟨i,g,g1,g2,g3,g4,g5⟩:=h.rp j f hj x hm
   generalize mI f.ps a n k=s at*
   unfold Oe
   split
   ·grind
   split
   ·grind
   ·obtain⟨c,hc,c1,c2,c3,c4⟩:∃c,(if x.n-s.a<s.n then x.n-s.a else s.n)=c/\1<=c/\c<=s.n/\c<=x.n-s.a/\(c=s.n\/c=x.n-s.a):=⟨_,rfl,by grind,by grind,by grind,by grind⟩
    rw[hc]
    have hp:aB ⟨x.f,x.a+s.a,c⟩=true:=ah.2 ⟨rX.1,by grind,by grind,by grind⟩
    refine⟨Hm (NG h) h1 ⟨hp,i,g,g2,⟨g1,g3,hp,by grind⟩,g5⟩,by grind,by grind,by simp[pN];omega,?_⟩
    grind
theorem YY{fl:List bp}(h:FW fl){j:Nat}{f:bp}(hj:fl[j]?=some f){a n:Int}(ha:0<=a)(hn:1<=n)(hle:a+n<=aJ f.ps):(∀y∈wS f.ps a n,YX fl j f.it y)/\aJ (wS f.ps a n)=n/\(wS f.ps a n).length<=f.ps.length/\wS f.ps a n≠[]:=by
 have e:wS f.ps a n=(mI f.ps a n f.ps.length).r:=by unfold wS mI;grind
 obtain⟨h1,h2,h3,h4,h5⟩:=RO h hj ha (by omega:0<=n) f.ps.length
 rw[ad4]at h5
 refine⟨by grind,(by grind),?_,fun e=>by grind [aJ]⟩
 rw[e]
 have key:∀k,(mI f.ps a n k).r.length<=k:=fun k=>by
  induction k with
  |zero=>exact aei _
  |succ k ih=>
   cases hx:f.ps[k]? with
   |none=>
    grind [mI,List.take_add_one]
   |some x=>
    rw[qa hx]
    grind [Oe,Nat.le_succ_of_le,Nat.le_trans,dR,Nat.succ_le_succ]
 grind
def Vk(fl:List bp)(x:Lt):List Lt:=match fl[H0 (oM fl fl.length) x.f]? with
 |some f=>if f.ps=[]then[]else wS f.ps x.a x.n
 |none=>[]
def RP(fl:List bp):Nat->List Lt->List Lt->List Lt
 |0,_,r=>r
 |_+1,[],r=>r
 |k+1,x::w,r=>if Vk fl x=[]then RP fl k w (aN r x)else RP fl k (Vk fl x++w) r
def Hn(fl:List bp)(w:List Lt):Nat:=(w.map fun x=>801^(H0 (oM fl fl.length) x.f+1)).sum
def qb(fl:List bp)(x:Lt):List Lt:=RP fl (Hn fl [x]) [x] []
theorem RQ{fl:List bp}(h:FW fl){x:Lt}{i:Nat}{f:bp}(hx:RK fl x i f):H0 (oM fl fl.length) x.f=i:=by
 unfold H0;rw[<-hx.id,(h.get fl.length i f hx.at_ (adP.1 hx.at_).1 (aei _))];simp
theorem RR{fl:List bp}(h:FW fl){j:Nat}{it:Int}:∀{l:List Lt},(∀y∈l,YX fl j it y)->Hn fl l<=l.length*801^j
 |[],_=>by simp[Hn]
 |y::l,hl=>by
  have ih:=RR h fun z hz=>hl z (adW _ hz)
  obtain⟨_,i,g,h1,h2,_⟩:=hl y ad0
  have h3:801^(H0 (oM fl fl.length) y.f+1)<=801^j:=Nat.pow_le_pow_right (by grind) (by grind [RQ])
  have h4:Hn fl (y::l)=801^(H0 _ y.f+1)+Hn fl l:=rfl
  grind [List.length_cons,Nat.add_mul]
structure Ho(fl:List bp)(it N:Int)(k:Nat)(w r:List Lt):Prop where
 wt:∀y∈w,YX fl fl.length it y
 rt:∀y∈r,aB y=true/\∃(i:Nat) (g:bp),RK fl y i g/\g.it=it/\g.ps=[]
 sum:aJ w+aJ r=N
 le:Hn fl w<=k
theorem tT{l:List Lt}(h:∀y∈l,aB y=true):(l.length:Int)<=aJ l:=by
 induction l with
 |nil=>simp[aJ]
 |cons y l ih=>
  have:=ah.1 (h y ad0)
  rw[show y::l=[y]++l from rfl,eH [y] l]
  grind [aJ]
theorem Ho.step{fl:List bp}(h:FW fl){it N:Int}{k:Nat}{x:Lt}{w r:List Lt}(hR:Ho fl it N k (x::w) r):∃(k' i:Nat) (f:bp),k=k'+1/\RK fl x i f/\((f.ps=[]/\Ho fl it N k' w (aN r x)/\RP fl k (x::w) r=RP fl k' w (aN r x))\/(f.ps≠[]/\wS f.ps x.a x.n≠[]/\Ho fl it N k' (wS f.ps x.a x.n++w) r/\RP fl k (x::w) r=RP fl k' (wS f.ps x.a x.n++w) r)):=by
 obtain⟨hp,i,f,hi,hx,ku⟩:=hR.wt x ad0
 have A2:=RQ h hx
 have rX:=ah.1 hp
 have hw:Hn fl (x::w)=801^(i+1)+Hn fl w:=by rw[<-A2];rfl
 have hle:=hR.le
 have du:0<801^(i+1):=Nat.pow_pos (by grind)
 have hs:=hR.sum
 rw[show x::w=[x]++w from rfl,eH [x] w,show aJ [x]=x.n by simp[aJ]]at hs
 obtain⟨k',rfl⟩:∃k',k=k'+1:=⟨k-1,by omega⟩
 refine⟨k',i,f,rfl,hx,?_⟩
 have JH:Vk fl x=if f.ps=[]then[]else wS f.ps x.a x.n:=by unfold Vk;rw[A2,hx.at_]
 by_cases h0:f.ps=[]
 ·refine .inl ⟨h0,⟨fun y hy=>hR.wt y (adW _ hy),?_,by rw[pN];omega,by omega⟩,by rw[RP,JH,if_pos h0,if_pos rfl]⟩
  refine Hm ?_ hR.rt ⟨hp,i,f,hx,ku,h0⟩
  rintro x y ⟨q1,_⟩ ⟨q2,j,g,h1,h2,h3⟩ e1 e2
  have b1:=ah.1 q1
  have b2:=ah.1 q2
  have Qy:aB ⟨y.f,y.a,y.n+x.n⟩=true:=ah.2 ⟨b1.1,b1.2.1,by grind,by grind⟩
  exact⟨Qy,j,g,⟨h1.at_,by rw[h1.id];grind,Qy,by have:=h1.le;grind⟩,h2,h3⟩
 ·have b8:=(h.ok f (adR hx.at_))
  have QH:aJ f.ps=f.n:=by
   rcases b8.1.sum with e|⟨_,e⟩
   ·grind
   ·rw[<-e];unfold cu;rw[b8.1.ps];rfl
  obtain⟨a1,a2,a3,a4⟩:=YY h hx.at_ rX.2.1 rX.2.2.1 (by rw[QH];exact hx.le)
  have a5:=RR h a1
  have a6:(wS f.ps x.a x.n).length*801^i<=800*801^i:=aej _ (by grind)
  have hwa:Hn fl (wS f.ps x.a x.n++w)=Hn fl (wS f.ps x.a x.n)+Hn fl w:=by unfold Hn;grind
  refine .inr ⟨h0,a4,⟨fun y hy=>?_,hR.rt,by grind [eH],by omega⟩,by simp_all [RP,if_neg]⟩
  rcases adX.1 hy with hy|hy
  ·obtain⟨q1,j,g,q2,q3,q4⟩:=a1 y hy
   exact⟨q1,j,g,by omega,q3,q4.trans ku⟩
  ·exact hR.wt y (adW _ hy)
end
section
open Go.TM
structure Vl where
 i:Nat
 c:List Lt
structure LH(l:List Lt)(z:Vl):Prop where
 len:z.c.length=l.length
 le:2*z.i<=l.length+1
 get:∀k,k<l.length->z.c[k]?=if k<z.i\/l.length-z.i<=k then l[l.length-1-k]? else l[k]?
theorem RS{l:List Lt}{z:Vl}(h:LH l z)(hi:¬(z.i:Int)<l.length-1-z.i):z.c=l.reverse:=by
 refine List.ext_getElem? fun k=>?_
 by_cases hk:k<l.length
 ·rw[h.get k hk,List.getElem?_reverse (by omega)]
  have:=h.le
  split
  ·rfl
  ·congr 1;omega
 ·rw[List.getElem?_eq_none (by rw[h.len];omega),List.getElem?_eq_none (by simp;omega)]
theorem RT{l:List Lt}{z:Vl}(h:LH l z)(hi:(z.i:Int)<l.length-1-z.i){a b:Lt}(ha:z.c[z.i]?=some a)(hb:z.c[l.length-1-z.i]?=some b):LH l ⟨z.i+1,(z.c.set z.i b).set (l.length-1-z.i) a⟩:=by
 have hlen:=h.len
 refine⟨by simp[hlen],by dsimp only;omega,fun k hk=>?_⟩
 have h1:=h.get z.i (by omega)
 have h2:=h.get (l.length-1-z.i) (by omega)
 rw[if_neg (by omega),ha]at h1
 rw[if_neg (by omega),hb]at h2
 dsimp only
 rw[List.getElem?_set]
 by_cases e1:l.length-1-z.i=k
 ·subst e1
  rw[if_pos rfl,if_pos (by simp[hlen];omega),if_pos (by omega),h1]
  congr 1;omega
 ·rw[if_neg e1,List.getElem?_set]
  by_cases e2:z.i=k
  ·subst e2
   rw[if_pos rfl,if_pos (by omega),if_pos (by omega),h2]
  ·rw[if_neg e2,h.get k hk]
   by_cases c:k<z.i\/l.length-z.i<=k
   ·rw[if_pos c,if_pos (by omega)]
   ·rw[if_neg c,if_neg (by omega)]
variable [bj]
theorem D4(l:List Lt)(hl:l.length<=1000000):aj Tryz.prog 83 [.own 0 0 0 []] 1 [(0,.tree 0 0 (.aD 3 (l.map ax)))] 0 [] [(0,.tree 0 0 (.aD 3 (l.reverse.map ax)))]:=by
 refine E4 fO mixed (eu _) (fh _) Tryz.func83 rfl rfl (by kernel_rfl) ?_
 refine⟨fun _=>⟨by omega,by simp;omega⟩,?_⟩
 refine⟨Vl,fun z=>⟨1,[(0,.own 0 0 0 []),(2,.dv (I z.i)),(3,.dv (I (l.length-1-z.i)))],[(0,.tree 0 0 (.aD 3 (z.c.map ax)))]⟩,LH l,fun z=>l.length-z.i,⟨0,l⟩,fun _=>rfl,?_,⟨rfl,by simp,fun k hk=>?_⟩,?_⟩
 ·exact⟨⟨rfl,rf,aG (by simp),tv⟩,⟨⟨rfl,rfl⟩,tv⟩,rfl,rfl⟩
 ·rw[if_neg (by simp;omega)]
 ·rintro⟨i,c⟩ hz
  have hlen:c.length=l.length:=hz.len
  refine⟨fun h=>?_,fun h=>?_⟩
  ·have ay:(i:Int)<l.length-1-i:=ad5 h
   clear h
   have hj:((l.length:Int)-1-i).toNat=l.length-1-i:=by omega
   generalize ha':c[i]=a
   have ha:c[i]?=some a:=by rw[ace (by omega),ha']
   generalize fp:c[l.length-1-i]=b
   have hb:c[l.length-1-i]?=some b:=by rw[ace (by omega),fp]
   refine⟨fun _=>⟨by dsimp only;omega,by dsimp only;simp;omega⟩,ax b,fun _=>by dsimp only;rw[hj];simp[hb],fun _=>⟨by dsimp only;omega,by dsimp only;simp;omega⟩,ax a,fun _=>by simp[ha],?_⟩
   have ct:(c.set i b)[l.length-1-i]?=some b:=by rw[List.getElem?_set,if_neg (by omega),hb]
   refine⟨fun _=>⟨by dsimp only;omega,by dsimp only;simp;omega⟩,(ax b).cells,⟨rf,rf,rf,tv⟩,ax a,by simp[ha],?_⟩
   refine⟨fun _=>⟨by dsimp only;omega,by dsimp only;simp;omega⟩,(ax a).cells,⟨rf,rf,rf,tv⟩,ax b,?_,by kernel_rfl,?_⟩
   ·show((c.map ax).set (i:Int).toNat (ax b))[((l.length:Int)-1-i).toNat]?=some (ax b)
    rw[hj,<-List.map_set,adQ,Int.toNat_natCast,ct];rfl
   refine⟨fun _=>⟨by dsimp only;omega,by dsimp only;omega⟩,fun _=>⟨by dsimp only;omega,by dsimp only;omega⟩,⟨i+1,(c.set i b).set (l.length-1-i) a⟩,⟨⟨rfl,aG (by simp),aG (by dsimp only;omega),tv⟩,⟨⟨rfl,?_⟩,tv⟩,rfl,rfl⟩,RT hz ay ha hb,by dsimp only;omega⟩
   show DV.aD 3 (((c.map ax).set (i:Int).toNat (ax b)).set ((l.length:Int)-1-i).toNat (ax a))=.aD 3 (((c.set i b).set (l.length-1-i) a).map ax)
   rw[hj,List.map_set,List.map_set,Int.toNat_natCast]
  ·have WJ:=RS hz (ad6 h)
   dsimp only at WJ
   exact⟨_,_,⟨rfl,rfl⟩,rfl,tv,⟨rfl,by rw[<-WJ]⟩,tv⟩
end
section
open Go.TM
structure RoS where
 k:Nat
 w:List Lt
 r:List Lt
variable [bj]
theorem JM(fl:List bp)(h:FW fl)(x:Lt)(i:Nat)(f:bp)(hx:RK fl x i f)(hn:x.n<=4096):aj Tryz.prog 27 [.ptr 0 0,cx (ax x)] 2 (Of fl) 0 [.dv (aQ (qb fl x))] (Of fl):=by
 have hR0:Ho fl f.it x.n (Hn fl [x]) [x] []:=⟨fun y hy=>by rw[adU]at hy;subst hy;exact⟨hx.pos,i,f,(adP.1 hx.at_).1,hx,rfl⟩,nofun,by simp[aJ],aei _⟩
 refine cO Tryz.func27 rfl (by kernel_rfl) ?_
 refine .inr (cl [0,1] (RN fl h x i f hx) (by kernel_rfl) rfl rfl ?_)
 refine adN (fun h=>by cases h) fun _=>?_
 refine .inr (.inl ⟨[ax x],rfl,⟨rf,rf,rf,tv⟩,(by simp;rfl),?_⟩)
 refine⟨RoS,fun z=>⟨5,[(0,.ptr 0 0),(5,.own 4 0 0 []),(6,.own 3 0 0 [])],Of fl++[(3,.tree 0 0 (.aD 3 (z.w.reverse.map ax))),(4,.tree 0 0 (.aD 3 (z.r.map ax)))]⟩,fun z=>Ho fl f.it x.n z.k z.w z.r/\RP fl z.k z.w z.r=qb fl x,fun z=>z.k,⟨Hn fl [x],[x],[]⟩,fun _=>rfl,?_,⟨hR0,rfl⟩,?_⟩
 ·refine⟨⟨rfl,⟨rfl,rfl,rfl,rfl,3,rfl⟩,rfl,tv⟩,?_,rfl,rfl⟩
  repeat' first|exact trivial|rfl|exact rf|exact⟨rfl,rfl,rfl,rfl,_,rfl⟩|exact⟨rfl,rfl,_,rfl⟩|refine adN ?_ ?_
 generalize qb fl x=res
 rintro⟨k,w,r⟩ ⟨hR,gK⟩
 simp only at hR gK
 have hlw:=tT fun y hy=>(hR.wt y hy).1
 have hlr:=tT fun y hy=>(hR.rt y hy).1
 have hsm:=hR.sum
 have ll:(w.reverse.map ax).length=w.length:=by rw[adO,List.length_reverse]
 refine adN (fun h2=>?_) fun h2=>?_
 ·cases w with
  |nil=>exfalso;have:=ad5 h2;simp at this
  |cons y w=>
   have ly:(y::w).length=w.length+1:=rfl
   have hW:(y::w).reverse.map ax=w.reverse.map ax++[ax y]:=by rw[List.reverse_cons,ad7];rfl
   have lw:(w.reverse.map ax).length=w.length:=by rw[adO,List.length_reverse]
   have iw:((y::w).reverse.map ax)[((((y::w).reverse.map ax).length:Int)-1).toNat]?=some (ax y):=by
    rw[ll,ly,hW,show(((w.length+1:Nat):Int)-1).toNat=(w.reverse.map ax).length by omega,List.getElem?_append_right (aei _),Nat.sub_self];rfl
   obtain⟨k',j,g,hk,hy,EO⟩:=hR.step h
   refine⟨fun _=>⟨by simp only;omega,by simp only;omega⟩,fun _=>⟨by simp only;omega,by simp only;omega⟩,ax y,fun _=>iw,?_⟩
   refine⟨fun _=>⟨by simp only;omega,by simp only;omega⟩,?_⟩
   have eD:List.drop ((none:Option Int).getD 0).toNat (List.take ((some ((((y::w).reverse.map ax).length:Int)-1)).getD (((y::w).reverse.map ax).length:Int)).toNat ((y::w).reverse.map ax))=w.reverse.map ax:=by
    show List.drop 0 (List.take ((((y::w).reverse.map ax).length:Int)-1).toNat _)=_
    rw[ll,ly,hW,show(((w.length+1:Nat):Int)-1).toNat=(w.reverse.map ax).length by omega,List.take_left];rfl
   refine .inl ⟨⟨Int.le_refl _,show(0:Int)<=(((y::w).reverse.map ax).length:Int)-1 by omega,show(((y::w).reverse.map ax).length:Int)-1<=(((y::w).reverse.map ax).length:Int)by omega⟩,?_⟩
   rcases EO with⟨h0,Z1,Tn⟩|⟨h0,h3,Z1,Tn⟩
   ·refine .inr (cl [0,1] (ND fl h y j g hy h0) (by kernel_rfl) rfl rfl ?_)
    refine adN (fun _=>?_) fun h=>by cases h
    refine .inr (cl [4] (qE r y ⟨by omega,fun z hz=>by have:=ah.1 (hR.rt z hz).1;omega⟩ (by have:=ah.1 hy.pos;omega)) (by kernel_rfl) rfl rfl ?_)
    refine⟨⟨k',w,aN r y⟩,jn rfl (by simp only[eD];rfl) rfl rfl,⟨Z1,Tn.symm.trans gK⟩,by simp only;omega⟩
   ·refine .inr (cl [0,1] (NF fl h y j g hy h0) (by kernel_rfl) rfl rfl ?_)
    have ac1:=tT fun z hz=>(Z1.wt z hz).1
    have adH:=Z1.sum
    have adI:=tT fun z hz=>(Z1.rt z hz).1
    rw[ad1]at ac1
    generalize wS g.ps y.a y.n=S at*
    have lS:(S.map ax).length=S.length:=adO ..
    refine adN (fun h4=>?_) fun _=>?_
    ·exfalso;exact h3 (List.length_eq_zero_iff.1 (by have:=beq_iff_eq.1 h4;omega))
    refine .inr (cl [8] (D4 S (by omega)) (by kernel_rfl) rfl rfl ?_)
    have eA:(S++w).reverse.map ax=w.reverse.map ax++S.reverse.map ax:=by rw[List.reverse_append,ad7]
    have lR:(S.reverse.map ax).length=S.length:=by rw[adO,List.length_reverse]
    have hle:=fun(b:Nat) (hb:w.length+S.length<=b)=>Nat.le_trans (Nat.le_of_eq (congrArg (fun q=>List.length q+(S.reverse.map ax).length) eD)) (show(w.reverse.map ax).length+(S.reverse.map ax).length<=b by omega)
    refine .inr (.inl ⟨fun z hz d hd=>?_,S.reverse.map ax,bV.refl _,bL (hle _ (by omega)),hle _ (by omega),?_⟩)
    ·obtain⟨q,_,rfl⟩:=aeg.1 hz
     simp only[ax,DV.cells,adV,List.mem_nil_iff,or_false]at hd
     rcases hd with rfl|rfl|rfl<;>rfl
    exact⟨⟨k',S++w,r⟩,jn rfl (by simp only[eA,eD];rfl) rfl rfl,⟨Z1,Tn.symm.trans gK⟩,by simp only;omega⟩
 ·cases w with
  |cons y w=>exfalso;have:=ad6 h2;simp only[ll,List.length_cons]at this;omega
  |nil=>
   have er:r=res:=by rw[<-gK];cases k<;>rfl
   rw[er]
   exact⟨_,_,⟨rfl,rfl⟩,by kernel_rfl,⟨nW res,tv⟩,aZ (k:=Of fl) rfl⟩
theorem RU{fl:List bp}(h:FW fl){x:Lt}{i:Nat}{f:bp}(hx:RK fl x i f)(hn:x.n<=4096):cu (qb fl x)=x.n/\(qb fl x).length<=4096/\∀y∈qb fl x,∃(j:Nat) (g:bp),RK fl y j g/\g.it=f.it/\g.ps=[]:=by
 have key:∀(k:Nat) (w r:List Lt),Ho fl f.it x.n k w r->∃r',RP fl k w r=r'/\∃k',Ho fl f.it x.n k' [] r':=by
  intro k
  induction k with
  |zero=>
   intro w r hR
   cases w with
   |nil=>exact⟨r,rfl,0,hR⟩
   |cons y w=>
    exfalso
    have:=hR.le
    have:Hn fl (y::w)=801^(H0 (oM fl fl.length) y.f+1)+Hn fl w:=rfl
    have:0<801^(H0 (oM fl fl.length) y.f+1):=Nat.pow_pos (by decide)
    omega
  |succ k ih=>
   intro w r hR
   cases w with
   |nil=>exact⟨r,rfl,k+1,hR⟩
   |cons y w=>
    obtain⟨k',j,g,hk,hy,hc⟩:=hR.step h
    obtain rfl:k=k':=by omega
    rcases hc with⟨_,h1,h2⟩|⟨_,_,h1,h2⟩
    ·rw[h2];exact ih _ _ h1
    ·rw[h2];exact ih _ _ h1
 obtain⟨r',h1,k',hR⟩:=key (Hn fl [x]) [x] [] ⟨fun y hy=>by rw[adU]at hy;subst hy;exact⟨hx.pos,i,f,(adP.1 hx.at_).1,hx,rfl⟩,nofun,by simp[aJ],aei _⟩
 have e:qb fl x=r':=h1
 have hl:=tT fun y hy=>(hR.rt y hy).1
 have hs:=hR.sum
 simp only[aJ,List.map_nil,List.sum_nil]at hs
 rw[e]
 refine⟨?_,by unfold aJ at hl;omega,fun y hy=>(hR.rt y hy).2⟩
 have hv:bz r'=true:=by
  unfold bz
  rw[aed.2 fun y hy=>(hR.rt y hy).1,aeb (by show r'.length<=4096;unfold aJ at hl;omega)];rfl
 unfold cu;rw[hv];show aJ r'=_;unfold aJ;omega
end
section
open Go.TM
variable [bj]
theorem JN(fl:List bp)(h:FW fl)(i:Nat)(f:bp)(hf:fl[i]?=some f):aj Tryz.prog 29 [.ptr 0 0,.dv (I f.id)] 2 (Of fl) 0 [cx (ar f),.dv (B true)] (Of fl):=by
 have hl:=h.len
 have uZ:=(adP.1 hf).1
 have hg:=h.get fl.length i f hf uZ (aei _)
 have hq:=dU (ev:=eI) eT (oM fl fl.length) f.id
 rw[hg]at hq
 have lf:(fl.map ar).length=fl.length:=adO ..
 have ig:(fl.map ar)[(i:Int).toNat]?=some (ar f):=by rw[adQ];simp[hf]
 have b8:=h.ok f (adR hf)
 refine cO Tryz.func29 rfl (by kernel_rfl) ?_
 refine⟨gf,eI f.id,rfl,rfl,I i,true,fun _=>hq,fun h=>(by cases h),rfl,?_⟩
 refine adN (fun h=>by cases h) fun _=>?_
 have A2:=(dE b8.1.ps).1
 refine⟨ar f,fun _=>⟨by omega,ig⟩,?_⟩
 refine .inl ⟨_,fun _=>(vg f (by omega) (by have:=b8.2;omega)).ok,?_⟩
 exact ext (by kernel_rfl) rfl rfl
end
end Go.Proofs.YtfpebgpgabjieaaGreatDoor
