import Derived.Test.YtfpebgpgabjieaaGreatDoorGM42
import Derived.Test.YtfpebgpgabjieaaGreatDoorGM38
import Derived.Test.YtfpebgpgabjieaaGreatDoorGM41
import Derived.Test.YtfpebgpgabjieaaGreatDoorGM40
import Derived.Test.YtfpebgpgabjieaaGreatDoorGM18
import Derived.Test.YtfpebgpgabjieaaGreatDoorCards
import Derived.Test.YtfpebgpgabjieaaGreatDoorTie
import Derived.WalkKit
import Derived.ProofKit
import Derived.OpenShut
import Derived.JoinedCond
import Derived.Carry
import Derived.ChangeSlices
import Derived.Deep.DeepHandedRow
import Derived.Lib.LaidTab
set_option linter.all false
open Go.TM.oA Go.TM.oB Go.TM.oC Go.TM.oD Go.TM.oE
namespace Go.Proofs.YtfpebgpgabjieaaGreatDoor
set_option maxRecDepth 100000
set_option maxHeartbeats 4000000
section
open Go.TM
def lI(f:bp):bp:=if f.kind=5 then⟨f.id,f.step,f.kind,f.tick,f.iF,f.fr,f.to,f.it,f.n,[],f.md⟩else f
structure GF(P:PL)(fl:List bp):Prop where
 eq:fl=P.fl.map lI
 fw:FW fl
 st:∀k,(bC P.st k).length<=1000
 Lr:∀a it:Int,∀x∈bC P.st (a,it),(∃(i:Nat) (f:bp),RK fl x i f/\f.it=it)/\x.n<=4096
 root:∀f∈fl,f.ps=[]->f.fr=0
def ghK(P:PL)(fl:List bp):ad:=[(1,.tree 0 0 (.omap eE (oZ P.st))),(2,.tree 0 0 (.omap bX (j4 P.bZ))),(3,.tree 0 0 (.omap bX (ni P.imp))),(4,.tree 0 0 (.omap bX (ni P.ret))),(5,.cells (.dv (I P.sh)::eP iG++[.own 1 0 0 [],.own 2 0 0 [],.own 8 0 0 [],.own 9 0 0 [],.own 3 0 0 [],.own 4 0 0 []])),(8,.tree 0 0 (.aD 7 (P.sp.map aP))),(9,.tree 0 0 (.aD 11 (P.fl.map ar))),(14,.tree 0 0 (.omap bX (j4 (oM fl fl.length)))),(15,.cells [.dv (.sl 11 (fl.map ar)),.dv (.sl 1 ((fl.map fun f=>dK f f.ps.length).map Ints)),.own 14 0 0 [],.dv (.sl 1 ((Ny fl (oM fl fl.length)).map fun(i:Nat)=>I (i:Int))),.dv .aw])]
def JO(P:PL)(i:Nat):List bp:=(P.fl.take i).map lI++P.fl.drop i
theorem YZ{P:PL}{i:Nat}{f:bp}(h:P.fl[i]?=some f):(JO P i)[i]?=some f/\(JO P i).set i (lI f)=JO P (i+1):=by
 have hl:=(adP.1 h).1
 have hlen:((P.fl.take i).map lI).length=i:=by simp;omega
 have hd:P.fl.drop i=f::P.fl.drop (i+1):=by rw[List.drop_eq_getElem_cons hl,(adP.1 h).2]
 unfold JO
 refine⟨?_,?_⟩
 ·rw[List.getElem?_append_right (by omega),hlen,Nat.sub_self,hd];rfl
 ·rw[List.set_append_right _ _ (by omega),hlen,Nat.sub_self,hd,adY,h,ad7]
  simp
variable [bj]
theorem RV{P:PL}{R:RL}{fl:List bp}(hI:Inv P R)(hF:GF P fl)(hLv:aR Tryz.prog 19 [] [B true])(n k:List Int)(hs:aj Tryz.prog 6 [.dv (Ints n),.dv (Ints k)] 0 [] 13 [.ptr 5 0] (lfK P R)):aR Tryz.prog 5 [Ints n,Ints k] [B true]:=by
 have hG:=hI.gT
 have km:P.fl.length<=160:=by rw[hI.fl];exact hG.fl
 refine pO Tryz.func5 rfl (by kernel_rfl) rfl ?_
 refine .inr (cl [] hs (by kernel_rfl) rfl rfl ?_)
 refine adN (fun h=>by cases h) fun _=>?_
 refine .inr (cl [5,1,2,8,9,3,4] (D2 P (by omega) (by rw[hI.fl];exact fun f hf=>by have:=hG.F8 f hf;omega)) (by kernel_rfl) rfl rfl ?_)
 refine⟨Nat,fun i=>⟨14,[(5,.ptr 5 0),(6,.own 13 0 0 []),(7,.dv (I i))],[(1,.tree 0 0 (.omap eE (oZ P.st))),(2,.tree 0 0 (.omap bX (j4 P.bZ))),(3,.tree 0 0 (.omap bX (ni P.imp))),(4,.tree 0 0 (.omap bX (ni P.ret))),(5,.cells (.dv (I P.sh)::eP iG++[.own 1 0 0 [],.own 2 0 0 [],.own 8 0 0 [],.own 9 0 0 [],.own 3 0 0 [],.own 4 0 0 []])),(8,.tree 0 0 (.aD 7 (P.sp.map aP))),(9,.tree 0 0 (.aD 11 (P.fl.map ar))),(13,.tree 0 0 (.aD 11 ((JO P i).map ar)))]⟩,fun i=>i<=P.fl.length,fun i=>P.fl.length-i,0,fun _=>rfl,jn rfl rfl rfl rfl,ad3 _,?_⟩
 intro i hi
 have lg:((JO P i).map ar).length=P.fl.length:=by simp[JO];omega
 refine adN (fun h=>?_) fun h=>?_
 ·have ay:i<P.fl.length:=by have:=ad5 h;omega
  obtain⟨f,hf⟩:∃f,P.fl[i]?=some f:=⟨_,ace ay⟩
  obtain⟨g1,g2⟩:=YZ hf
  have ig:((JO P i).map ar)[(i:Int).toNat]?=some (ar f):=by rw[adQ];show Option.map _ (JO P i)[i]?=_;rw[g1];rfl
  refine⟨fun _=>by omega,ar f,fun _=>ig,?_⟩
  refine adN (fun h2=>?_) fun h2=>?_
  ·have h5:f.kind=5:=beq_iff_eq.1 h2
   have e:(JO P (i+1)).map ar=((JO P i).map ar).set (i:Int).toNat (ar ⟨f.id,f.step,f.kind,f.tick,f.iF,f.fr,f.to,f.it,f.n,[],f.md⟩):=by
    rw[<-g2,List.map_set];unfold lI;rw[if_pos h5];rfl
   refine⟨fun _=>by omega,[aQ []],⟨DV.aL 3,tv⟩,ar f,ig,?_⟩
   exact⟨fun _=>by omega,i+1,jn rfl (by simp only[e];rfl) rfl rfl,ay,mlt ay⟩
  ·have h5:¬f.kind=5:=beq_eq_false_iff_ne.1 h2
   have e:JO P i=JO P (i+1):=by
    rw[<-g2];unfold lI;rw[if_neg h5]
    exact(List.ext_getElem? fun q=>by
     rw[List.getElem?_set];split
     ·rename_i hq;subst hq;rw[g1];simp;have:=lg;simp at this;omega
     ·rfl)
   rw[e]
   exact⟨fun _=>by omega,i+1,jn rfl rfl rfl rfl,ay,mlt ay⟩
 obtain rfl:i=P.fl.length:=by have:=ad6 h;omega
 rw[show JO P P.fl.length=fl by rw[hF.eq];unfold JO;simp]
 refine .inr ⟨[],[.dv (.sl 11 (fl.map ar))],[],3,_,_,NA fl hF.fw,by kernel_rfl,by kernel_rfl,⟨zf 11 (fun _=>rfl),tv⟩,tv,?_⟩
 repeat refine gG ?_
 refine adN (fun h=>by cases h) fun _=>?_
 refine⟨Nat,fun a=>⟨16,[(5,.ptr 5 0),(8,.ptr 15 0),(10,.dv (I ((a:Int)+1)))],ghK P fl⟩,fun a=>a<=6,fun a=>6-a,0,fun _=>rfl,jn rfl rfl rfl rfl,ad3 _,?_⟩
 intro a ha
 refine adN (fun h=>?_) fun h=>?_
 rotate_left
 ·refine .inl ⟨_,fun _=>hLv.ok,?_⟩
  exact⟨rf,tv⟩
 have hla:a<6:=by have:=ad5 h;omega
 refine⟨Nat,fun it=>⟨16,[(5,.ptr 5 0),(8,.ptr 15 0),(10,.dv (I ((a:Int)+1))),(11,.dv (I it))],ghK P fl⟩,fun it=>it<=5,fun it=>5-it,0,fun _=>rfl,jn rfl rfl rfl rfl,ad3 _,?_⟩
 intro it ku
 refine adN (fun h=>?_) fun h=>?_
 rotate_left
 ·exact⟨fun _=>by omega,a+1,jn rfl rfl rfl rfl,hla,mlt hla⟩
 have Zw:it<5:=by have:=ad5 h;omega
 have hp:=pW P ((a:Int)+1) it (by have:=hF.st ((a:Int)+1,(it:Int));omega)
 have ac2:=hF.Lr ((a:Int)+1) it
 have gl:=hF.st ((a:Int)+1,(it:Int))
 generalize bC P.st ((a:Int)+1,(it:Int))=s at*
 refine .inr (cl [5,1,2,8,9,3,4] hp (by kernel_rfl) rfl rfl ?_)
 have lS:(s.map ax).length=s.length:=adO ..
 refine⟨Nat,fun j=>⟨16,[(5,.ptr 5 0),(8,.ptr 15 0),(10,.dv (I ((a:Int)+1))),(11,.dv (I it)),(12,.dv (aQ s)),(13,.dv (I j))],ghK P fl⟩,fun j=>j<=s.length,fun j=>s.length-j,0,fun _=>rfl,jn rfl rfl rfl rfl,ad3 _,?_⟩
 intro j hj
 refine adN (fun h=>?_) fun h=>?_
 rotate_left
 ·exact⟨fun _=>by omega,it+1,jn rfl rfl rfl rfl,Zw,mlt Zw⟩
 have hlj:j<s.length:=by have:=ad5 h;omega
 obtain⟨x,hx⟩:∃x,s[j]?=some x:=⟨_,ace hlj⟩
 have ix:(s.map ax)[(j:Int).toNat]?=some (ax x):=by rw[adQ];simp[hx]
 obtain⟨⟨i',f,hif,hfi⟩,hxn⟩:=ac2 x (adR hx)
 have w8:=JM fl hF.fw x i' f hif hxn
 obtain⟨r1,r2,r3⟩:=RU hF.fw hif hxn
 generalize qb fl x=r at*
 have lR:(r.map ax).length=r.length:=adO ..
 refine⟨ax x,fun _=>⟨by omega,ix⟩,?_⟩
 refine .inr (cl [15,14] w8 (by kernel_rfl) rfl rfl ?_)
 refine .inl ⟨_,fun _=>(kR r (by omega)).ok,?_⟩
 refine⟨ax x,fun _=>⟨by omega,ix⟩,?_⟩
 refine⟨by kernel_rfl,?_⟩
 rw[r1,bne_self_eq_false]
 refine adN (fun h=>by cases h) fun _=>?_
 refine⟨Nat,fun q=>⟨16,[(5,.ptr 5 0),(8,.ptr 15 0),(10,.dv (I ((a:Int)+1))),(11,.dv (I it)),(12,.dv (aQ s)),(13,.dv (I j)),(14,.dv (aQ r)),(15,.dv (I q))],ghK P fl⟩,fun q=>q<=r.length,fun q=>r.length-q,0,fun _=>rfl,jn rfl rfl rfl rfl,ad3 _,?_⟩
 intro q hq
 refine adN (fun h=>?_) fun h=>?_
 rotate_left
 ·exact⟨fun _=>by omega,j+1,jn rfl rfl rfl rfl,hlj,mlt hlj⟩
 have W8:q<r.length:=by have:=ad5 h;omega
 obtain⟨y,hy⟩:∃y,r[q]?=some y:=⟨_,ace W8⟩
 have iy:(r.map ax)[(q:Int).toNat]?=some (ax y):=by rw[adQ];simp[hy]
 obtain⟨j',g,hyg,hgi,EB⟩:=r3 y (adR hy)
 have hfs:=JN fl hF.fw j' g hyg.at_
 rw[hyg.id]at hfs
 have hgr:=hF.root g (adR hyg.at_) EB
 have ac3:g.it=it:=hgi.trans hfi
 refine⟨ax y,fun _=>⟨by omega,iy⟩,?_⟩
 refine .inr (cl [15,14] hfs (by kernel_rfl) rfl rfl ?_)
 repeat refine gG ?_
 refine adN (fun h=>?_) fun _=>?_
 ·exfalso;simp[ac3,hgr]at h
 exact⟨fun _=>by omega,q+1,jn rfl rfl rfl rfl,W8,mlt W8⟩
end
section
open Go.TM
theorem RW(f u:Int):∀(l:List (Lt×Int)) (p:List Lt×List Lt),(∀q∈l,0<=q.2/\q.2<=q.1.n)->(∀y∈p.1,0<=y.n)->(∀y∈p.2,0<=y.n)->(has (l.foldl ZH p).1 f u\/has (l.foldl ZH p).2 f u↔(has p.1 f u\/has p.2 f u)\/has (l.map (·.1)) f u)
 |[],p,_,_,_=>by simp[bY]
 |q::l,p,h,h1,h2=>by
  obtain⟨q1,q2⟩:=h q ad0
  rw[List.foldl_cons,RW f u l _ (fun z hz=>h z (adW _ hz)) (De h1 q1) (De h2 (by grind [Uy])),List.map_cons,bo]
  show(has (aN p.1 ⟨q.1.f,q.1.a,q.2⟩) f u\/has (aN p.2 (Uy q)) f u)\/_↔_
  grind [pM,eG,Uy]
theorem RX{s:List Lt}{n:Int}(mx:Bool)(hn:0<=n)(hs:∀x∈s,aB x=true)(ht:n<=aJ s)(f u:Int):has s f u↔has (eV s n mx).1 f u\/has (eV s n mx).2 f u:=by
 obtain⟨c1,c2⟩:=tl mx hn hs ht
 unfold eV me
 generalize oT s n mx=ks at c1 c2
 have hq:∀q∈s.zip ks,0<=q.2/\q.2<=q.1.n:=fun q hq=>by
  obtain⟨i,hi⟩:=aea hq
  obtain⟨h1,h2⟩:=List.getElem?_zip_eq_some.1 hi
  have:=c2 i q.1 h1
  rwa[adT,h2]at this
 rw[List.take_of_length_le (by grind),RW f u _ _ hq (fun _ h=>by grind) (fun _ h=>by grind),List.map_fst_zip (by omega)]
 simp[bY]
inductive Shape(R:RL)(s:cG)(m:c5):RL->Prop
 |fr (tk:List Lt×List Lt):0<m.fr->s.kind≠5->(∀f u,has (bC R.st (m.fr,m.it)) f u↔has tk.1 f u\/has tk.2 f u)->aJ tk.1=m.n->(∀x∈tk.1,aB x=true)->(∀x∈tk.2,aB x=true)->tk.1.length<=(bC R.st (m.fr,m.it)).length+1->Shape R s m (AG R s m tk)
 |w (l:List Lt) (md:List Int):m.fr=0->(l=[]/\s.kind≠5/\s.kind≠9\/s.kind=5\/s.kind=9/\∃x f,l=[x]/\AL R s m x f)->Shape R s m (wL R s m l md)
theorem RY{R:RL}{s:cG}{m:c5}(hG:Good R)(hm:AF R.sh s m)(h0:(aX R s m).1=0):Shape R s m (aX R s m).2:=by
 have hb:=ad5 hm.base
 have hS:=hG.oK (m.fr,m.it)
 have km:=hG.fl
 by_cases eC:0<m.fr
 ·have hp:s.kind≠5/\m.ps=[]:=by
   rcases hm.ps with h|h
   ·omega
   grind
  have c6:bC (aH R.st (m.fr,m.it) (eV (bC R.st (m.fr,m.it)) m.n (wM m.it)).2) (m.to,m.it)=bC R.st (m.to,m.it):=by
   simp_all [fB,if_neg]
  rw[xj R s m eC hp.2]at h0⊢
  by_cases hc:cu (bC R.st (m.fr,m.it))<m.n
  ·grind
  rw[if_neg hc]
  have hn:m.n<=aJ (bC R.st (m.fr,m.it)):=by grind [pU,fj]
  have MZ:0<=m.n:=by omega
  obtain⟨t1,t2,t3,_⟩:=Da _ MZ hS.1 hn
  simp[c6]
  exact .fr _ eC hp.1 (RX _ MZ hS.1 hn) (F6 _ MZ hS.1 hn).1 t1 t2 (Nat.le_succ_of_le t3)
 ·have mi:m.fr=0:=by omega
  rw[qH R s m mi (by omega)]at h0⊢
  unfold wR at h0⊢
  by_cases he:Db R s.kind m≠0
  ·grind
  rw[if_neg he]at h0⊢
  by_cases hc:1099511627776<bN R.st m.it+m.n
  ·grind
  rw[if_neg hc]
  refine .w _ _ mi ?_
  rcases hm.ps with⟨h5,_⟩|⟨h5,h9,_⟩
  ·grind
  grind
theorem RZ{R:RL}{s:cG}{m:c5}{x:Lt}(hG:Good R)(hD:Dx R)(hl:R.fl.length+1<=160)(hm:GN R s m x\/∃f,AL R s m x f)(h0:(aX R s m).1=0):Shape R s m (aX R s m).2:=by
 rcases hm with hm|⟨f,hm⟩
 ·rw[(DM hG hD hl hm).1]
  obtain⟨y,hy,hi⟩:=hm.Lr
  have hS:=hG.oK (m.fr,m.it)
  have hx:=ah.1 hm.pos
  have Wm:∀z∈[x],aB z=true:=fun z hz=>by rw[adU]at hz;subst hz;exact hm.pos
  refine .fr ([x],mD _ [x]) hm.fr (by rw[hm.kind];grind) (fun g u=>?_) (by simp[aJ,hm.n]) Wm ?_ (by simp)
  ·rw[(yz (fun z hz=>(ah.1 (hS.1 z hz)).2.2.1) fun z hz=>(ah.1 (Wm z hz)).2.2.1).2,cM]
   refine⟨fun h=>?_,fun h=>?_⟩
   ·grind
   ·rcases h with h|h
    ·exact⟨y,hy,by grind [eG]⟩
    grind
  ·have:=(u4 hS.1 Wm (bC R.st (m.fr,m.it)).length).1
   grind [Dh]
 ·rw[(DN hG hD hl hm h0).1]
  exact .w [x] [] hm.fr (.inr (.inr ⟨hm.kind,x,f,rfl,hm⟩))
end
section
open Go.TM
def S9(fl:List bp):List Lt:=(fl.filter fun f=>f.kind==9&&f.fr==0).flatMap (·.ps)
inductive Z2(R:RL)(s:cG)(m:c5):RL->Prop
 |fr (tk:List Lt×List Lt):0<m.fr->s.kind≠5->(∀f u,has (bC R.st (m.fr,m.it)) f u↔has tk.1 f u\/has tk.2 f u)->aJ tk.1=m.n->(∀x∈tk.1,aB x=true)->(∀x∈tk.2,aB x=true)->Z2 R s m (AG R s m tk)
 |w (l:List Lt) (md:List Int):m.fr=0->(s.kind≠5/\s.kind≠9/\l=[]\/s.kind=5\/s.kind=9/\md=[]/\∃x f,l=[x]/\AL R s m x f/\∀g u,eG x g u->¬has (Ey R.fl x.f) g u)->(∀id∈md,∃g∈R.fl,g.id=id)->Z2 R s m (wL R s m l md)
theorem Vm{fl:List bp}{b:Bool}{st:Int}:∀id∈(bif b then qZ fl st else[]),∃g∈fl,g.id=id:=fun id h=>by
 cases b with
 |false=>grind
 |true=>
  obtain⟨g,hg,he⟩:=aeg.1 (h)
  grind
theorem Y0{R:RL}{s:cG}{m:c5}(hG:Good R)(hm:AF R.sh s m)(h0:(aX R s m).1=0):Z2 R s m (aX R s m).2:=by
 have hb:=ad5 hm.base
 by_cases eC:0<m.fr
 ·have h:=RY hG hm h0
  generalize (aX R s m).2=R' at h
  cases h with
  |fr tk h1 h2 h3 h4 h5 h6 _=>exact .fr tk h1 h2 h3 h4 h5 h6
  |w l md h1 _=>omega
 ·have mi:m.fr=0:=by omega
  rw[qH R s m mi (by omega)]at h0⊢
  unfold wR at h0⊢
  by_cases he:Db R s.kind m≠0
  ·grind
  rw[if_neg he]at h0⊢
  by_cases hc:1099511627776<bN R.st m.it+m.n
  ·grind
  rw[if_neg hc]
  refine .w _ _ mi ?_ Vm
  rcases hm.ps with⟨h5,_⟩|⟨h5,h9,_⟩
  ·grind
  grind
theorem Y1{R:RL}{s:cG}{m:c5}{x:Lt}(hG:Good R)(hD:Dx R)(hl:R.fl.length+1<=160)(hm:GN R s m x\/∃f,AL R s m x f)(h0:(aX R s m).1=0):Z2 R s m (aX R s m).2:=by
 rcases hm with hm|⟨f,hm⟩
 ·have h:=RZ hG hD hl (.inl hm) h0
  generalize (aX R s m).2=R' at h
  cases h with
  |fr tk h1 h2 h3 h4 h5 h6 _=>exact .fr tk h1 h2 h3 h4 h5 h6
  |w l md h1 _=>have:=hm.fr;omega
 ·obtain⟨e,_,hd,_⟩:=DN hG hD hl hm h0
  rw[e]
  refine .w [x] [] hm.fr (.inr (.inr ⟨hm.kind,rfl,x,f,rfl,hm,fun g u hx hr=>?_⟩)) nofun
  unfold kg at hd
  by_cases hn:Ey R.fl x.f=[]
  ·grind [bY]
  ·rw[if_neg hn]at hd
   have so:=fQ fun z hz=>(ah.1 (Di hD (g:=x.f) z hz)).2.2.1
   exact(CV (fun z hz=>by rw[adU]at hz;subst hz;exact((ah.1 hm.pos).2.2.1)) so.1).1 hd g u (cM.2 hx) ((so.2 g u).2 hr)
theorem abW{J:RL->Prop}{s:cG}(hJ:∀R m R',iz (eW R.sp) s=true->Good R->Dx R->m∈s.mv->di m=true->R.fl.length+1<=160->R'.sp=R.sp->Z2 R s m R'->J R->J R')(lO:∀(R:RL) l,J R->J { R with sp:=l }){R:RL}(hG:Good R)(hD:Dx R)(hl:R.fl.length+s.mv.length<=160)(hs:fA R s)(h0:oW R s=0)(h:J R):J (Lw R s):=by
 unfold oW at h0
 cases hp:iz (eW R.sp) s with
 |false=>grind
 |true=>
  rw[hp]at h0
  have hm:=(hs.pos hp).1
  have key:∀i,(eX R s i).1=0->J (eX R s i).2:=fun i=>by
   induction i with
   |zero=>exact fun _=>h
   |succ i ih=>
    intro h
    have h0:=oa (Nat.le_succ i) h
    obtain⟨⟨h1,h3⟩,h2⟩:=GR hG hD hl hm i
    cases hx:s.mv[i]? with
    |none=>
     grind [eX,List.take_add_one]
    |some m=>
     have hi:=(adP.1 hx).1
     have x3:=adR hx
     have e1:=pZ R s i
     have e2:=pZ R s (i+1)
     rw[jY hx h0]at h e2⊢
     refine hJ _ m _ (by grind) h1 h3 x3 ((zA hp) m x3) (by omega) (by grind) ?_ (ih h0)
     rcases Lv hm hx with lW|⟨rfl,x,lW⟩
     ·grind [Y0]
     ·exact Y1 hG hD (by omega) lW h
  exact lO _ _ (key s.mv.length h0)
end
section
open Go.TM
def Ins(fl:List bp)(it:Int)(y:Lt):Prop:=∃g∈fl,g.id=y.f/\y.a+y.n<=g.n/\g.it=it
structure Gg(R:RL):Prop where
 Lr:∀k,∀y∈bC R.st k,Ins R.fl k.2 y
 prt:∀f∈R.fl,f.kind≠5->∀x∈f.ps,aB x=true/\Ins R.fl f.it x/\x.f<f.id
 md:∀f∈R.fl,∀id∈f.md,id<f.id/\∃g∈R.fl,g.id=id
 sum:∀f∈R.fl,f.kind≠5->f.ps=[]/\f.fr=0/\f.kind≠9\/f.md=[]/\aJ f.ps=f.n
 sm:∀f∈R.fl,f.fr=0->f.kind≠9->f.n<=60
 rz:∀x∈S9 R.fl,∃g∈R.fl,g.id=x.f/\g.to=0
 rd:Dj (S9 R.fl)
 k5:∀f∈R.fl,f.kind=5->f.fr=0
theorem gg0{sh:Int}:Gg ⟨sh,[],[],[]⟩:=⟨nofun,nofun,nofun,nofun,nofun,nofun,.nil,nofun⟩
theorem Ins.app{fl:List bp}{it:Int}{y:Lt}(f:bp):Ins fl it y->Ins (fl++[f]) it y:=fun⟨g,h,q⟩=>⟨g,List.mem_append_left _ h,q⟩
theorem D5{fl:List bp}{it:Int}{l S:List Lt}(h:∀g u,has l g u->has S g u)(hp:∀y∈l,aB y=true)(hS:∀y∈S,Ins fl it y):∀y∈l,Ins fl it y:=fun y hy=>by
 have hb:=ah.1 (hp y hy)
 obtain⟨z,hz,e,z1,z2⟩:=h y.f (y.a+y.n-1) ⟨y,hy,rfl,by omega,by omega⟩
 obtain⟨g,hg,g1,g2,g3⟩:=hS z hz
 exact⟨g,hg,by grind,by omega,g3⟩
theorem LI{fl:List bp}{f:bp}:S9 (fl++[f])=S9 fl++if f.kind=9/\f.fr=0 then f.ps else[]:=by
 unfold S9
 grind
theorem R3{R:RL}(hG:Good R)(hD:Dx R){S:List Lt}{it n id:Int}{f:bp}(hn:1<=n/\n<=1099511627776)(kl:0<=id)(hS:∀y∈S,aB y=true)(hI:∀y∈S,Ins R.fl it y)(hf:f.id=id/\f.n=n/\f.it=it):∀y∈aN S ⟨id,0,n⟩,Ins (R.fl++[f]) it y:=by
 refine D5 (S:=S++[⟨id,0,n⟩]) (fun g u h=>?_) (fL hS ⟨kl,Int.le_refl _,by grind,by grind⟩) fun y hy=>?_
 ·grind [pM,gQ,dT,cM]
 ·rcases adX.1 hy with hy|hy
  ·exact(hI y hy).app f
  ·rw[adU]at hy;subst hy
   exact⟨f,List.mem_append_right _ (adU.2 rfl),hf.1,by grind,hf.2.2⟩
theorem abX{R:RL}{s:cG}{m:c5}{R':RL}(hG:Good R)(hD:Dx R)(hb:di m=true)(hv:s.kind=9->aJ m.ps=m.n)(ha:m.fr=0->s.kind≠9->m.n<=60)(h:Z2 R s m R')(hH:Gg R):Gg R':=by
 have hb:=ad5 hb
 have oF:=hG.sh
 have kl:0<=R.sh*4294967296+R.fl.length:=by omega
 have hS:=fun k=>(hG.oK k).1
 have ay:=fun g hg=>(hG.F8 g hg).2.2.2.1
 have uc:∀{it:Int} {y:Lt},Ins R.fl it y->y.f<R.sh*4294967296+R.fl.length:=fun⟨g,hg,e,_⟩=>by grind
 cases h with
 |fr tk h1 h2 h3 h4 h5 h6=>
  have i1:=D5 (fun g u h=>(h3 g u).2 (.inl h)) h5 (hH.Lr (m.fr,m.it))
  have km:(AG R s m tk).fl=R.fl++[dX R s m tk.1 []]:=rfl
  have lJ:∀{p:bp->Prop},(∀f∈R.fl,p f)->p (dX R s m tk.1 [])->∀f∈(AG R s m tk).fl,p f:=fun h1 h2 f hf=>by
   grind
  have hr:S9 (AG R s m tk).fl=S9 R.fl:=by
   rw[km,LI,if_neg (fun h=>by have:m.fr=0:=h.2;omega),List.append_nil]
  refine⟨fun k y hy=>?_,lJ (fun f hf h5 x hx=>?_) (fun _ x hx=>?_),lJ (fun f hf d hd=>?_) nofun,lJ hH.sum (fun _=>.inr ⟨rfl,h4⟩),lJ hH.sm (fun h=>by have:m.fr=0:=h;omega),?_,by rw[hr];exact hH.rd,lJ hH.k5 fun h=>absurd h h2⟩
  ·have hold:∀k y,y∈bC (aH R.st (m.fr,m.it) tk.2) k->Ins R.fl k.2 y:=fun k y hy=>by
    rw[fB]at hy
    split at hy
    ·rename_i e;rw[<-e];exact(D5 (fun g u h=>(h3 g u).2 (.inr h)) h6 (hH.Lr (m.fr,m.it))) y hy
    ·exact hH.Lr k y hy
   have hy:y∈bC (if 0<m.to then aH (aH R.st (m.fr,m.it) tk.2) (m.to,m.it) (aN (bC R.st (m.to,m.it)) ⟨R.sh*4294967296+R.fl.length,0,m.n⟩)else aH R.st (m.fr,m.it) tk.2) k:=hy
   split at hy
   ·rw[fB]at hy
    split at hy
    ·rename_i e;rw[<-e]
     exact R3 hG hD ⟨hb.2.2.1,hb.2.2.2.1⟩ kl (hS _) (hH.Lr (m.to,m.it)) ⟨rfl,rfl,rfl⟩ y hy
    ·exact(hold k y hy).app _
   ·exact(hold k y hy).app _
  ·obtain⟨a,b,c⟩:=hH.prt f hf h5 x hx
   exact⟨a,b.app _,c⟩
  ·exact⟨h5 x hx,(i1 x hx).app _,uc (i1 x hx)⟩
  ·obtain⟨a,g,b,c⟩:=hH.md f hf d hd
   grind
  ·rw[hr];intro x hx
   obtain⟨g,b,c⟩:=hH.rz x hx
   grind
 |w l md h1 h2 h3=>
  have km:(wL R s m l md).fl=R.fl++[dX R s m l md]:=rfl
  have lJ:∀{p:bp->Prop},(∀f∈R.fl,p f)->p (dX R s m l md)->∀f∈(wL R s m l md).fl,p f:=fun h1 h2 f hf=>by
   grind
  have hl:s.kind≠5->∀x∈l,aB x=true/\Ins R.fl m.it x:=fun h5 x hx=>by
   rcases h2 with h|h|⟨_,_,x',f,e,hv,_⟩
   ·grind
   ·grind
   ·rw[e,adU]at hx;subst hx
    exact⟨hv.pos,f,hv.mem,hv.id,hv.ok.2.2.2,hv.ok.2.2.1⟩
  have hr:S9 (wL R s m l md).fl=S9 R.fl++if s.kind=9 then l else[]:=by
   rw[km,LI]
   by_cases h9:s.kind=9
   ·rw[if_pos h9,if_pos ⟨h9,h1⟩];rfl
   ·rw[if_neg h9,if_neg fun h=>h9 h.1]
  refine⟨fun k y hy=>?_,lJ (fun f hf h5 x hx=>?_) (fun h5 x hx=>?_),lJ (fun f hf d hd=>?_) (fun d hd=>?_),lJ hH.sum (fun h5=>?_),lJ hH.sm (fun _ h9=>ha h1 h9),?_,?_,lJ hH.k5 fun _=>h1⟩
  ·have hy:y∈bC (aH R.st (m.to,m.it) (aN (bC R.st (m.to,m.it)) ⟨R.sh*4294967296+R.fl.length,0,m.n⟩)) k:=hy
   rw[fB]at hy
   split at hy
   ·rename_i e;rw[<-e]
    exact R3 hG hD ⟨hb.2.2.1,hb.2.2.2.1⟩ kl (hS _) (hH.Lr (m.to,m.it)) ⟨rfl,rfl,rfl⟩ y hy
   ·exact(hH.Lr k y hy).app _
  ·obtain⟨a,b,c⟩:=hH.prt f hf h5 x hx
   exact⟨a,b.app _,c⟩
  ·obtain⟨a,b⟩:=hl h5 x hx
   exact⟨a,b.app _,uc b⟩
  ·obtain⟨a,g,b,c⟩:=hH.md f hf d hd
   grind
  ·obtain⟨g,b,c⟩:=h3 d hd
   exact⟨by rw[<-c];exact ay g b,g,List.mem_append_left _ b,c⟩
  ·rcases h2 with h|h|⟨h9,e2,x,f,e,Z3,_⟩
   ·exact .inl ⟨h.2.2,h1,h.2.1⟩
   ·exact absurd h h5
   ·refine .inr ⟨e2,?_⟩
    show aJ l=m.n
    rw[<-hv h9,Z3.ps,e]
  ·rw[hr];intro x hx
   rcases adX.1 hx with hx|hx
   ·obtain⟨g,b,c⟩:=hH.rz x hx
    grind
   ·split at hx
    ·rcases h2 with h|h|⟨_,_,x',f,e,Z3,_⟩
     ·grind
     ·omega
     ·rw[e,adU]at hx;subst hx
      exact⟨f,List.mem_append_left _ Z3.mem,Z3.id,Z3.ok.1⟩
    ·cases hx
  ·rw[hr]
   split
   ·rename_i h9
    rcases h2 with h|h|⟨_,_,x,f,e,Z3,fy⟩
    ·exact absurd h9 h.2.1
    ·omega
    ·rw[e]
     refine kf.2 ⟨hH.rd,I7 _,fun g u hu hx=>?_⟩
     have hx:=cM.1 hx
     obtain⟨y,hy,hyu⟩:=hu
     refine fy g u hx ⟨y,?_,hyu⟩
     show y∈(S9 R.fl).filter fun z=>z.f==x.f
     rw[List.mem_filter,beq_iff_eq]
     exact⟨hy,hyu.1.trans hx.1.symm⟩
   ·rw[List.append_nil];exact hH.rd
theorem Vn{R:RL}{s:cG}(hG:Good R)(hD:Dx R)(hl:R.fl.length+s.mv.length<=160)(hs:fA R s)(ha:s.kind≠9->s.kind≠7->∀m∈s.mv,m.fr=0->m.n<=60)(h0:oW R s=0)(h:Gg R):Gg (Lw R s):=
 abW (fun R m R' hp hG hD hm hb _ _ h1 h2=>abX hG hD hb (fun h9=>by
  unfold iz at hp
  rw[aep,aep]at hp
  have:=aed.1 hp.1.2 m hm
  unfold AD at this
  rw[show ng s.kind=true by rw[h9];rfl,cond_true]at this
  simp[aep,decide_eq_true_eq]at this
  grind [pU]) (fun hf h9=>by
  by_cases h7:s.kind=7
  ·unfold iz at hp
   rw[h7]at hp
   rw[aep]at hp
   grind [mg]
  grind) h1 h2) (fun R l h=>⟨h.Lr,h.prt,h.md,h.sum,h.sm,h.rz,h.rd,h.k5⟩) hG hD hl hs h0 h
end
section
open Go.TM
theorem R4{p q:Nat->Bool}:∀{l:List Nat},(∀u∈l,p u=true->q u=false)->(l.filter p).length+(l.filter q).length=(l.filter fun u=>p u||q u).length
 |[],_=>rfl
 |u::l,h=>by
  have ih:=R4 fun v hv=>h v (adW _ hv)
  grind
theorem R5(a b:Nat):∀N:Nat,((List.range N).filter fun u=>decide (a<=u/\u<b)).length=min b N-min a N
 |0=>by simp
 |N+1=>by
  rw[List.range_succ,List.filter_append,ad1,R5 a b N]
  grind
theorem R6(f:Int)(N:Nat):∀{l:List Lt},Dj l->(∀x∈l,aB x=true/\x.f=f/\x.a+x.n<=N)->aJ l=(((List.range N).filter fun u=>l.any fun x=>decide (x.a.toNat<=u/\u<(x.a+x.n).toNat)).length:Nat)
 |[],_,_=>by
  have:(List.range N).filter (fun u=>([]:List Lt).any fun x=>decide (x.a.toNat<=u/\u<(x.a+x.n).toNat))=[]:=List.filter_eq_nil_iff.2 fun _ _=>by simp
  rw[this];rfl
 |x::l,hd,h=>by
  obtain⟨_,d2,d3⟩:=kf.1 (show Dj ([x]++l)from hd)
  obtain⟨h1,h2,h3⟩:=h x ad0
  have hx:=ah.1 h1
  rw[show x::l=[x]++l from rfl,eH,(R6 f N d2 fun y hy=>h y (adW _ hy))]
  have e:=R4 (p:=fun u=>decide (x.a.toNat<=u/\u<(x.a+x.n).toNat)) (q:=fun u=>l.any fun x=>decide (x.a.toNat<=u/\u<(x.a+x.n).toNat)) (l:=List.range N) fun u _ hu=>by
   have hu:=ad5 hu
   rw[Bool.eq_false_iff]
   intro ha
   obtain⟨y,hy,hq⟩:=List.any_eq_true.1 ha
   have hq:=ad5 hq
   obtain⟨y1,y2,y3⟩:=h y (adW _ hy)
   exact d3 f u (cM.2 ⟨h2,by omega,by omega⟩) ⟨y,hy,y2,by omega,by omega⟩
  have s1:aJ [x]=x.n:=by simp[aJ]
  rw[s1,show([x]++l)=x::l from rfl]
  simp only[List.any_cons]
  rw[<-e,(R5 x.a.toNat (x.a+x.n).toNat N)]
  omega
theorem abY{f:Int}{N:Int}{l:List Lt}(hN:0<=N)(hd:Dj l)(h:∀x∈l,aB x=true/\x.f=f/\x.a+x.n<=N):aJ l<=N:=by
 have h1:=R6 f N.toNat hd fun x hx=>by grind
 grind
theorem D6{α:Type}{g:α->Int}:∀{l:List α},(∀x∈l,0<=g x)->0<=(l.map g).sum
 |[],_=>by simp
 |x::l,h=>by
  have:=D6 fun y hy=>h y (adW _ hy)
  grind
theorem JP{α:Type}{g k:α->Int}:∀{l:List α},(∀x∈l,g x<=k x)->(l.map g).sum<=(l.map k).sum
 |[],_=>by simp
 |x::l,h=>by
  have:=JP fun y hy=>h y (adW _ hy)
  grind
theorem R7{f v:Int}(hv:0<=v):∀{G:List bp},(∃g∈G,g.id=f)->v<=(G.map fun g=>if f=g.id then v else 0).sum
 |[],⟨_,h,_⟩=>by grind
 |g::G,⟨q,hq,e⟩=>by
  rw[List.map_cons,List.sum_cons]
  have h0:0<=(G.map fun g=>if f=g.id then v else 0).sum:=D6 fun x _=>by grind
  rcases adV.1 hq with rfl|hq
  ·grind
  ·have:=R7 hv ⟨q,hq,e⟩
   grind
theorem R8{G:List bp}:∀{L:List Lt},(∀x∈L,0<=x.n/\∃g∈G,g.id=x.f)->aJ L<=(G.map fun g=>aJ (L.filter fun x=>x.f==g.id)).sum
 |[],_=>D6 fun _ _=>by simp[aJ]
 |x::L,h=>by
  have ih:=R8 fun y hy=>h y (adW _ hy)
  obtain⟨h1,h2⟩:=h x ad0
  have hp:=R7 h1 h2
  have e:∀g:bp,aJ ((x::L).filter fun x=>x.f==g.id)=(if x.f=g.id then x.n else 0)+aJ (L.filter fun x=>x.f==g.id):=fun g=>by
   by_cases hg:x.f=g.id
   ·simp_all [aJ]
   grind
  have e2:(G.map fun g=>aJ ((x::L).filter fun x=>x.f==g.id)).sum=(G.map fun g=>if x.f=g.id then x.n else 0).sum+(G.map fun g=>aJ (L.filter fun x=>x.f==g.id)).sum:=by
   clear ih h2 hp h
   induction G with
   |nil=>rfl
   |cons g G ih=>grind
  grind [aJ]
end
section
open Go.TM
theorem R9(k:Ky):∀m:SM,cu (bC m k)<=bN m k.2
 |[]=>by simp[bC,aU,bN,F7]
 |(q,v)::r=>by
  have ih:=R9 k r
  have h0:=(yY k.2 r).1
  have h1:=(Qb k.2 (q,v)).1
  simp[bN,List.map_cons,List.sum_cons]at*
  by_cases e:q=k
  ·subst e
   have:bC ((q,v)::r) q=v:=by grind [bC,aU]
   rw[this]
   have:AB q.2 (q,v)=cu v:=if_pos rfl
   omega
  ·have:bC ((q,v)::r) k=bC r k:=by simp_all [bC,aU,if_neg]
   grind
end
section
open Go.TM
theorem Hp(p q:bp->Bool):∀l:List bp,((l.filter fun f=>p f&&q f).flatMap (·.ps)).Sublist ((l.filter p).flatMap (·.ps))
 |[]=>.slnil
 |f::l=>by
  have ih:=Hp p q l
  grind
theorem JQ(p:bp->Bool)(g:bp->Int):∀l:List bp,(l.map fun f=>if p f=true then g f else 0).sum=((l.filter p).map g).sum
 |[]=>rfl
 |f::l=>by
  rw[List.map_cons,List.sum_cons,JQ p g l,List.filter_cons]
  grind
theorem Hq:∀l:List bp,aJ (l.flatMap (·.ps))=(l.map fun f=>aJ f.ps).sum
 |[]=>rfl
 |f::l=>by rw[List.flatMap_cons,eH,Hq l];simp
theorem Hr(a b:bp->Int):∀l:List bp,(l.map fun f=>60+a f-b f).sum=60*l.length+(l.map a).sum-(l.map b).sum
 |[]=>rfl
 |f::l=>by simp[List.map_cons,List.sum_cons,Hr a b l,List.length_cons];omega
theorem LJ{R:RL}(hD:Dx R){f g:bp}(hf:f∈R.fl)(hg:g∈R.fl)(h:f.id=g.id):f=g:=by
 obtain⟨i,hi⟩:=aea hf
 obtain⟨j,hj⟩:=aea hg
 have e1:=hD.ids i f hi
 have e2:=hD.ids j g hj
 grind
theorem Y2{R:RL}(hD:Dx R)(hC:Cons R)(hH:Gg R)(it:Int):bN R.st it<=60*R.fl.length:=by
 have s1:(R.fl.map (flC it)).sum<=(R.fl.map fun f=>60+(if(f.kind==9&&f.fr==0&&f.it==it)=true then f.n else 0)-(if(f.to==0&&f.it==it)=true then f.n else 0)).sum:=JP fun f hf=>by
  have h2:=hH.sm f hf
  unfold flC
  grind
 rw[Hr,JQ (fun f=>f.kind==9&&f.fr==0&&f.it==it),JQ (fun f=>f.to==0&&f.it==it)]at s1
 rw[hC.sum it]
 have s2:((R.fl.filter fun f=>f.kind==9&&f.fr==0&&f.it==it).map bp.n).sum=aJ ((R.fl.filter fun f=>f.kind==9&&f.fr==0&&f.it==it).flatMap (·.ps)):=by
  rw[Hq]
  refine congrArg List.sum (List.map_congr_left fun f hf=>?_)
  simp[List.mem_filter,aep,beq_iff_eq]at hf
  rcases hH.sum f hf.1 (by omega)with h|h
  ·omega
  grind
 have sb:=Hp (fun f=>f.kind==9&&f.fr==0) (fun f=>f.it==it) R.fl
 have hx:∀x∈(R.fl.filter fun f=>f.kind==9&&f.fr==0&&f.it==it).flatMap _,aB x=true/\∃g∈R.fl,g.id=x.f/\x.a+x.n<=g.n/\g.it=it/\g.to=0:=fun x hx=>by
  obtain⟨g,hg,g1,g2⟩:=hH.rz x (sb.subset hx)
  obtain⟨f,hf,ZR⟩:=List.mem_flatMap.1 hx
  simp[List.mem_filter,aep,beq_iff_eq]at hf
  obtain⟨p1,⟨q,hq,q1,q2,q3⟩,_⟩:=hH.prt f hf.1 (by omega) x ZR
  obtain rfl:=LJ hD hg hq (g1.trans q1.symm)
  grind
 have s3:=R8 (G:=R.fl.filter fun f=>f.to==0&&f.it==it) fun x Eu=>by
  obtain⟨h1,g,hg,g1,_,g3,g4⟩:=hx x Eu
  exact⟨(gQ h1).1,g,List.mem_filter.2 ⟨hg,by grind⟩,g1⟩
 have s4:=JP (g:=fun g=>aJ (((R.fl.filter fun f=>f.kind==9&&f.fr==0&&f.it==it).flatMap _).filter fun x=>x.f==g.id)) (k:=bp.n) (l:=R.fl.filter fun f=>f.to==0&&f.it==it) fun g hg=>by
  have hg:=(List.mem_filter.1 hg).1
  refine abY (f:=g.id) (by have:=(hD.fn g hg).1;omega) (List.Pairwise.sublist (List.filter_sublist.trans sb) hH.rd) fun x Eu=>?_
  obtain⟨Wm,S5⟩:=List.mem_filter.1 Eu
  obtain⟨h1,q,hq,q1,q2,_⟩:=hx x Wm
  obtain rfl:=LJ hD hq hg (q1.trans (beq_iff_eq.1 S5))
  grind
 omega
theorem Y3{R:RL}(hG:Good R)(hD:Dx R)(hC:Cons R)(hH:Gg R)(k:Ky):∀x∈bC R.st k,x.n<=60*R.fl.length:=fun x hx=>by
 have h1:=Y2 hD hC hH k.2
 have h2:=R9 k R.st
 obtain⟨p1,p2⟩:=hG.oK k
 have km:=hG.fl
 rw[pU (fj p1 (by omega))]at h2
 have h3:∀l:List Lt,(∀y∈l,aB y=true)->x∈l->x.n<=aJ l:=fun l=>by
  induction l with
  |nil=>grind
  |cons y l ih=>
   intro hp h
   have e:aJ (y::l)=y.n+aJ l:=by rfl
   have hy:=gQ (hp y ad0)
   have h0:0<=aJ l:=D6 fun z hz=>(gQ (hp z (adW _ hz))).1
   grind
 grind
end
section
open Go.TM
theorem Y4{i:Nat}{r:S1}(h:dA[i]?=some r):∀p∈r.gv++r.bk,0<=p.2/\p.2<=30:=by
 have:∀r∈dA,∀p∈r.gv++r.bk,0<=p.2/\p.2<=30:=by
  intro r hr
  simp only[dA,adV,List.mem_nil_iff,or_false]at hr
  rcases hr with rfl|rfl|rfl|rfl|rfl<;>decide
 exact this r (adR h)
theorem Vo(R:RL)(n:List Int)(p:Int):∀m∈(rn R n p).mv,m.fr=0->m.n<=60:=by
 have b1:=fR n (p+1) 4 (by omega)
 have b2:=fR n (p+2) 4 (by omega)
 have b4:=fR n (p+4) 12 (by omega)
 have b5:=fR n (p+5) 9 (by omega)
 have b6:=fR n (p+5) 2 (by omega)
 have ha:1<=Yz n p:=by unfold Yz;omega
 have hb:1<=ZU n p:=by unfold ZU;split<;>omega
 unfold rn
 generalize Yz n p=a at*
 generalize ZU n p=b at*
 simp only
 intro m hm h0
 split at hm
 ·simp only[adV,List.mem_nil_iff,or_false]at hm
  rcases hm with rfl|rfl<;>simp only<;>omega
 split at hm
 ·rcases adV.1 hm with rfl|hm
  ·simp only at h0;omega
  ·split at hm
   ·rw[adU]at hm;subst hm;simp only at h0;omega
   ·cases hm
 split at hm
 ·rw[oX,adU]at hm;subst hm;simp only at h0;omega
 split at hm
 ·rw[oX,adU]at hm;subst hm;simp only at h0;omega
 split at hm
 ·split at hm
  ·rename_i r hr
   have hs:=Y4 hr
   rcases adX.1 hm with hm|hm
   ·obtain⟨q,_,rfl⟩:=aeg.1 hm
    simp only at h0;omega
   ·obtain⟨q,hq,rfl⟩:=aeg.1 hm
    have yw:q∈r.gv++r.bk:=by
     rw[adX]
     cases hc:(bif (1+pick n (p+3) 4==1)then pick n (p+4) 3==0 else false)with
     |true=>rw[hc]at hq;exact .inr hq
     |false=>rw[hc]at hq;exact .inl hq
    have:=hs q yw
    show q.2*(1+pick n (p+5) 2)<=60
    have:pick n (p+5) 2=0\/pick n (p+5) 2=1:=by omega
    rcases this with e|e<;>rw[e]<;>omega
  ·rw[oX,adU]at hm;subst hm;simp only;omega
 split at hm
 ·rw[oX,adU]at hm;subst hm;simp only at h0;omega
 ·rw[oX,adU]at hm;subst hm;simp only;omega
theorem Y5(R:RL)(n k:List Int)(i:Nat):(zI R n k i).kind≠9->(zI R n k i).kind≠7->∀m∈(zI R n k i).mv,m.fr=0->m.n<=60:=by
 intro h9 h7
 unfold zI at h9 h7⊢
 split at h9
 ·unfold p5 at h9 h7
  split at h9
  ·exact absurd rfl h9
  ·rename_i h1 h2
   rw[if_pos h1,if_neg h2]at h7
   exact absurd rfl h7
 ·rename_i h1
  rw[if_neg h1]
  exact Vo R n _
end
section
open Go.TM
theorem wo(f:bp):(lI f).id=f.id/\(lI f).it=f.it/\(lI f).n=f.n/\(lI f).md=f.md/\(lI f).fr=f.fr/\((lI f).ps=[]/\f.kind=5\/(lI f).ps=f.ps/\f.kind≠5):=by
 unfold lI
 split
 ·exact⟨rfl,rfl,rfl,rfl,rfl,.inl ⟨rfl,‹_›⟩⟩
 ·exact⟨rfl,rfl,rfl,rfl,rfl,.inr ⟨rfl,‹_›⟩⟩
theorem Sa{l:List bp}{j:Nat}{f:bp}(h:(l.map lI)[j]?=some f):∃g,l[j]?=some g/\f=lI g:=by
 rw[adQ,Option.map_eq_some_iff]at h
 obtain⟨g,h1,h2⟩:=h
 exact⟨g,h1,h2.symm⟩
theorem JR{l:List bp}{j:Nat}{f:bp}(h:l[j]?=some f):(l.map lI)[j]?=some (lI f):=by
 rw[adQ,h];rfl
theorem abZ{P:PL}{R:RL}(hI:Inv P R)(hC:Cons R)(hH:Gg R)(hl:R.fl.length<=64):GF P (P.fl.map lI):=by
 have hG:=hI.gT
 have hD:=hI.dx
 have oF:=hG.sh
 have b8:∀f∈R.fl,f.kind≠5->bz f.ps=true:=fun f hf h5=>fj (fun x hx=>(hH.prt f hf h5 x hx).1) (by have:=(hG.F8 f hf).1;omega)
 have LU:∀{i:Nat} {g:bp},g∈R.fl->g.id=R.sh*4294967296+i->R.fl[i]?=some g:=fun {i g} hg e=>by
  obtain⟨j,hj⟩:=aea hg
  have:=hD.ids j g hj
  obtain rfl:i=j:=by omega
  exact hj
 have hix:∀{g:bp},g∈R.fl->∃i:Nat,R.fl[i]?=some g/\g.id=R.sh*4294967296+i:=fun {g} hg=>by
  obtain⟨j,hj⟩:=aea hg
  exact⟨j,hj,hD.ids j g hj⟩
 refine⟨rfl,?_,fun k=>?_,fun a it x hx=>?_,fun f hf hp=>?_⟩
 ·rw[hI.fl]
  refine⟨by rw[adO];omega,?_,fun f hf=>?_,fun j f hj x hx=>?_,fun j f hj d hd=>?_⟩
  ·rw[List.map_map,show((fun f:bp=>f.id)∘lI)=fun f:bp=>f.id from funext fun f=>(wo f).1]
   rw[List.Nodup,List.pairwise_iff_getElem]
   intro i j hi hj wX
   rw[adO]at hi hj
   simp only[List.getElem_map]
   have e1:=hD.ids i _ (ace hi)
   have e2:=hD.ids j _ (ace hj)
   omega
  ·obtain⟨f,hm,rfl⟩:=aeg.1 hf
   clear hf
   have hf:=hm
   obtain⟨e1,e2,e3,e4,e5,e6⟩:=wo f
   obtain⟨q1,q2,q3,q4,q5,_⟩:=hG.F8 f hf
   obtain⟨n1,n2,n3⟩:=hD.fn f hf
   rcases e6 with⟨e6,h5⟩|⟨e6,h5⟩
   ·exact⟨⟨by omega,by omega,by omega,by rw[e6];rfl,by rw[e4];omega,.inl e6⟩,by rw[e6,e4];simp;omega⟩
   ·refine⟨⟨by omega,by omega,by omega,by rw[e6];exact b8 f hf h5,by rw[e4];omega,?_⟩,by rw[e6,e4];omega⟩
    rw[e6,e4,e3]
    rcases hH.sum f hf h5 with h|h
    ·exact .inl h.1
    ·exact .inr ⟨h.1,by rw[pU (b8 f hf h5)];exact h.2⟩
  ·obtain⟨f,hm,rfl⟩:=Sa hj
   clear hj
   have hj:=hm
   obtain⟨e1,e2,e3,e4,e5,e6⟩:=wo f
   rcases e6 with⟨e6,h5⟩|⟨e6,h5⟩
   ·rw[e6]at hx;cases hx
   ·rw[e6]at hx
    obtain⟨_,⟨g,hg,g1,g2,g3⟩,ay⟩:=hH.prt f (adR hj) h5 x hx
    obtain⟨i,hi,ei⟩:=hix hg
    have ej:=hD.ids j f hj
    obtain⟨u1,u2,u3,_⟩:=wo g
    exact⟨i,lI g,JR hi,by omega,by omega,by omega,by omega⟩
  ·obtain⟨f,hm,rfl⟩:=Sa hj
   clear hj
   have hj:=hm
   rw[(wo f).2.2.2.1]at hd
   obtain⟨ay,g,hg,g1⟩:=hH.md f (adR hj) d hd
   obtain⟨i,hi,ei⟩:=hix hg
   have ej:=hD.ids j f hj
   exact⟨i,lI g,JR hi,by omega,by rw[(wo g).1];exact g1⟩
 ·rw[hI.oK];have:=(hG.oK k).2;omega
 ·rw[hI.oK]at hx
  obtain⟨g,hg,g1,g2,g3⟩:=hH.Lr (a,it) x hx
  obtain⟨i,hi,_⟩:=hix hg
  obtain⟨u1,u2,u3,_⟩:=wo g
  have hb:=Y3 hG hD hC hH (a,it) x hx
  exact⟨⟨i,lI g,⟨by rw[hI.fl];exact JR hi,by omega,(hG.oK (a,it)).1 x hx,by omega⟩,u2.trans g3⟩,by omega⟩
 ·rw[hI.fl]at hf
  obtain⟨f,hm,rfl⟩:=aeg.1 hf
  clear hf
  have hf:=hm
  obtain⟨e1,e2,e3,e4,e5,e6⟩:=wo f
  rw[e5]
  rcases e6 with⟨e6,h5⟩|⟨e6,h5⟩
  ·exact hH.k5 f hf h5
  ·rcases hH.sum f hf h5 with h|h
   ·exact h.2.1
   ·have:=(hD.fn f hf).1
    rw[e6]at hp
    rw[hp]at h
    have:f.n=0:=h.2.symm.trans rfl
    omega
variable [bj]
theorem Hs(hLv:aR Tryz.prog 19 [] [B true])(n k:List Int):aR Tryz.prog 5 [Ints n,Ints k] [B true]:=by
 obtain⟨P,R,hF,hs⟩:=G9 (J:=fun R=>Cons R/\Gg R) (A:=fun s=>s.kind≠9->s.kind≠7->∀m∈s.mv,m.fr=0->m.n<=60) ⟨⟨fun _=>rfl,nofun⟩,gg0⟩ (fun P R s h lO hs ha h0 hC=>by
  have hl:R.fl.length+s.mv.length<=160:=by have:=hs.len;have:=h.ZT;omega
  exact⟨Nt h.gT h.dx hC.1 hl hs h0,Vn h.gT h.dx hl hs ha h0 hC.2⟩) n k fun R i=>Y5 R n k i
 exact RV hF.inv (abZ hF.inv hF.j.1 hF.j.2 (by have:=hF.inv.ZT;have:=hF.sp;omega)) hLv n k hs
end
section
open Go.TM
def ab0(sh:Int):ad:=[(1,.tree 0 0 (.omap eE [])),(2,.tree 0 0 (.omap bX [])),(3,.tree 0 0 (.omap bX [])),(4,.tree 0 0 (.omap bX [])),(5,.cells (.dv (I sh)::eP iG++[.own 1 0 0 [],.own 2 0 0 [],.own 6 0 0 [],.own 7 0 0 [],.own 3 0 0 [],.own 4 0 0 []])),(6,.tree 0 0 (.aD 7 [])),(7,.tree 0 0 (.aD 11 []))]
def sp1:cG:=⟨0,0,0,0,-1,0,[⟨0,1,1,5,[]⟩]⟩
def sp2:cG:=⟨0,2,0,0,-1,0,[⟨1,2,1,3,[]⟩]⟩
def R0:RL:=⟨0,[],[],[]⟩
def R1:RL:=Lw R0 sp1
def R2:RL:=Lw R1 sp2
theorem Sb(R:RL)(k fr to n:Int)(h5:ng k=false)(hb:di ⟨fr,to,1,n,[]⟩=true):fA R ⟨0,k,0,0,-1,0,[⟨fr,to,1,n,[]⟩]⟩:=
 ⟨by unfold vP;simp,by simp,fun m hm=>by rw[adU]at hm;subst hm;simp,fun _=>WA fun m hm=>by
  rw[adU]at hm;subst hm
  have hn:¬(k=5\/k=7\/k=9):=ad6 h5
  exact⟨hb,.inr ⟨fun e=>hn (.inl e),fun e=>hn (.inr (.inr e)),rfl⟩⟩⟩
variable [bj]
theorem JS(sh:Int)(h:0<=sh/\sh<=11):aj Tryz.prog 21 [.dv (I sh),cx FG] 0 [] 8 [.ptr 5 0,.dv (I 0)] (ab0 sh):=by
 refine cO Tryz.func21 rfl (by kernel_rfl) ?_
 repeat refine gG ?_
 refine adN (fun hc=>?_) fun _=>?_
 ·simp[bw]at hc;omega
 refine .inl ⟨_,fun _=>yK.ok,?_⟩
 refine adN (fun h=>by cases h) fun _=>?_
 refine .inl ⟨_,fun _=>Bv.ok,?_⟩
 refine⟨eE,bX,bX,bX,?_⟩
 refine⟨_,_,⟨rfl,rfl⟩,by kernel_rfl,⟨rfl,rf,tv⟩,?_⟩
 repeat' first|exact trivial|rfl|exact rf|exact za|exact⟨rfl,rfl,rfl,rfl,_,rfl⟩|exact⟨rfl,rfl,_,rfl⟩|refine adN ?_ ?_
theorem JT:aR Tryz.prog 19 [] [B true]:=by
 have o1:oW R0 sp1=0:=by kernel_rfl
 have o2:oW R1 sp2=0:=by kernel_rfl
 have o3:oW R2 sp2=10:=by kernel_rfl
 have F4:Inv ⟨0,[],[],[],[],[],[]⟩ R0:=abS (by omega)
 rcases qK (s:=sp1) xq F4 (by simp[R0]) (Sb R0 0 0 1 5 rfl rfl)with⟨h,_⟩|⟨_,P1,N7,h1,_⟩
 ·exact absurd o1 h
 have N7:Inv P1 R1:=N7
 rcases qK (s:=sp2) xq N7 (by simp[R0,R1,Lw]) (Sb _ 2 1 2 3 rfl rfl)with⟨h,_⟩|⟨_,P2,uf,h2,_⟩
 ·exact absurd o2 h
 have uf:Inv P2 R2:=uf
 rcases qK (s:=sp2) xq uf (by simp[R0,R1,R2,Lw]) (Sb _ 2 1 2 3 rfl rfl)with⟨_,h3,_⟩|⟨h,_⟩
 rotate_left
 ·exact absurd (o3.symm.trans h) (by decide)
 rw[o3]at h3
 rw[show R1.sh*4294967296+(R1.sp.length:Int)=1 by kernel_rfl]at h2
 have q1:=pW P2 1 1 (by rw[uf.oK];exact Nat.le_trans (uf.gT.oK _).2 (by have:=uf.gT.fl;omega))
 have q2:=pW P2 2 1 (by rw[uf.oK];exact Nat.le_trans (uf.gT.oK _).2 (by have:=uf.gT.fl;omega))
 have q3:=Gn P2 1
 rw[uf.oK,show bC R2.st (1,1)=[⟨0,3,2⟩]by kernel_rfl]at q1
 rw[uf.oK,show bC R2.st (2,1)=[⟨1,0,3⟩]by kernel_rfl]at q2
 rw[uf.bZ,show bN R2.st 1=5 by kernel_rfl]at q3
 clear F4 N7 uf o1 o2 o3
 refine pO Tryz.func19 rfl (by kernel_rfl) rfl ?_
 refine .inl ⟨_,fun _=>yJ.ok,?_⟩
 refine .inr (cl [] (JS 0 (by omega)) (by kernel_rfl) rfl rfl ?_)
 repeat refine gG ?_
 refine adN (fun h=>by cases h) fun _=>?_
 refine .inl ⟨[aq ⟨0,1,1,5,[]⟩],rfl,⟨rf,rf,rf,rf,DV.aL 3,tv⟩,(by simp;rfl),?_⟩
 refine .inr (cl [5,1,2,6,7,3,4] h1 (by kernel_rfl) rfl rfl ?_)
 refine .inl ⟨[aq ⟨1,2,1,3,[]⟩],rfl,⟨rf,rf,rf,rf,DV.aL 3,tv⟩,(by simp;rfl),?_⟩
 refine .inr (cl [5,1,2,6,7,3,4] h2 (by kernel_rfl) rfl rfl ?_)
 refine .inl ⟨[aq ⟨1,2,1,3,[]⟩],rfl,⟨rf,rf,rf,rf,DV.aL 3,tv⟩,(by simp;rfl),?_⟩
 refine .inr (cl [5,1,2,6,7,3,4] h3 (by kernel_rfl) rfl rfl ?_)
 repeat refine gG ?_
 refine .inr (cl [5,1,2,6,7,3,4] q1 (by kernel_rfl) rfl rfl ?_)
 refine⟨by kernel_rfl,?_⟩
 repeat refine gG ?_
 conv=>whnf
 refine Or.inl ?_
 refine adN id ?_
 refine Or.inl ?_
 refine⟨[ax ⟨0,3,2⟩],rfl,⟨rf,rf,rf,tv⟩,(by simp;rfl),?_⟩
 refine⟨by kernel_rfl,?_⟩
 repeat refine gG ?_
 conv=>whnf
 refine Or.inl ?_
 refine⟨_,fun _=>(BN [⟨0,3,2⟩] (by simp)).ok,?_⟩
 repeat refine gG ?_
 conv=>whnf
 refine .inr (cl [5,1,2,6,7,3,4] q2 (by kernel_rfl) rfl rfl ?_)
 refine⟨by kernel_rfl,?_⟩
 repeat refine gG ?_
 conv=>whnf
 refine Or.inl ?_
 refine adN id ?_
 refine Or.inl ?_
 refine⟨[ax ⟨1,0,3⟩],rfl,⟨rf,rf,rf,tv⟩,(by simp;rfl),?_⟩
 refine⟨by kernel_rfl,?_⟩
 repeat refine gG ?_
 conv=>whnf
 refine Or.inl ?_
 refine⟨_,fun _=>(BN [⟨1,0,3⟩] (by simp)).ok,?_⟩
 repeat refine gG ?_
 conv=>whnf
 refine .inr (cl [5,1,2,6,7,3,4] q3 (by kernel_rfl) rfl rfl ?_)
 refine⟨by kernel_rfl,?_⟩
 repeat refine gG ?_
 exact⟨rf,tv⟩
end
section
open Go.TM Go.ChangeShapes Go.WideShapes Go.ChangeAt Go.RowKit
theorem own:ownKnob Tryz.prog.godebug=none:=by kernel_rfl
theorem laidOut:laidOutB Tryz.prog=true:=by kernel_rfl
theorem Y6{n:Int}(h:(Lit.int .i64 n).wf=true):vP n:=by simpa[vP,Lit.wf,IntKind.min,IntKind.max,IntKind.signed,IntKind.bits]using h
theorem LK{H:Type}{enc:TypeId×Value->H}{W:World}{v:Value}{d:DataW H}{p:List MemPlace}(hv:∃a len cap,v=.slice a len cap)(h:DataW.Trod enc Tryz.prog W 0 (fun _=>true) true 22 v d p):
 ∃zs:List Int,bu (fun b=>W.heap[b]?) (Ints zs) v/\∀x,x∈zs->vP x:=by
 obtain⟨fuel,h⟩:=h
 obtain⟨a0,l0,c0,rfl⟩:=hv
 rcases open_ints Tryz.underlying22 Tryz.underlying3 (by kernel_rfl) h with⟨h1,-⟩|⟨a,len,cap,zs,h1,h2,h3,h4,h5,h6,h7,h8⟩
 ·simp[Value.cells]at h1
  obtain⟨rfl,rfl,rfl⟩:=h1
  exact⟨[],.slnil 1,fun x hx=>by simp at hx⟩
 ·simp[Value.cells]at h1
  obtain⟨rfl,rfl,rfl⟩:=h1
  simp only[if_true]at h5
  have hlen:((zs.take l0).map I).length=l0:=by simp;omega
  refine⟨zs.take l0,?_,fun x hx=>Y6 (h8 x (List.mem_of_mem_take hx))⟩
  ·have hd:=bu.sl (M:=fun b=>W.heap[b]?) 1 ((zs.take l0).map I) a c0 (fun i _=>.int .i64 (zs.getD i 0)) (by rw[hlen];exact h3) (fun x hx=>by
    obtain⟨n,-,rfl⟩:=aeg.1 hx
    exact⟨rfl,fun d hd=>by simp only[DV.cells,adU]at hd;subst hd;rfl⟩) (fun i j hi hj=>by
    have hj0:j=0:=by omega
    subst hj0
    rw[hlen]at hi
    have:=h7 i (by omega)
    rw[Nat.mul_one,Nat.add_zero]
    exact this) (fun i x j d hx hd=>by
    have hi:i<l0:=by
     have:=(adP.1 hx).1
     rw[hlen]at this;exact this
    rw[adQ,List.getElem?_take_of_lt hi,ace (by omega)]at hx
    simp only[Option.map_some,Option.some.injEq]at hx
    subst hx
    match j,hd with
    |0,hd=>
     simp only[DV.cells,List.getElem?_cons_zero,Option.some.injEq]at hd
     subst hd
     have e:zs.getD i 0=zs[i]'(by omega):=by simp[List.getD,ace (show i<zs.length by omega)]
     rw[e]
     exact .int .i64 _
    |j+1,hd=>simp[DV.cells]at hd)
   rw[hlen]at hd
   exact hd
theorem Sc{W:World}(h:laidMetH Tryz.prog [("worldmint/lexer.kinds",Rows.laid_worldmint_lexer_kinds)] W):∃(ty:TypeId) (fr:Nat×Nat),W.heap[0]?=some (.cells Mt ty fr):=by
 have ht:Lib.TabIs Tryz.prog W "worldmint/lexer.kinds" .u8 (Bu.map fun n=>((n:Nat):Int)):=
  Lib.tabIs_of_head (rest:=[]) (g:=0) (t:=320) (e:=5) (n:=128) (by kernel_rfl) (by kernel_rfl) Tryz.underlying320 Tryz.underlying5 (by kernel_rfl) (by kernel_rfl) h
 have hg:Tryz.prog.globalNamed "worldmint/lexer.kinds"=some 0:=by kernel_rfl
 unfold Lib.TabIs World.var? at ht
 rw[hg]at ht
 simp only[Option.bind_some]at ht
 split at ht
 ·rename_i cs ty fr hh
  injection ht with ht
  refine⟨ty,fr,?_⟩
  rw[hh,ht]
  simp only[Mt,List.map_map]
  rfl
 ·cases ht
def Sd(w:World):World:={ w with heap:=w.heap.modify 0 fun
 |.cells _ t frozen=>.cells Mt t frozen
 |o=>o }
end
end Go.Proofs.YtfpebgpgabjieaaGreatDoor
