import Derived.Test.YtmojfblpbcficaaGreatDoorUM9
import Derived.Orders
set_option linter.all false
namespace Go.TM
section
open Go.RowKit
variable [cj]
def Ih:Op->Bool
 |.buildSlice _ _ _=>true
 |.call c=>match c.callee with
  |.builtin .append=>true
  |_=>false
 |_=>false
def xd(o:Oper):Oper:={ o with guard:=none }
def Ii(P:Program)(T:List TI)(ops:List Oper)(n:Nat)(o:Oper)(nx:Nat)(ρ:Nat->AV)(κ:Nat->aw)(k:l9->Nat->Prop):Prop:=
 match o.guard with
 |none=>qG P T ops n o nx ρ κ k
 |some _=>bif Ih o.op then qG P T ops n o nx ρ κ k\/(match cb ρ ops o.guard with
  |some g=>(g=false/\bj n o g nx k .any [])\/(g=true/\qG P T ops n (xd o) nx ρ κ k)
  |none=>False)
  else qG P T ops n o nx ρ κ k
def WD(P:Program)(T:List TI)(ops:List Oper)(n:Nat):List Oper->Nat->Env->ae->(Nat->Env->ae->Prop)->Prop
 |[],nx,env,K,k=>k nx env K
 |o::rest,nx,env,K,k=>Ii P T ops n o nx (look env) (aa K) fun cq fE=>A7 cq.dst env fun n4=>A8 cq.box K fun K'=>WD P T ops n rest fE n4 K' k
structure Rec where
 rows:List Nat
 cq:l9
def Kx:Op->Bool
 |.call c=>match c.callee with
  |.value (.tmp _)=>true
  |_=>false
 |_=>false
def iD:List (Nat×aw)->List Nat
 |[]=>[]
 |p::r=>p.1::iD r
def Kz(κ:Nat->aw)(rd:List Nat):List (Nat×aw)->(List (Nat×aw)->Prop)->Prop
 |[],k=>k []
 |(i,b)::r,k=>((iU i rd&& !iU i (iD r))=true/\κ i=b/\Kz κ rd r k)\/Kz κ rd r fun r=>k ((i,b)::r)
def OH(ops:List Oper)(o:Oper)(κ:Nat->aw)(cq:l9)(k:l9->Prop):Prop:=
 bif Kx o.op&&Nat.ble 16 ops.length then k cq\/Kz κ cq.reads cq.box fun bx=>k { cq with box:=bx }else k cq
def OI(P:Program)(T:List TI)(ops:List Oper)(n:Nat):List Oper->Nat->Env->ae->List Rec->(Nat->Env->ae->List Rec->Prop)->Prop
 |[],nx,env,K,acc,k=>k nx env K acc
 |o::rest,nx,env,K,acc,k=>Ii P T ops n o nx (look env) (aa K) fun cq fE=>OH ops o (aa K) cq fun cq=>A7 cq.dst env fun n4=>A8 cq.box K fun K'=>OI P T ops n rest fE n4 K' (acc++[⟨kj (look env) (aa K) o,cq⟩]) k
def uD:List Nat->List Nat->Bool
 |[],_=>true
 |x::r,l=>!iU x l&&uD r l
def sQ:List (Nat×AV)->List Nat
 |[]=>[]
 |p::r=>p.1::sQ r
def mO(ops:List Oper)(x y:Rec)(oy:Oper):Bool:=
 uD (sQ x.cq.dst) (oy.looksAt ops.toArray)&&uD (sQ x.cq.dst) (sQ y.cq.dst)&&
 uD (iD x.cq.box) y.rows&&uD (iD x.cq.box) y.cq.reads&&uD (iD x.cq.box) (iD y.cq.box)
def wS(o:Oper):List Nat:=o.after.toList.filterMap fun e=>bif Region.binds .any e then some e.on else none
def uE(ops:List Oper):Nat->Nat->Nat->Bool
 |0,_,_=>false
 |f+1,i,j=>match ops[j]? with
  |some o=>(wS o).any fun d=>Nat.beq d i||uE ops f i d
  |none=>false
def CG:Nat->List Oper->Bool
 |_,[]=>true
 |i,o::r=>(wS o).all (fun d=>Nat.blt d i)&&CG (i+1) r
def sR(ops:List Oper)(rs:List Rec)(j:Nat)(y:Rec)(oy:Oper):Nat->List Rec->List Oper->Bool
 |i,x::xr,ox::or=>(bif Nat.blt i j then uE ops ops.length i j||(mO ops x y oy&&mO ops y x ox)else true)&&sR ops rs j y oy (i+1) xr or
 |_,_,_=>true
def qH(ops:List Oper)(rs:List Rec):Nat->List Rec->List Oper->Bool
 |j,y::yr,oy::or=>sR ops rs j y oy 0 rs ops&&qH ops rs (j+1) yr or
 |_,_,_=>true
def uF(ops:List Oper)(rs:List Rec):Bool:=CG 0 ops&&qH ops rs 0 rs ops
def A9(g:dV)(n nx:Nat)(env:Env)(K:ae)(a:Act)(w:World):Prop:=St g n (look env) (aa K) a w/\g.m<=nx/\∀i,nx<=i->aa K i=.none
theorem xU{F:Fence}{m:Nat}{P:Program}{o:Oper}{a:Act}{w:World}{K K':Act->World->Prop}{Q:Exit->Act->World->Prop}(h:∀a w,K a w->K' a w)(hh:o.wpIn F m P a w K (fun _ _ _=>False)):o.wpIn F m P a w K' Q:=by
 refine⟨hh.1,?_⟩
 have hh:=hh.2
 generalize (o.semAt F.round a.eval).run P w=r at*
 cases r with
 |ok x w'=>
  cases x<;>simp[Oper.uponIn]at hh⊢<;>
   first
    |grind
    |exact⟨hh.1,CallsIn.mono hh.2 (fun e w'' he=>by cases e<;>first|grind|grind|(obtain⟨_,_,hf⟩:=he;grind))⟩
    |exact⟨hh.1,RowsIn.mono hh.2 (fun _ _ he=>h _ _ he)⟩
    |exact⟨hh.1,RoundIn.mono hh.2 (fun e w'' he=>by cases e<;>first|grind|grind|(obtain⟨_,_,hf⟩:=he;grind))⟩
    |exact hh.elim
 |halt x w'=>cases x<;>simp[Oper.uponIn]at hh⊢<;>exact hh.elim
def dR(P:Program)(C:dV->Prop):Prop:=∀(ops:List Oper) (n:Nat) (o:Oper) (nx:Nat) (ρ:Nat->AV) (κ:Nat->aw) (k:l9->Nat->Prop),(∀i,nx<=i->κ i=.none)->Kv P C ops n o nx ρ κ k
section
variable {P:Program} {C:dV->Prop} {T:List TI} {ops:List Oper} {n:Nat} {g:dV}
theorem CH{o:Oper}{nx:Nat}{ρ:Nat->AV}{κ:Nat->aw}{k:l9->Nat->Prop}(hg:cb ρ ops o.guard=some true)(h:Good P C ops n (xd o) nx ρ κ k):Good P C ops n o nx ρ κ k:=by
 obtain⟨cq,fE,h1,h2,h3,h4⟩:=h
 refine⟨cq,fE,h1,h2,h3,fun F hF ρ' κ' ay g a w dK ak=>?_⟩
 have hs:∀t,t∈(xd o).looksAt ops.toArray->ρ' t=ρ t:=fun t ht=>ay.bX t (by
  unfold Oper.looksAt xd at ht
  simp only[List.append_nil]at ht
  exact List.mem_append_left _ ht)
 have hr:=h4 F hF ρ' κ' ⟨hs,ay.rows,ay.reads,ay.boxes⟩ g a w dK ak
 obtain⟨G,jw⟩:=ak
 unfold nV at hr⊢
 rw[if_pos (cE hg ay.bX jw)]
 assumption
theorem rO(hT:fD P T){o:Oper}{nx:Nat}{ρ:Nat->AV}{κ:Nat->aw}{k:l9->Nat->Prop}(hn:∀i,nx<=i->κ i=.none)(hR:dR P C)(h:Ii P T ops n o nx ρ κ k):Good P C ops n o nx ρ κ k:=by
 have EB:qG P T ops n o nx ρ κ k->Good P C ops n o nx ρ κ k:=uC hT hn (hR _ _ _ _ _ _ _ hn)
 unfold Ii at h
 split at h
 ·grind
 ·cases hh:Ih o.op with
  |false=>grind
  |true=>
   rw[hh]at h
   rcases h with h|h
   ·grind
   ·split at h
    ·rename_i g hg
     rcases h with⟨hf,h⟩|⟨hf,h⟩
     ·grind [bE,Ih]
     ·subst hf
      exact CH hg (uC hT hn (hR _ _ _ _ _ _ _ hn) h)
    grind
theorem lz{nx fE:Nat}{K:ae}{bx:List (Nat×aw)}(hn:∀i,nx<=i->aa K i=.none)(hle:nx<=fE)(hb:∀p,p∈bx->p.1<fE):∀i,fE<=i->aa (xV bx K) i=.none:=by
 intro i hi
 rw[fX]
 have key:∀(l:List _),(∀p,p∈l->p.1<fE)->aF (aa K) l i=.none:=by
  intro l
  induction l with
  |nil=>intro _;exact hn i (by omega)
  |cons p r ih=>
   intro hl
   obtain⟨j,b⟩:=p
   have:=hl (j,b) (by simp)
   simp[aF]
   grind [ah]
 grind
theorem qI{o:Oper}{rest:List Oper}{a:Act}{w:World}{K:Act->World->Prop}{Q:Exit->Act->World->Prop}{F:Fence}(hF:iR F)(h:nV P F ops.toArray o a w K)(hk:∀a w,K a w->wpListIn F 0 P ops.toArray Q rest a w):wpListIn F 0 P ops.toArray Q (o::rest) a w:=by
 unfold nV at h
 simp[wpListIn]
 split at h
 ·rename_i hw;rw[if_pos hw];exact xU hk h
 ·rename_i hw;rw[if_neg hw];exact⟨fun f _=>hF.fn f,hk _ _ h⟩
theorem xW(hT:fD P T)(hR:dR P C)(Ij:C g){F:Fence}(hF:iR F){Q:Exit->Act->World->Prop}{k:Nat->Env->ae->Prop}(hQ:∀nx env K a w,k nx env K->A9 g n nx env K a w->Q .normal a w):
 ∀(rest:List Oper) (nx:Nat) (env:Env) (K:ae) (a:Act) (w:World),WD P T ops n rest nx env K k->A9 g n nx env K a w->wpListIn F 0 P ops.toArray Q rest a w
 |[],nx,env,K,a,w,h,hs=>hQ nx env K a w h hs
 |o::rest,nx,env,K,a,w,h,⟨hs,dK,hn⟩=>by
  obtain⟨cq,fE,hk,hle,hb,xX⟩:=rO hT hn hR h
  rw[xY,xZ]at hk
  refine qI hF (xX F hF _ _ ⟨fun _ _=>rfl,fun _ _=>rfl,fun _ _=>rfl,fun _ _ _=>rfl⟩ g a w ⟨dK,Ij⟩ hs) fun a' w' fY=>?_
  refine xW hT hR Ij hF hQ rest fE _ _ a' w' hk ⟨?_,Nat.le_trans dK hle,lz hn hle hb⟩
  rwa[kS,fX]
def acc{γ:Type _}(f:Nat->γ)(wr:Nat->List (Nat×γ))(E:Nat->Bool):Nat->Nat->γ
 |0=>f
 |m+1=>if E m then aF (acc f wr E m) (wr m)else acc f wr E m
def keys{γ:Type _}(l:List (Nat×γ)):List Nat:=l.map (·.1)
theorem jx{γ:Type _}(f:Nat->γ):∀{l:List (Nat×γ)} {t:Nat},t∉keys l->aF f l t=f t
 |[],t,_=>rfl
 |(i,x)::r,t,h=>by
  simp only[keys,List.map_cons,adp,not_or]at h
  simp[aF]
  rw[ah _ _ h.1]
  exact jx f h.2
theorem CI{γ:Type _}(f f':Nat->γ):∀{l:List (Nat×γ)} {t:Nat},t∈keys l->aF f l t=aF f' l t
 |[],t,h=>by simp[keys]at h
 |(i,x)::r,t,h=>by
  simp[aF]
  by_cases e:t=i
  ·subst e;simp
  ·rw[ah _ _ e,ah _ _ e]
   simp only[keys,List.map_cons,adp,e,false_or]at h
   exact CI f f' h
section
variable {γ:Type _} {f:Nat->γ} {wr:Nat->List (Nat×γ)} {E:Nat->Bool}
theorem xe{t:Nat}:∀{j:Nat},(∀i,i<j->E i=false->t∉keys (wr i))->acc f wr E j t=acc f wr (fun _=>true) j t
 |0,_=>rfl
 |j+1,h=>by
  have ih:=xe (j:=j) fun i hi=>h i (by omega)
  simp[acc,if_true]
  cases he:E j with
  |true=>
   simp[if_true]
   grind [keys,CI,jx]
  |false=>
   simp_all [jx]
theorem E3{t j:Nat}:∀{m:Nat},(∀i,j<=i->i<j+m->E i=true->t∉keys (wr i))->acc f wr E (j+m) t=acc f wr E j t
 |0,_=>rfl
 |m+1,h=>by
  have ih:=E3 (m:=m) fun i h1 h2=>h i h1 (by omega)
  simp[acc]
  cases he:E _ with
  |true=>simp_all [jx]
  |false=>grind
theorem E4{t j len:Nat}(hj:j<=len)(h1:∀i,i<j->E i=false->t∉keys (wr i))(h2:∀i,j<=i->i<len->E i=true->t∉keys (wr i)):acc f wr E len t=acc f wr (fun _=>true) j t:=by
 obtain⟨m,rfl⟩:∃m,len=j+m:=⟨len-j,by omega⟩
 rw[E3 h2,xe h1]
def rP(E:Nat->Bool)(j:Nat):Nat->Bool:=fun i=>if i=j then true else E i
theorem CJ{j:Nat}(hj:E j=false):∀{len:Nat},j<len->(∀i,j<i->i<len->E i=true->∀t,t∈keys (wr j)->t∉keys (wr i))->acc f wr (rP E j) len=aF (acc f wr E len) (wr j)
 |0,h,_=>by omega
 |len+1,h,hd=>by
  rcases adC j len with au|gV
  ·have ih:=CJ hj au fun i h1 h2=>hd i h1 (by omega)
   have cF:len≠j:=by omega
   simp[acc,rP,if_neg cF]
   cases he:E len with
   |false=>grind
   |true=>
    simp[if_true]
    rw[ih]
    grind [keys,jx,CI,aF,acc]
  ·have:j=len:=by omega
   subst this
   have low:∀m,m<=j->acc f wr (rP E j) m=acc f wr E m:=by
    intro m
    induction m with
    |zero=>intro _;rfl
    |succ m ih=>
     intro hm
     simp[acc,rP,if_neg _]
     grind
   simp_all [acc,rP,adM]
end
theorem S3.lo{lo Zf:Nat}{o:Oper}{ρ:Nat->AV}{κ:Nat->aw}{cq:l9}(h:S3 P C ops n Zf o ρ κ cq)(hl:lo<=Zf):S3 P C ops n lo o ρ κ cq:=
 fun F hF ρ' κ' ay g a w hg hs=>h F hF ρ' κ' ay g a w ⟨Nat.le_trans hg.1 hl,hg.2⟩ hs
theorem sS{γ:Type _}(f:Nat->γ)(wr wr':Nat->List (Nat×γ))(m:Nat):(∀i,i<m->wr' i=wr i)->acc f wr' (fun _=>true) m=acc f wr (fun _=>true) m:=by
 induction m with
 |zero=>intro _;rfl
 |succ m ih=>intro hh;simp[acc,if_true];grind
theorem rQ{κ:Nat->aw}{rd:List Nat}:∀{bx:List (Nat×aw)} {k:List (Nat×aw)->Prop},Kz κ rd bx k->∃S4,k S4/\(∀p,p∈S4->p∈bx)/\(∀p,p∈bx->p∈S4\/p.1∈rd)/\∀κ':Nat->aw,(∀i,i∈rd->κ' i=κ i)->aF κ' S4=aF κ' bx
 |[],k,h=>⟨[],h,fun _ h=>h,fun _ h=>.inl h,fun _ _=>rfl⟩
 |(i,b)::r,k,h=>by
  rcases h with⟨h1,h2,h⟩|h
  ·obtain⟨S4,hk,ha,hb,hc⟩:=rQ h
   simp[adT,adV]at h1
   refine⟨S4,hk,fun p hp=>adq _ (ha p hp),fun p hp=>?_,fun κ' hκ=>?_⟩
   ·rcases adp.1 hp with rfl|hp
    ·grind [nb]
    grind
   ·rw[hc κ' hκ]
    funext j
    by_cases e:j=i
    ·subst e
     have hkb:∀(l:List _),iD l=keys l:=fun l=>by
      induction l with
      |nil=>rfl
      |cons p r ih=>simp[iD,keys,ih]
     simp_all [jx,fy,aF,nb]
    simp_all [aF,ah]
  ·obtain⟨S4,hk,ha,hb,hc⟩:=rQ h
   refine⟨(i,b)::S4,hk,fun p hp=>?_,fun p hp=>?_,fun κ' hκ=>?_⟩
   ·grind
   ·grind
   grind [aF]
theorem Ik{o:Oper}{nx:Nat}{ρ:Nat->AV}{κ:Nat->aw}{k:l9->Nat->Prop}(h:Good P C ops n o nx ρ κ fun cq fE=>OH ops o κ cq fun cq=>k cq fE):Good P C ops n o nx ρ κ k:=by
 obtain⟨cq,fE,h1,h2,h3,h4⟩:=h
 unfold OH at h1
 cases hd:Kx o.op&&Nat.ble 16 ops.length with
 |false=>rw[hd]at h1;exact⟨cq,fE,h1,h2,h3,h4⟩
 |true=>
  rw[hd]at h1
  rcases h1 with h1|h1
  ·exact⟨cq,fE,h1,h2,h3,h4⟩
  ·obtain⟨S4,hk,ha,hb,hc⟩:=rQ h1
   refine⟨_,fE,hk,h2,fun p hp=>h3 p (ha p hp),fun F hF ρ' κ' ay g a w dK ak=>?_⟩
   have hr:=h4 F hF ρ' κ' ⟨ay.bX,ay.rows,ay.reads,fun i b hib=>?_⟩ g a w dK ak
   ·simp
    rwa[hc κ' ay.reads]
   ·rcases hb _ hib with h|h
    ·exact ay.boxes i b h
    ·exact ay.reads i h
theorem vS(hT:fD P T)(hR:dR P C){k:Nat->Env->ae->List Rec->Prop}{ρ0:Nat->AV}{κ0:Nat->aw}{lo:Nat}:
 ∀(rest done:List Oper) (nx:Nat) (env:Env) (K:ae) (rs:List Rec),ops=done++rest->rs.length=done.length->lo<=nx->
  (∀i,nx<=i->aa K i=.none)->
  look env=acc ρ0 (fun i=>(rs[i]?.map (·.cq.dst)).getD []) (fun _=>true) done.length->aa K=acc κ0 (fun i=>(rs[i]?.map (·.cq.box)).getD []) (fun _=>true) done.length->
  (∀i r o,rs[i]?=some r->ops[i]?=some o->r.rows=kj (acc ρ0 (fun i=>(rs[i]?.map (·.cq.dst)).getD []) (fun _=>true) i) (acc κ0 (fun i=>(rs[i]?.map (·.cq.box)).getD []) (fun _=>true) i) o/\S3 P C ops n lo o (acc ρ0 (fun i=>(rs[i]?.map (·.cq.dst)).getD []) (fun _=>true) i) (acc κ0 (fun i=>(rs[i]?.map (·.cq.box)).getD []) (fun _=>true) i) r.cq)->
  OI P T ops n rest nx env K rs k->
  ∃fE n4 K' vT,k fE n4 K' vT/\vT.length=ops.length/\lo<=fE/\(∀i,fE<=i->aa K' i=.none)/\
   look n4=acc ρ0 (fun i=>(vT[i]?.map (·.cq.dst)).getD []) (fun _=>true) ops.length/\aa K'=acc κ0 (fun i=>(vT[i]?.map (·.cq.box)).getD []) (fun _=>true) ops.length/\
   ∀i r o,vT[i]?=some r->ops[i]?=some o->r.rows=kj (acc ρ0 (fun i=>(vT[i]?.map (·.cq.dst)).getD []) (fun _=>true) i) (acc κ0 (fun i=>(vT[i]?.map (·.cq.box)).getD []) (fun _=>true) i) o/\S3 P C ops n lo o (acc ρ0 (fun i=>(vT[i]?.map (·.cq.dst)).getD []) (fun _=>true) i) (acc κ0 (fun i=>(vT[i]?.map (·.cq.box)).getD []) (fun _=>true) i) r.cq
 |[],done,nx,env,K,rs,E5,hlen,oT,hn,he,hk,bO,h=>by
  have:done.length=ops.length:=by grind
  exact⟨nx,env,K,rs,h,by omega,oT,hn,by grind,by grind,bO⟩
 |o::rest,done,nx,env,K,rs,E5,hlen,oT,hn,he,hk,bO,h=>by
  obtain⟨cq,fE,iL,hle,hb,xX⟩:=Ik (rO hT hn hR h)
  rw[xY,xZ]at iL
  have rR:∀i,i<rs.length->(rs++[⟨kj (look env) (aa K) o,cq⟩])[i]?=rs[i]?:=fun i hi=>List.getElem?_append_left hi
  have x3:(rs++[(⟨kj (look env) (aa K) o,cq⟩)])[done.length]?=some ⟨kj (look env) (aa K) o,cq⟩:=by grind
  have jR:∀m,m<=done.length->acc ρ0 (fun i=>((rs++[(⟨kj (look env) (aa K) o,cq⟩)])[i]?.map (·.cq.dst)).getD []) (fun _=>true) m=acc ρ0 (fun i=>(rs[i]?.map (·.cq.dst)).getD []) (fun _=>true) m:=
   fun m hm=>sS _ _ _ m fun i hi=>by grind
  have lZ:∀m,m<=done.length->acc κ0 (fun i=>((rs++[(⟨kj (look env) (aa K) o,cq⟩)])[i]?.map (·.cq.box)).getD []) (fun _=>true) m=acc κ0 (fun i=>(rs[i]?.map (·.cq.box)).getD []) (fun _=>true) m:=
   fun m hm=>sS _ _ _ m fun i hi=>by grind
  refine vS hT hR rest (done++[o]) fE _ _ _ (by rw[E5];simp) (by simp[hlen]) (Nat.le_trans oT hle) (lz hn hle hb) ?_ ?_ ?_ iL
  ·rw[kS,adv]
   simp[List.length_cons,List.length_nil,acc,if_true]
   rw[jR _ (adM _),x3,<-he];rfl
  ·rw[fX,adv]
   simp[List.length_cons,List.length_nil,acc,if_true]
   rw[lZ _ (adM _),x3,<-hk];rfl
  ·intro i r o' hr mj
   rcases adC i rs.length with au|gV
   ·rw[rR i au]at hr
    rw[jR i (by omega),lZ i (by omega)]
    exact bO i r o' hr mj
   ·have hi:i=done.length:=by
     have:=(W8.1 hr).1
     simp at this;omega
    subst hi
    rw[x3]at hr
    injection hr with hr
    subst hr
    rw[E5]at mj
    simp at mj
    subst mj
    rw[jR _ (adM _),lZ _ (adM _),<-he,<-hk]
    exact⟨rfl,xX.lo oT⟩
end
end
section
open Go.RowKit
variable [cj]
theorem jy:∀{l r:List Nat},uD l r=true->∀x,x∈l->x∉r
 |[],r,_,x,h=>by simp at h
 |y::l,r,h,x,hx=>by
  simp only[uD,adT,adV]at h
  rcases adp.1 hx with rfl|hx
  ·exact fy h.1
  ·exact jy h.2 x hx
theorem x4(l:List (Nat×AV)):sQ l=keys l:=by
 induction l with
 |nil=>rfl
 |cons p r ih=>simp[sQ,keys,ih]
theorem nc(l:List (Nat×aw)):iD l=keys l:=by
 induction l with
 |nil=>rfl
 |cons p r ih=>simp[iD,keys,ih]
def uG(E:Nat->Bool):Nat->Nat
 |0=>0
 |m+1=>(if E m then 0 else 1)+uG E m
theorem Ba(E:Nat->Bool)(j:Nat):rP E j j=true:=by simp[rP]
theorem n5(E:Nat->Bool){i j:Nat}(h:i≠j):rP E j i=E i:=by simp[rP,h]
theorem E6{E:Nat->Bool}{j:Nat}(hj:E j=false):∀{m:Nat},j<m->uG (rP E j) m+1=uG E m
 |0,h=>by omega
 |m+1,h=>by
  rcases adC j m with au|gV
  ·have ih:=E6 hj au
   have e:=n5 E (i:=m) (j:=j) (by omega)
   simp only[uG,e]
   omega
  ·have:j=m:=by omega
   subst this
   have low:∀q,q<=j->uG (rP E j) q=uG E q:=by
    intro q
    induction q with
    |zero=>intro _;rfl
    |succ q ih=>
     intro hq
     have e:=n5 E (i:=q) (j:=j) (by omega)
     simp only[uG,e,ih (by omega)]
   have:=low j (adM _)
   simp only[uG,Ba,hj,if_true,Bool.false_eq_true,if_false]
   omega
theorem Bb{E:Nat->Bool}:∀{m:Nat},uG E m=0->∀i,i<m->E i=true
 |0,_,i,hi=>by omega
 |m+1,h,i,hi=>by
  simp only[uG]at h
  rcases adC i m with au|gV
  ·exact Bb (by omega) i au
  ·have:i=m:=by omega
   subst this
   cases he:E i with
   |true=>rfl
   |false=>simp[he]at h
section
variable {ops:List Oper}
theorem rS:∀{l:List Oper} {s:Nat},CG s l=true->∀{i:Nat} {o:Oper},l[i]?=some o->∀d,d∈wS o->d<s+i
 |[],s,_,i,o,h,_,_=>by simp at h
 |x::l,s,he,i,o,h,d,hd=>by
  simp only[CG,adT,adH]at he
  cases i with
  |zero=>simp at h;subst h;have:=he.1 d hd;rw[Nat.blt_eq]at this;omega
  |succ i=>have:=rS he.2 (i:=i) (by simpa using h) d hd;omega
theorem n9{rs:List Rec}{j:Nat}{y:Rec}{oy:Oper}:∀{xr:List Rec} {xo:List Oper} {s:Nat},sR ops rs j y oy s xr xo=true->∀{i:Nat} {x:Rec} {ox:Oper},xr[i]?=some x->xo[i]?=some ox->s+i<j->
 uE ops ops.length (s+i) j=true\/(mO ops x y oy=true/\mO ops y x ox=true)
 |[],xo,s,_,i,x,ox,h,_,_=>by simp at h
 |_::_,[],s,_,i,x,ox,_,h,_=>by simp at h
 |a::xr,b::xo,s,hh,i,x,ox,h1,h2,au=>by
  simp only[sR,adT]at hh
  cases i with
  |zero=>
   simp at h1 h2
   subst h1;subst h2
   have:=hh.1
   rw[show Nat.blt s j=true by rw[Nat.blt_eq];omega]at this
   simpa using this
  |succ i=>
   have:=n9 hh.2 (i:=i) (by simpa using h1) (by simpa using h2) (by omega)
   rw[show s+(i+1)=s+1+i by omega];exact this
theorem lA{rs:List Rec}:∀{yr:List Rec} {yo:List Oper} {s:Nat},qH ops rs s yr yo=true->∀{j:Nat} {y:Rec} {oy:Oper},yr[j]?=some y->yo[j]?=some oy->
 sR ops rs (s+j) y oy 0 rs ops=true
 |[],yo,s,_,j,y,oy,h,_=>by simp at h
 |_::_,[],s,_,j,y,oy,_,h=>by simp at h
 |a::yr,b::yo,s,hh,j,y,oy,h1,h2=>by
  simp only[qH,adT]at hh
  cases j with
  |zero=>simp at h1 h2;subst h1;subst h2;exact hh.1
  |succ j=>
   have:=lA hh.2 (j:=j) (by simpa using h1) (by simpa using h2)
   rw[show s+(j+1)=s+1+j by omega];exact this
theorem E7{o:Oper}{d:Nat}:d∈wS o↔∃e,e∈o.after.toList/\Region.binds .any e=true/\e.on=d:=by
 unfold wS
 rw[List.mem_filterMap]
 constructor
 ·rintro⟨e,he,h⟩
  cases hb:Region.binds .any e with
  |false=>rw[hb]at h;cases h
  |true=>rw[hb]at h;simp at h;exact⟨e,he,hb,h⟩
 ·rintro⟨e,he,hb,rfl⟩
  exact⟨e,he,by rw[hb];rfl⟩
theorem rT{E:Nat->Bool}(vU:∀i o,ops[i]?=some o->E i=true->∀d,d∈wS o->E d=true):∀{f i j:Nat} {o:Oper},ops[j]?=some o->uE ops f i j=true->(∀d,d∈wS o->E d=true)->(∀d,d∈wS o->d<ops.length)->(∀(q:Nat) (o:Oper),ops[q]?=some o->∀d,d∈wS o->d<ops.length)->E i=true
 |0,i,j,o,_,h,_,_,_=>by simp[uE]at h
 |f+1,i,j,o,ho,h,hd,hl,bO=>by
  simp only[uE,ho,List.any_eq_true,Bool.or_eq_true]at h
  obtain⟨d,hdm,h⟩:=h
  rcases h with h|h
  ·have:=ab9 h;subst this;exact hd d hdm
  ·have au:=hl d hdm
   have hod:ops[d]?=some (ops[d]'au):=IF au
   exact rT vU hod h (vU d _ hod (hd d hdm)) (bO d _ hod) bO
theorem mem_ready{listed:Array Bool}{i:Nat}(bP:listed.size=ops.length):i∈Region.ready .any ops.toArray listed↔∃o,ops[i]?=some o/\listed.getD i false=false/\∀d,d∈wS o->listed.getD d false=true:=by
 unfold Region.ready
 rw[List.mem_filter,adL]
 constructor
 ·rintro⟨au,h⟩
  have lu:i<ops.length:=by simpa using au
  have ho:ops[i]?=some (ops[i]'lu):=IF lu
  refine⟨_,ho,?_,?_⟩
  ·simp only[adT,adV]at h
   have h1:=h.1
   simp only[adt]at h1⊢
   rw[adS (by omega)]at h1⊢
   simpa using h1
  ·intro d hd
   simp only[adT]at h
   have h2:=h.2
   rw[show ops.toArray[i]?=some (ops[i]'lu)by simp]at h2
   simp only[Option.map_some,Option.getD_some,Array.all_eq_true']at h2
   obtain⟨e,he,hb,rfl⟩:=E7.1 hd
   have:=h2 e (by simpa using he)
   simpa[hb]using this
 ·rintro⟨o,ho,h1,h2⟩
  have au:i<ops.length:=(W8.1 ho).1
  refine⟨by simpa using au,?_⟩
  simp only[adT,adV]
  constructor
  ·simp only[adt]at h1⊢
   rw[adS (by omega)]at h1⊢
   simpa using h1
  ·rw[show ops.toArray[i]?=some o by simpa using ho]
   simp only[Option.map_some,Option.getD_some,Array.all_eq_true']
   intro e he
   cases hb:Region.binds .any e with
   |false=>rfl
   |true=>
    have:=h2 e.on (E7.2 ⟨e,by simpa using he,hb,rfl⟩)
    simpa using this
end
def ac6(ρ0:Nat->AV)(rs:List Rec)(j:Nat):Nat->AV:=acc ρ0 (fun i=>(rs[i]?.map (·.cq.dst)).getD []) (fun _=>true) j
section
variable {P:Program} {C:dV->Prop} {ops:List Oper} {n:Nat} {g:dV}
theorem Bc(Ij:C g){F:Fence}(hF:iR F){lo:Nat}(dK:g.m<=lo){ρ0:Nat->AV}{κ0:Nat->aw}{rs:List Rec}{Q:Exit->Act->World->Prop}(CK:uF ops rs=true)(hlen:rs.length=ops.length)
 (bO:∀i r o,rs[i]?=some r->ops[i]?=some o->r.rows=kj (acc ρ0 (fun i=>(rs[i]?.map (·.cq.dst)).getD []) (fun _=>true) i) (acc κ0 (fun i=>(rs[i]?.map (·.cq.box)).getD []) (fun _=>true) i) o/\S3 P C ops n lo o (acc ρ0 (fun i=>(rs[i]?.map (·.cq.dst)).getD []) (fun _=>true) i) (acc κ0 (fun i=>(rs[i]?.map (·.cq.box)).getD []) (fun _=>true) i) r.cq)
 (hQ:∀a w,St g n (acc ρ0 (fun i=>(rs[i]?.map (·.cq.dst)).getD []) (fun _=>true) ops.length) (acc κ0 (fun i=>(rs[i]?.map (·.cq.box)).getD []) (fun _=>true) ops.length) a w->Q .normal a w):
 ∀(fuel:Nat) (listed:Array Bool) (a:Act) (w:World),listed.size=ops.length->uG (fun i=>listed.getD i false) ops.length<=fuel->
  (∀i o,ops[i]?=some o->listed.getD i false=true->∀d,d∈wS o->listed.getD d false=true)->
  St g n (acc ρ0 (fun i=>(rs[i]?.map (·.cq.dst)).getD []) (fun i=>listed.getD i false) ops.length) (acc κ0 (fun i=>(rs[i]?.map (·.cq.box)).getD []) (fun i=>listed.getD i false) ops.length) a w->
  wpAnyIn F 0 P .any ops.toArray Q fuel listed a w:=by
 simp only[uF,adT]at CK
 obtain⟨Vf,CK⟩:=CK
 have Zg:∀(q:Nat) (o:Oper),ops[q]?=some o->∀d,d∈wS o->d<ops.length:=fun q o ho d hd=>by
  have h1:=rS Vf ho d hd
  have h2:=(W8.1 ho).1
  omega
 have done:∀(listed:Array Bool) (a:Act) (w:World),(∀i,i<ops.length->listed.getD i false=true)->
  St g n (acc ρ0 (fun i=>(rs[i]?.map (·.cq.dst)).getD []) (fun i=>listed.getD i false) ops.length) (acc κ0 (fun i=>(rs[i]?.map (·.cq.box)).getD []) (fun i=>listed.getD i false) ops.length) a w->Q .normal a w:=by
  intro listed a w hl hs
  refine hQ a w ?_
  have e1:∀t,acc ρ0 (fun i=>(rs[i]?.map (·.cq.dst)).getD []) (fun i=>listed.getD i false) ops.length t=acc ρ0 (fun i=>(rs[i]?.map (·.cq.dst)).getD []) (fun _=>true) ops.length t:=
   fun t=>xe fun i hi he=>by rw[hl i hi]at he;cases he
  have e2:∀t,acc κ0 (fun i=>(rs[i]?.map (·.cq.box)).getD []) (fun i=>listed.getD i false) ops.length t=acc κ0 (fun i=>(rs[i]?.map (·.cq.box)).getD []) (fun _=>true) ops.length t:=
   fun t=>xe fun i hi he=>by rw[hl i hi]at he;cases he
  rw[<-funext e1,<-funext e2]
  exact hs
 have stuck:∀(listed:Array Bool),listed.size=ops.length->Region.ready .any ops.toArray listed=[]->∀i,i<ops.length->listed.getD i false=true:=by
  intro listed bP hr i
  induction i using Nat.strongRecOn with
  |_ i ih=>
   intro hi
   cases hl:listed.getD i false with
   |true=>rfl
   |false=>
    have ho:ops[i]?=some (ops[i]'hi):=IF hi
    have:i∈Region.ready .any ops.toArray listed:=(mem_ready bP).2 ⟨_,ho,hl,fun d hd=>ih d (by have:=rS Vf ho d hd;omega) (Zg i _ ho d hd)⟩
    rw[hr]at this;cases this
 intro fuel
 induction fuel with
 |zero=>
  intro listed a w bP hc vU hs
  have hl:=Bb (E:=fun i=>listed.getD i false) (m:=ops.length) (by omega)
  refine⟨?_,done listed a w hl hs⟩
  refine List.eq_nil_iff_forall_not_mem.2 fun i hi=>?_
  obtain⟨o,ho,h1,_⟩:=(mem_ready bP).1 hi
  have:listed.getD i false=true:=hl i (W8.1 ho).1
  rw[h1]at this;cases this
 |succ fuel ih=>
  intro listed a w bP hc vU hs
  refine⟨fun hr=>done listed a w (stuck listed bP hr) hs,fun j hj=>?_⟩
  obtain⟨o,ho,Zh,ZU⟩:=(mem_ready bP).1 hj
  have CL:j<ops.length:=(W8.1 ho).1
  have Zi:rs[j]?=some (rs[j]'(by omega)):=IF (by omega)
  obtain⟨ZV,xX⟩:=bO j _ o Zi ho
  have apart:∀(i:Nat) (x:Rec) (ox:Oper),rs[i]?=some x->ops[i]?=some ox->i≠j->(i<j/\listed.getD i false=false\/j<i/\listed.getD i false=true)->mO ops x (rs[j]'(by omega)) o=true/\mO ops (rs[j]'(by omega)) x ox=true:=by
   intro i x ox hx E8 cF OJ
   rcases OJ with⟨au,Zj⟩|⟨au,Zj⟩
   ·have h1:=lA CK Zi ho
    rw[Nat.zero_add]at h1
    rcases n9 h1 hx E8 (by omega)with hr|hr
    ·rw[Nat.zero_add]at hr
     have:listed.getD i false=true:=rT (E:=fun i=>listed.getD i false) vU ho hr ZU (Zg j o ho) Zg
     rw[Zj]at this;cases this
    ·exact hr
   ·have h1:=lA CK hx E8
    rw[Nat.zero_add]at h1
    rcases n9 h1 Zi ho (by omega)with hr|hr
    ·rw[Nat.zero_add]at hr
     have:listed.getD j false=true:=rT (E:=fun i=>listed.getD i false) vU E8 hr (vU i ox E8 Zj) (Zg i ox E8) Zg
     rw[Zh]at this;cases this
    ·exact⟨hr.2,hr.1⟩
  have Bd:∀i,i<ops.length->∃x ox,rs[i]?=some x/\ops[i]?=some ox:=fun i hi=>⟨_,_,IF (by omega),IF hi⟩
  have OK:∀t,(∀(x:Rec) (ox:Oper),mO ops x (rs[j]'(by omega)) o=true->t∉keys x.cq.dst)->acc ρ0 (fun i=>(rs[i]?.map (·.cq.dst)).getD []) (fun i=>listed.getD i false) ops.length t=acc ρ0 (fun i=>(rs[i]?.map (·.cq.dst)).getD []) (fun _=>true) j t:=by
   intro t ht
   refine E4 (by omega) (fun i hi he=>?_) (fun i hji hi he=>?_)
   ·obtain⟨x,ox,hx,E8⟩:=Bd i (by omega)
    simp only[hx,Option.map_some,Option.getD_some]
    exact ht x ox (apart i x ox hx E8 (by omega) (.inl ⟨hi,he⟩)).1
   ·rcases Nat.lt_or_eq_of_le hji with au|rfl
    ·obtain⟨x,ox,hx,E8⟩:=Bd i hi
     simp only[hx,Option.map_some,Option.getD_some]
     exact ht x ox (apart i x ox hx E8 (by omega) (.inr ⟨au,he⟩)).1
    ·rw[Zh]at he;cases he
  have CM:∀t,(∀(x:Rec) (ox:Oper),mO ops x (rs[j]'(by omega)) o=true->t∉keys x.cq.box)->acc κ0 (fun i=>(rs[i]?.map (·.cq.box)).getD []) (fun i=>listed.getD i false) ops.length t=acc κ0 (fun i=>(rs[i]?.map (·.cq.box)).getD []) (fun _=>true) j t:=by
   intro t ht
   refine E4 (by omega) (fun i hi he=>?_) (fun i hji hi he=>?_)
   ·obtain⟨x,ox,hx,E8⟩:=Bd i (by omega)
    simp only[hx,Option.map_some,Option.getD_some]
    exact ht x ox (apart i x ox hx E8 (by omega) (.inl ⟨hi,he⟩)).1
   ·rcases Nat.lt_or_eq_of_le hji with au|rfl
    ·obtain⟨x,ox,hx,E8⟩:=Bd i hi
     simp only[hx,Option.map_some,Option.getD_some]
     exact ht x ox (apart i x ox hx E8 (by omega) (.inr ⟨au,he⟩)).1
    ·rw[Zh]at he;cases he
  have Zk:∀{x y:Rec} {oy:Oper},mO ops x y oy=true->uD (sQ x.cq.dst) (oy.looksAt ops.toArray)=true/\uD (sQ x.cq.dst) (sQ y.cq.dst)=true/\uD (iD x.cq.box) y.rows=true/\uD (iD x.cq.box) y.cq.reads=true/\uD (iD x.cq.box) (iD y.cq.box)=true:=by
   intro x y oy h
   simp only[mO,adT]at h
   exact⟨h.1.1.1.1,h.1.1.1.2,h.1.1.2,h.1.2,h.2⟩
  have ay:EA ops o (acc ρ0 (fun i=>(rs[i]?.map (·.cq.dst)).getD []) (fun _=>true) j) (acc ρ0 (fun i=>(rs[i]?.map (·.cq.dst)).getD []) (fun i=>listed.getD i false) ops.length)
   (acc κ0 (fun i=>(rs[i]?.map (·.cq.box)).getD []) (fun _=>true) j) (acc κ0 (fun i=>(rs[i]?.map (·.cq.box)).getD []) (fun i=>listed.getD i false) ops.length) (rs[j]'(by omega)).cq.reads (rs[j]'(by omega)).cq.box:=by
   refine⟨fun t ht=>OK t fun x ox h hm=>?_,fun i hi=>CM i fun x ox h hm=>?_,fun i hi=>CM i fun x ox h hm=>?_,fun i b hb=>CM i fun x ox h hm=>?_⟩
   ·exact jy (Zk h).1 t (by rw[x4];exact hm) ht
   ·exact jy (Zk h).2.2.1 i (by rw[nc];exact hm) (by rw[ZV];exact hi)
   ·exact jy (Zk h).2.2.2.1 i (by rw[nc];exact hm) hi
   ·exact jy (Zk h).2.2.2.2 i (by rw[nc];exact hm) (by rw[nc];exact adK.2 ⟨(i,b),hb,rfl⟩)
  have bG:=xX F hF _ _ ay g a w ⟨dK,Ij⟩ hs
  have lC:(fun i=>(listed.setIfInBounds j true).getD i false)=rP (fun i=>listed.getD i false) j:=by
   funext i
   simp only[rP,adt]
   by_cases e:i=j
   ·subst e;simp[bP,CL]
   ·rw[if_neg e,Array.getElem?_setIfInBounds_ne (fun h=>e h.symm)]
  have next:∀a' w',St g n (aF (acc ρ0 (fun i=>(rs[i]?.map (·.cq.dst)).getD []) (fun i=>listed.getD i false) ops.length) (rs[j]'(by omega)).cq.dst) (aF (acc κ0 (fun i=>(rs[i]?.map (·.cq.box)).getD []) (fun i=>listed.getD i false) ops.length) (rs[j]'(by omega)).cq.box) a' w'->
   wpAnyIn F 0 P .any ops.toArray Q fuel (listed.setIfInBounds j true) a' w':=by
   intro a' w' fY
   refine ih _ a' w' (by simp[bP]) ?_ ?_ ?_
   ·rw[lC]
    have:=E6 (E:=fun i=>listed.getD i false) Zh CL
    omega
   ·have ZW:∀i,(listed.setIfInBounds j true).getD i false=rP (fun i=>listed.getD i false) j i:=fun i=>congrFun lC i
    intro i o' mj hi d hd
    rw[ZW]at hi⊢
    have up:listed.getD d false=true->rP (fun i=>listed.getD i false) j d=true:=fun h=>by
     by_cases e:d=j
     ·subst e;exact Ba _ _
     ·rw[n5 _ e];exact h
    by_cases e:i=j
    ·subst e
     rw[ho]at mj;injection mj with mj;subst mj
     exact up (ZU d hd)
    ·rw[n5 _ e]at hi
     exact up (vU i o' mj hi d hd)
   ·rw[lC]
    rw[CJ (f:=ρ0) Zh CL (fun i h1 h2 h3 t ht=>?_),CJ (f:=κ0) Zh CL (fun i h1 h2 h3 t ht=>?_)]
    ·simpa[Zi]using fY
    ·obtain⟨x,ox,hx,E8⟩:=Bd i h2
     simp only[Zi,hx,Option.map_some,Option.getD_some]at ht⊢
     have h5:=jy (Zk (apart i x ox hx E8 (by omega) (.inr ⟨h1,h3⟩)).2).2.2.2.2 t (by rw[nc];exact ht)
     rwa[nc]at h5
    ·obtain⟨x,ox,hx,E8⟩:=Bd i h2
     simp only[Zi,hx,Option.map_some,Option.getD_some]at ht⊢
     have h5:=jy (Zk (apart i x ox hx E8 (by omega) (.inr ⟨h1,h3⟩)).2).2.1 t (by rw[x4];exact ht)
     rwa[x4]at h5
  unfold wpOpIn
  rw[show ops.toArray[j]?=some o by simpa using ho]
  unfold nV at bG
  simp only
  split at bG
  ·rename_i hw;rw[if_pos hw];exact xU next bG
  ·rename_i hw;rw[if_neg hw];exact⟨fun f _=>hF.fn f,next _ _ bG⟩
end
end
section
open Go.RowKit
variable [cj]
def aw.ic:aw->Bool
 |.none=>true
 |_=>false
theorem Mi{b:aw}(h:b.ic=true):b=.none:=by grind [aw.ic]
def ri(m:Nat)(h:Nat->Nat->List PS->Option Value)(i V E v e:Nat):List PS->Option Value
 |[]=>if v=(jz m i V E).1/\e=0 then h V 0 []else if i<m/\v=0/\e=0 then h 0 0 []else none
 |s::q=>if v=(jz m i V E).1/\e=(jz m i V E).2 then h V E (s::q)else if i<m/\v=0/\e=0 then h 0 0 (s::q)else none
def E9(v e:Nat)(p:List PS):Option Value:=match v,e,p with
 |0,0,[]=>some (.slice none 0 0)
 |_,_,_=>none
def xf(m:Nat)(κ κ':Nat->aw)(H:Nat->Nat->Nat->List PS->Option Value)(i v e:Nat)(p:List PS):Option Value:=
 match(κ' i).ic with
 |true=>none
 |false=>match κ i with
  |.tree V E _=>ri m (H i) i V E v e p
  |.fz V _=>ri m (H i) i V 0 v e p
  |.held=>ri m (H i) i 0 0 v e p
  |.none=>E9 v e p
  |_=>if i<m/\v=0/\e=0 then H i 0 0 p else none
def reβ(κ':Nat->aw)(β:Nat->Option Nat)(i:Nat):Option Nat:=match(κ' i).ic with
 |true=>none
 |false=>β i
def dX(m:Nat)(κ κ':Nat->aw)(G:Gh):Gh:={ G with β:=reβ κ' G.β,H:=xf m κ κ' G.H }
theorem S5(m i V E E':Nat):(jz m i V E).1=(jz m i V E').1:=by
 unfold jz
 grind
theorem Fa{m i V E:Nat}(hi:i<m)(h:(jz m i V E).1=0):V=0/\((jz m i V E).2=0->E=0):=by
 unfold jz at*
 have hb:Nat.blt i m=true:=by simp_all
 grind
theorem xg{m i V E:Nat}(hi:¬i<m):jz m i V E=(0,0):=by
 unfold jz
 grind [Nat.blt,Nat.blt_eq,absurd]
theorem lD(m:Nat)(h:Nat->Nat->List PS->Option Value)(i V E:Nat)(s:PS)(q:List PS):ri m h i V E (jz m i V E).1 0 []=h V 0 []/\ri m h i V E (jz m i V E).1 (jz m i V E).2 (s::q)=h V E (s::q):=by
 simp[ri]
theorem x5{m:Nat}{h:Nat->Nat->List PS->Option Value}{i V E:Nat}(hi:i<m)(p:List PS):ri m h i V E 0 0 p=h 0 0 p:=by
 cases p with
 |nil=>
  simp[ri]
  split
  ·grind [Fa]
  grind
 |cons s q=>
  simp[ri]
  split
  ·grind [Fa]
  grind
theorem CN{m:Nat}{h:Nat->Nat->List PS->Option Value}{i V E v:Nat}(hv:(jz m i V E).1<v)(e:Nat)(p:List PS):ri m h i V E v e p=none:=by
 cases p with
 |nil=>simp[ri];grind
 |cons s q=>simp[ri];grind
theorem KA{m:Nat}{h:Nat->Nat->List PS->Option Value}{i V E e:Nat}(hv:(jz m i V E).2<e)(p:List PS):ri m h i V E (jz m i V E).1 e p=none:=by
 cases p with
 |nil=>simp[ri];grind
 |cons s q=>simp[ri];grind
section
variable {m:Nat} {κ κ':Nat->aw} {G:Gh} {w:World}
theorem pC{H:Nat->Nat->Nat->List PS->Option Value}{i V E:Nat}{d:DV}(hk:κ i=.tree V E d)(hn:(κ' i).ic=false)(p:List PS):aO (xf m κ κ' H) i (jz m i V E).1 (jz m i V E).2 p=aO H i V E p:=by
 cases p with
 |nil=>simp[aO,xf,hn,hk];exact(lD m _ i V E (.el 0 0) []).1
 |cons s q=>simp_all [aO,xf,lD]
theorem CO(m i:Nat):jz m i 0 0=(0,0):=by
 grind [jz,Nat.blt]
theorem x6{H:Nat->Nat->Nat->List PS->Option Value}{i:Nat}(hk:κ i=.held)(hn:(κ' i).ic=false):aO (xf m κ κ' H) i 0 0=aO H i 0 0:=by
 have e:=CO m i
 funext p
 cases p with
 |nil=>
  simp[aO,xf,hk]
  have:=(lD m (H i) i 0 0 (.el 0 0) []).1
  grind
 |cons s q=>
  simp[aO,xf,hk]
  have:=(lD m (H i) i 0 0 s q).2
  grind
theorem Fb{a b:aw}(h:match a,b with| .held,.held=>True|_,_=>False):a=.held/\b=.held:=by
 grind
theorem S6{v:AV}{i ver ep:Nat}{p:List PS}(h:kl m κ v=.own i ver ep p):(∃V E e d,v=.own i V e p/\κ i=.tree V E d/\(p=[]\/e=E)/\ver=(jz m i V E).1/\ep=(jz m i V E).2)\/∃e,v=.own i 0 e p/\κ i=.held/\(p=[]\/e=0)/\ver=0/\ep=0:=by
 cases v with
 |own j V e q=>
  simp[kl]at h
  split at h
  ·rename_i V' E' d hk
   cases hb:Nat.beq V V'&&(emp q||Nat.beq e E')with
   |false=>grind
   |true=>
    rw[hb]at h
    obtain⟨rfl,hc⟩:=dE hb
    simp[cond_true,AV.own.injEq]at h
    obtain⟨rfl,h1,h2,rfl⟩:=h
    grind
  ·cases hb:Nat.beq V 0&&(emp q||Nat.beq e 0)with
   |false=>grind
   |true=>
    rw[hb]at h
    obtain⟨rfl,hc⟩:=dE hb
    grind
  grind
 |loc j V e q a b c=>
  grind [kl,Nat.beq,emp]
 |pre j V e q a b c=>
  grind [kl,Nat.beq,emp]
 |cz j V=>
  grind [kl,Nat.beq]
 |_=>simp[kl]at h
theorem OL{v:AV}{i ver:Nat}(h:kl m κ v=.cz i ver):∃V E d,v=.cz i V/\κ i=.tree V E d/\ver=(jz m i V E).1:=by
 cases v with
 |cz j V=>
  simp[kl]at h
  split at h
  ·rename_i V' E' d hk
   cases hb:Nat.beq V V' with
   |false=>grind
   |true=>
    rw[hb]at h
    have:=ab9 hb
    grind
  grind
 |own j V e q=>
  grind [kl,Nat.beq,emp]
 |loc j V e q a b c=>
  grind [kl,Nat.beq,emp]
 |pre j V e q a b c=>
  grind [kl,Nat.beq,emp]
 |_=>simp[kl]at h
theorem S7{v:AV}{i ver ep a b c:Nat}{p:List PS}(h:kl m κ v=.loc i ver ep p a b c):∃V E e d,v=.loc i V e p a b c/\κ i=.tree V E d/\(p=[]\/e=E)/\ver=(jz m i V E).1/\ep=(jz m i V E).2:=by
 cases v with
 |loc j V e q a b c=>
  simp[kl]at h
  split at h
  ·rename_i V' E' d hk
   cases hb:Nat.beq V V'&&(emp q||Nat.beq e E')with
   |false=>grind
   |true=>
    rw[hb]at h
    obtain⟨rfl,hc⟩:=dE hb
    simp[cond_true,AV.loc.injEq]at h
    obtain⟨rfl,h1,h2,rfl,rfl,rfl,rfl⟩:=h
    grind
  grind
 |pre j V e q a b c=>
  grind [kl,Nat.beq,emp]
 |own j V e q=>
  grind [kl,Nat.beq,emp]
 |cz j V=>
  grind [kl,Nat.beq]
 |_=>simp[kl]at h
theorem S8{v:AV}{i ver ep a b c:Nat}{p:List PS}(h:kl m κ v=.pre i ver ep p a b c):∃V E e d,v=.pre i V e p a b c/\κ i=.tree V E d/\(p=[]\/e=E)/\ver=(jz m i V E).1/\ep=(jz m i V E).2:=by
 cases v with
 |pre j V e q a b c=>
  simp[kl]at h
  split at h
  ·rename_i V' E' d hk
   cases hb:Nat.beq V V'&&(emp q||Nat.beq e E')with
   |false=>grind
   |true=>
    rw[hb]at h
    obtain⟨rfl,hc⟩:=dE hb
    simp[cond_true,AV.pre.injEq]at h
    obtain⟨rfl,h1,h2,rfl,rfl,rfl,rfl⟩:=h
    grind
  grind
 |loc j V e q a b c=>
  grind [kl,Nat.beq,emp]
 |own j V e q=>
  grind [kl,Nat.beq,emp]
 |cz j V=>
  grind [kl,Nat.beq]
 |_=>simp[kl]at h
theorem CQ{b:aw}(h:b.OM=true):b.ic=false:=by cases b<;>simp[aw.OM]at h<;>rfl
theorem CR{b:aw}{v e:Nat}(h:b.Zl v e=true):b.ic=false:=by cases b<;>simp[aw.Zl]at h<;>rfl
theorem sT:∀{l' l:List AV},dZ m κ κ' l' l->l'.length=l.length
 |[],[],_=>rfl
 |[],_::_,h=>by simp[dZ]at h
 |_::_,[],h=>by simp[dZ]at h
 |_::_,_::_,h=>by simp[dZ]at h;simp[sT h.2]
theorem pD{κc:Nat->aw}{F:List Nat}{G1:Gh}(hle:Gh.Le G G1)(hβ:G1.β=G.β)(hH:G1.H=G.H)(S9:∀i,i∈F->κc i=κ i)(l6:Fit G1 w (aF κc (mc κ F))):∀(N:Nat),
 (∀(u v:AV) (x:Value),SizeOf.sizeOf u<N->fO m κ κ' u v->AV.sc κ' u=true->(∀i,i∈x7 κ u v->i∈F)->aK G v x->aK (dX m κ κ' G1) u x)/\
 (∀(us vs:List AV) (xs:List Value),SizeOf.sizeOf us<N->dZ m κ κ' us vs->AV.KB κ' us=true->(∀i,i∈dB κ us vs->i∈F)->ck G vs xs->ck (dX m κ κ' G1) us xs):=by
 intro N
 induction N with
 |zero=>grind
 |succ N ih=>
  have Ct:∀{i b:Nat},G.β i=some b->(κ' i).ic=false->(dX m κ κ' G1).β i=some b:=fun {i b} h hn=>by simp_all [dX,reβ]
  refine⟨fun u v x bP hs hc hF hv=>?_,fun us vs xs bP hs hc hF hr=>?_⟩
  ·cases u with
   |any=>exact .any _
   |dv d'=>
    simp[fO,ZX]at hs
    split at hs
    ·rename_i d ids hd
     simp[x7,hd]at hF
     exact .dv (hs _ x (uH (G':=G1) hd hF S9 hle l6 hv))
    grind
   |agg l'=>
    cases v with
    |agg l=>
     simp[fO]at hs
     simp[AV.sc]at hc
     simp[x7]at hF
     cases hv with|agg _ ys hl hr=>
     have:=ih.2 l' l ys (by grind) hs hc hF ⟨hl,hr⟩
     exact .agg l' ys this.1 this.2
    |_=>simp[fO]at hs
   |gr l'=>
    cases v with
    |gr l=>
     simp[fO]at hs
     simp[AV.sc]at hc
     simp[x7]at hF
     cases hv with|gr _ ys hl hr=>
     have:=ih.2 l' l ys (by grind) hs hc hF ⟨hl,hr⟩
     exact .gr l' ys this.1 this.2
    |_=>simp[fO]at hs
   |fn f' l'=>
    cases v with
    |fn f l=>
     simp[fO]at hs
     simp[AV.sc]at hc
     simp[x7]at hF
     obtain⟨rfl,hs⟩:=hs
     cases hv with|fn _ _ ys hl hr=>
     have:=ih.2 l' l ys (by grind) hs hc hF ⟨hl,hr⟩
     exact .fn f l' ys this.1 this.2
    |_=>simp[fO]at hs
   |kC f' l'=>
    cases v with
    |kC f l=>
     simp[fO]at hs
     simp[AV.sc]at hc
     simp[x7]at hF
     obtain⟨rfl,hs⟩:=hs
     cases hv with|kC _ _ ys hl hr=>
     have:=ih.2 l' l ys (by grind) hs hc hF ⟨hl,hr⟩
     exact .kC f l' ys this.1 this.2
    |_=>simp[fO]at hs
   |ptr i off=>
    simp[fO]at hs
    simp only[AV.sc]at hc
    subst hs
    cases hv with|ptr _ _ b hb=>exact .ptr i off b (Ct hb (CQ hc))
   |eN i=>
    simp only[fO]at hs
    simp[AV.sc]at hc
    subst hs
    cases hv with|eN _ l hb=>exact .eN i l (Ct hb (CQ hc))
   |sle i k=>
    simp[fO]at hs
    simp[AV.sc]at hc
    subst hs
    cases hv with|sle _ _ b hb=>exact .sle i k b (Ct hb (CQ hc))
   |own i ver ep p=>
    simp[fO]at hs
    simp[AV.sc]at hc
    have dI:=CR hc
    unfold CS at hs
    split at hs
    ·obtain⟨rfl,rfl,rfl,hb,sz,eT⟩:=hs
     cases hv with|dv hv=>cases hv with|ax=>
     refine .own i 0 0 [] _ ?_ rfl
     simp_all [aO,dX,xf,E9]
    ·rcases S6 hs with⟨V,E,e,d,N4,hk,fo,rfl,rfl⟩|⟨e,N4,hk,fo,rfl,rfl⟩
     ·have hv:=A3 hv
      rw[N4]at hv
      cases hv with|own _ _ _ _ _ hh jS=>
      refine .own i _ _ p x ?_ jS
      grind [cZ,dX,pC]
     ·have hv:=A3 hv
      rw[N4]at hv
      cases hv with|own _ _ _ _ _ hh jS=>
      refine .own i _ _ p x ?_ jS
      rw[cZ fo]at hh
      simp_all [dX,x6]
   |loc i ver ep p a b c=>
    simp[fO]at hs
    simp[AV.sc]at hc
    have dI:=CR hc
    obtain⟨V,E,e,d,rfl,hk,fo,rfl,rfl⟩:=S7 hs
    cases hv with
    |loc _ _ _ _ _ _ _ A q q' hh=>
     refine .loc i _ _ p a b c A q q' ?_
     grind [cZ,dX,pC]
    |rh _ _ _ _ _ _ _ A hh=>
     refine .rh i _ _ p a b c A ?_
     grind [cZ,dX,pC]
   |pre i ver ep p a b c=>
    simp[fO]at hs
    simp[AV.sc]at hc
    obtain⟨V,E,e,d,rfl,hk,fo,rfl,rfl⟩:=S8 hs
    cases hv with
    |pre _ _ _ _ _ _ _ q q' hh=>
     refine .pre i _ _ p a b c q q' fun hn=>?_
     grind [cZ,dX,pC,CR]
   |cz i ver=>
    simp[fO]at hs
    simp[AV.sc]at hc
    obtain⟨V,E,d,rfl,hk,rfl⟩:=OL hs
    cases hv with|cz _ _ A q hh=>
    refine .cz i _ A q ?_
    have:=pC (m:=m) (H:=G1.H) hk (CR hc) []
    simp_all [aO,dX]
   |opt g u=>simp[AV.sc]at hc
  ·cases us with
   |nil=>
    cases vs with
    |nil=>exact⟨hr.1,by simp⟩
    |cons=>simp[dZ]at hs
   |cons u us=>
    cases vs with
    |nil=>simp[dZ]at hs
    |cons v vs=>
     simp[dZ]at hs
     simp[AV.KB,adT]at hc
     simp[dB]at hF
     match xs,hr with
     |[],hr=>have:=hr.1;grind
     |x::xs,hr=>
      have h2:=ih.2 us vs xs (by grind) hs.2 hc.2 (fun i hi=>hF i (by grind)) ⟨by simpa using hr.1,fun q e y he hy=>hr.2 (q+1) e y (by grind) (by grind)⟩
      refine⟨by simp[h2.1],fun j d y hd hy=>?_⟩
      cases j with
      |zero=>simp at hd hy;subst hd;subst hy;exact(ih.1 u v x (by grind) hs.1 hc.1 (fun i hi=>hF i (by grind)) (hr.2 0 v x rfl rfl))
      |succ j=>exact h2.2 j d y (by simpa using hd) (by simpa using hy)
theorem x8:∀{F:List Nat},AA κ' F=true->∀i,i∈F->∀v e d,κ' i≠.tree v e d
 |[],_,i,hi,_,_,_=>by grind
 |j::F,h,i,hi,v,e,d=>by
  simp[AA,adT]at h
  rcases adp.1 hi with rfl|hi
  ·grind
  ·exact x8 h.2 i hi v e d
def Fc(m:Nat)(κ κ':Nat->aw)(F:List Nat)(i:Nat):Prop:=o8 m κ κ' i (κ i) (κ' i)/\(κ' i).Zm κ'=true/\∀j,j∈vV κ i (κ i) (κ' i)->j∈F
theorem Vg{κc:Nat->aw}{F:List Nat}{G1:Gh}(hf:Fit G w κc)(hle:Gh.Le G G1)(hβ:G1.β=G.β)(hH:G1.H=G.H)(hX:G1.X=G.X)(S9:∀i,i∈F->κc i=κ i)(ZY:∀i,(κ' i).ic=false->κc i=κ i)(l6:Fit G1 w (aF κc (mc κ F)))(fb:AA κ' F=true)(hs:∀i,Fc m κ κ' F i):
 Fit (dX m κ κ' G1) w κ'/\∀i b,cD (dX m κ κ' G1) i (κ' i) b->cD G1 i (aF κc (mc κ F) i) b:=by
 have lY:∀j,(κ' j).ic=false->aF κc (mc κ F) j=if j∈F then(κ j).fc else κ j:=fun j hj=>by grind [pE]
 have jP:∀i b,cD (dX m κ κ' G1) i (κ' i) b->cD G1 i (aF κc (mc κ F) i) b:=by
  intro i b ho
  obtain⟨hx,Il,rj⟩:=hs i
  cases iL:κ' i with
  |none=>rw[iL]at ho;exact ho.elim
  |dead=>rw[iL]at ho;exact ho.elim
  |fz=>rw[iL]at ho;exact ho.elim
  |cells l'=>
   rw[iL]at ho hx
   cases hk:κ i with
   |cells l=>
    simp_all [aw.fc,cD,dX,reβ,aw.ic]
   |_=>rw[hk]at hx;exact hx.elim
  |tree v e d'=>
   rw[iL]at ho hx
   cases hk:κ i with
   |tree V E d=>
    rw[hk]at hx
    simp only[o8]at hx
    obtain⟨hx,rfl⟩:=hx
    have fG:aF κc (mc κ F) i=.tree V E d:=by rw[lY i (by rw[iL];rfl),if_neg (fun hi=>x8 fb i hi _ _ _ iL),hk]
    rw[fG]
    have e1:v=(jz m i V E).1:=by grind
    have e2:e=(jz m i V E).2:=by grind
    subst e1;subst e2
    obtain⟨p,nd,u,h1,h2,h3,h4⟩:=ho
    simp only[dX]at h3
    rw[pC hk (by rw[iL];rfl)]at h3
    exact⟨p,nd,u,h1,h2,h3,h4⟩
   |none=>
    rw[hk]at hx
    simp only[o8]at hx
    obtain⟨rfl,rfl,sz,rfl⟩:=hx
    obtain⟨p,nd,u,h1,h2,h3,h4⟩:=ho
    cases p with
    |nil=>
     simp only[aO,dX,xf,iL,aw.ic,hk,E9,Option.some.injEq]at h3
     grind [cT]
    |cons s p=>cases s<;>simp[get,step]at h1
   |_=>rw[hk]at hx;exact hx.elim
  |dr rc st l'=>
   rw[iL]at ho hx
   cases hk:κ i with
   |dr rc0 st0 l=>
    simp_all [aF,mc,aw.fc,cD,dX,reβ,aw.ic]
   |_=>rw[hk]at hx;exact hx.elim
  |held=>rw[iL]at ho;exact ho.elim
  |lj j' p' d' ON Ta=>
   rw[iL]at ho hx
   cases hk:κ i with
   |lj j p d left cur=>
    rw[hk]at hx
    simp only[o8]at hx
    obtain⟨rfl,rfl,rfl,rfl,_,hh⟩:=hx
    obtain⟨e1,e2⟩:=Fb hh
    simp_all [aF,mc,aw.fc,cD,dX,reβ,aw.ic,x6]
   |_=>rw[hk]at hx;exact hx.elim
 refine⟨⟨l6.sub,fun i=>?_,fun i b ho=>l6.own i b (jP i b ho),fun i j b ho mj=>l6.inj i j b (jP i b ho) (jP j b mj)⟩,jP⟩
 obtain⟨hx,Il,rj⟩:=hs i
 have jI:=l6.box i
 cases iL:κ' i with
 |none=>exact⟨by simp[dX,reβ,iL,aw.ic],fun v e p=>by simp[dX,xf,iL,aw.ic]⟩
 |dead=>trivial
 |cells l'=>
  rw[iL]at hx Il rj
  cases hk:κ i with
  |cells l=>
   rw[hk]at hx rj
   simp only[o8]at hx
   simp only[vV]at rj
   simp only[aw.Zm,adT]at Il
   have hb:=hf.box i
   rw[ZY i (by rw[iL];rfl),hk]at hb
   obtain⟨b,c,t,o9,hw,bP,l7,hr⟩:=hb
   refine⟨b,c,t,by simp_all [dX,reβ,aw.ic],hw,by grind [sT],fZ Il.2,fun j d v hd hv=>?_⟩
   have:=(pD hle hβ hH S9 l6 (SizeOf.sizeOf l'+1)).2 l' l c.toList (by omega) hx Il.1 rj ⟨by grind,fun j d v hd hv=>hr j d v hd (by grind)⟩
   exact this.2 j d v hd (by grind)
  |_=>rw[hk]at hx;exact hx.elim
 |tree v e d'=>
  rw[iL]at hx
  cases hk:κ i with
  |tree V E d=>
   rw[hk]at hx
   simp only[o8]at hx
   obtain⟨hx,rfl⟩:=hx
   rw[lY i (by rw[iL];rfl),if_neg (fun hi=>x8 fb i hi _ _ _ iL),hk]at jI
   have e1:v=(jz m i V E).1:=by grind
   have e2:e=(jz m i V E).2:=by grind
   subst e1;subst e2
   have dI:(κ' i).ic=false:=by rw[iL];rfl
   have Vh:aO (dX m κ κ' G1).H i (jz m i V E).1 (jz m i V E).2=aO G1.H i V E:=funext fun p=>by grind [dX,pC]
   refine⟨?_,?_,fun v hv e p=>?_,fun e he p=>?_⟩
   ·rw[Vh];exact jI.1
   ·rw[Vh];exact jI.2.1
   ·simp only[dX,xf,dI,hk];exact CN hv e p
   ·simp only[dX,xf,dI,hk];exact KA he p
  |none=>
   rw[hk]at hx
   simp only[o8]at hx
   obtain⟨rfl,rfl,sz,rfl⟩:=hx
   have dI:(κ' i).ic=false:=by rw[iL];rfl
   have h0:aO (dX m κ κ' G1).H i 0 0 []=some (.slice none 0 0):=by simp_all [aO,dX,xf,E9]
   refine⟨⟨rfl,fun p nd hp hn=>?_⟩,?_,fun v hv e p=>?_,fun e he p=>?_⟩
   ·cases p with
    |nil=>
     simp only[get,Option.some.injEq]at hp
     subst hp
     exact⟨_,h0,rfl,.inl ⟨rfl,rfl⟩⟩
    |cons s p=>cases s<;>simp[get,step]at hp
   ·intro p q nd md u v b h1 h2 h3 h4 h5 h6 h7 h8
    cases p with
    |nil=>grind [cT]
    |cons s p=>cases s<;>simp[get,step]at h1
   ·simp only[dX,xf,dI,hk]
    cases v with
    |zero=>omega
    |succ v=>rfl
   ·simp only[dX,xf,dI,hk]
    cases e with
    |zero=>omega
    |succ e=>rfl
  |_=>rw[hk]at hx;exact hx.elim
 |fz v d'=>
  rw[iL]at hx rj
  have dI:(κ' i).ic=false:=by rw[iL];rfl
  cases hk:κ i with
  |tree V E d=>
   rw[hk]at hx rj
   simp only[o8]at hx
   obtain⟨rfl,hx⟩:=hx
   rw[lY i dI,if_pos (rj i (by simp[vV])),hk]at jI
   obtain⟨u,h1,h2,h3⟩:=jI
   refine⟨u,?_,h2,hx _ _ h3⟩
   simp only[dX,xf,dI,hk]
   rwa[S5 m i V 0 E,(lD m (G1.H i) i V E (.el 0 0) []).1]
  |fz V d=>
   rw[hk]at hx
   simp only[o8]at hx
   obtain⟨rfl,hx⟩:=hx
   have fG:aF κc (mc κ F) i=.fz V d:=by grind [aw.fc]
   rw[fG]at jI
   obtain⟨u,h1,h2,h3⟩:=jI
   refine⟨u,?_,h2,hx _ _ h3⟩
   simp only[dX,xf,dI,hk]
   rwa[(lD m (G1.H i) i V 0 (.el 0 0) []).1]
  |_=>rw[hk]at hx;exact hx.elim
 |dr rc st l'=>
  rw[iL]at hx Il rj
  cases hk:κ i with
  |dr rc0 st0 l=>
   rw[hk]at hx rj
   simp only[o8]at hx
   simp only[vV]at rj
   simp only[aw.Zm]at Il
   obtain⟨rfl,rfl,hx⟩:=hx
   have hb:=hf.box i
   rw[ZY i (by rw[iL];rfl),hk]at hb
   obtain⟨b,fn,tmps,D,o9,hw,hr⟩:=hb
   exact⟨b,fn,tmps,D,by simp_all [dX,reβ,aw.ic],hw,(pD hle hβ hH S9 l6 (SizeOf.sizeOf l'+1)).2 l' l tmps.toList (by omega) hx Il rj hr⟩
  |_=>rw[hk]at hx;exact hx.elim
 |held=>
  rw[iL]at hx
  cases hk:κ i with
  |held=>
   have dI:(κ' i).ic=false:=by rw[iL];rfl
   refine⟨fun v hv e p=>?_,fun e he p=>?_⟩
   ·simp_all [dX,xf,CN,CO]
   ·simp only[dX,xf,dI,hk]
    have:=KA (m:=m) (h:=G1.H i) (i:=i) (by rwa[CO]) p
    grind [CO]
  |_=>rw[hk]at hx;exact hx.elim
 |lj j' p' d' ON Ta=>
  rw[iL]at hx
  cases hk:κ i with
  |lj j p d left cur=>
   rw[hk]at hx
   simp only[o8]at hx
   obtain⟨rfl,rfl,rfl,rfl,hc,hh⟩:=hx
   obtain⟨e1,e2⟩:=Fb hh
   have dI:(κ' i).ic=false:=by rw[iL];rfl
   rw[lY i dI,hk]at jI
   simp only[aw.fc,ite_self]at jI
   obtain⟨r,mb,es,clock,seen,ks,mm,hi⟩:=jI
   have Vh:aO (dX m κ κ' G1).H j 0 0=aO G1.H j 0 0:=x6 e1 (by rw[e2];rfl)
   refine⟨r,mb,es,clock,seen,ks,mm,by simp only[dX,reβ,dI];exact hi.fm,hi.it,by rw[Vh];exact hi.tree,by rw[Vh];exact hi.inj,hi.node,by rw[Vh];exact hi.head,hi.map,hi.left,?_⟩
   rcases hc with rfl|rfl
   ·trivial
   ·exact hi.cur
  |_=>rw[hk]at hx;exact hx.elim
end
end
end Go.TM
