import Derived.Test.YtfpebgpgabjieaaGreatDoorGM9
import Derived.Orders
set_option linter.all false
namespace Go.TM
section
open Go.RowKit
variable [cq]
def H5:Op->Bool
 |.buildSlice _ _ _=>true
 |.call c=>match c.callee with
  |.builtin .append=>true
  |_=>false
 |_=>false
def wY(o:Oper):Oper:={ o with guard:=none }
def H6(P:Program)(T:List TI)(ops:List Oper)(n:Nat)(o:Oper)(nx:Nat)(ρ:Nat->AV)(κ:Nat->az)(k:lQ->Nat->Prop):Prop:=
 match o.guard with
 |none=>qn P T ops n o nx ρ κ k
 |some _=>bif H5 o.op then qn P T ops n o nx ρ κ k\/(match b9 ρ ops o.guard with
  |some g=>(g=false/\bl n o g nx k .any [])\/(g=true/\qn P T ops n (wY o) nx ρ κ k)
  |none=>False)
  else qn P T ops n o nx ρ κ k
def WT(P:Program)(T:List TI)(ops:List Oper)(n:Nat):List Oper->Nat->Env->ad->(Nat->Env->ad->Prop)->Prop
 |[],nx,env,K,k=>k nx env K
 |o::rest,nx,env,K,k=>H6 P T ops n o nx (look env) (aa K) fun cg fC=>AR cg.dst env fun nH=>AS cg.box K fun K'=>WT P T ops n rest fC nH K' k
structure Rec where
 rows:List Nat
 cg:lQ
def Ke:Op->Bool
 |.call c=>match c.callee with
  |.value (.tmp _)=>true
  |_=>false
 |_=>false
def jM:List (Nat×az)->List Nat
 |[]=>[]
 |p::r=>p.1::jM r
def Kf(κ:Nat->az)(rd:List Nat):List (Nat×az)->(List (Nat×az)->Prop)->Prop
 |[],k=>k []
 |(i,b)::r,k=>((iN i rd&& !iN i (jM r))=true/\κ i=b/\Kf κ rd r k)\/Kf κ rd r fun r=>k ((i,b)::r)
def Om(ops:List Oper)(o:Oper)(κ:Nat->az)(cg:lQ)(k:lQ->Prop):Prop:=
 bif Ke o.op&&Nat.ble 16 ops.length then k cg\/Kf κ cg.reads cg.box fun bx=>k { cg with box:=bx }else k cg
def On(P:Program)(T:List TI)(ops:List Oper)(n:Nat):List Oper->Nat->Env->ad->List Rec->(Nat->Env->ad->List Rec->Prop)->Prop
 |[],nx,env,K,acc,k=>k nx env K acc
 |o::rest,nx,env,K,acc,k=>H6 P T ops n o nx (look env) (aa K) fun cg fC=>Om ops o (aa K) cg fun cg=>AR cg.dst env fun nH=>AS cg.box K fun K'=>On P T ops n rest fC nH K' (acc++[⟨j6 (look env) (aa K) o,cg⟩]) k
def uh:List Nat->List Nat->Bool
 |[],_=>true
 |x::r,l=>!iN x l&&uh r l
def sI:List (Nat×AV)->List Nat
 |[]=>[]
 |p::r=>p.1::sI r
def mr(ops:List Oper)(x y:Rec)(oy:Oper):Bool:=
 uh (sI x.cg.dst) (oy.looksAt ops.toArray)&&uh (sI x.cg.dst) (sI y.cg.dst)&&
 uh (jM x.cg.box) y.rows&&uh (jM x.cg.box) y.cg.reads&&uh (jM x.cg.box) (jM y.cg.box)
def wE(o:Oper):List Nat:=o.after.toList.filterMap fun e=>bif Region.binds .any e then some e.on else none
def um(ops:List Oper):Nat->Nat->Nat->Bool
 |0,_,_=>false
 |f+1,i,j=>match ops[j]? with
  |some o=>(wE o).any fun d=>Nat.beq d i||um ops f i d
  |none=>false
def Ca:Nat->List Oper->Bool
 |_,[]=>true
 |i,o::r=>(wE o).all (fun d=>Nat.blt d i)&&Ca (i+1) r
def sJ(ops:List Oper)(rs:List Rec)(j:Nat)(y:Rec)(oy:Oper):Nat->List Rec->List Oper->Bool
 |i,x::xr,ox::or=>(bif Nat.blt i j then um ops ops.length i j||(mr ops x y oy&&mr ops y x ox)else true)&&sJ ops rs j y oy (i+1) xr or
 |_,_,_=>true
def qo(ops:List Oper)(rs:List Rec):Nat->List Rec->List Oper->Bool
 |j,y::yr,oy::or=>sJ ops rs j y oy 0 rs ops&&qo ops rs (j+1) yr or
 |_,_,_=>true
def uo(ops:List Oper)(rs:List Rec):Bool:=Ca 0 ops&&qo ops rs 0 rs ops
def Cb(g:dY)(n nx:Nat)(env:Env)(K:ad)(a:Act)(w:World):Prop:=St g n (look env) (aa K) a w/\g.m<=nx/\∀i,nx<=i->aa K i=.none
theorem xA{F:Fence}{m:Nat}{P:Program}{o:Oper}{a:Act}{w:World}{K K':Act->World->Prop}{Q:Exit->Act->World->Prop}(h:∀a w,K a w->K' a w)(hh:o.wpIn F m P a w K (fun _ _ _=>False)):o.wpIn F m P a w K' Q:=by
 refine⟨hh.1,?_⟩
 have hh:=hh.2
 generalize (o.semAt F.round a.eval).run P w=r at*
 cases r with
 |ok x w'=>
  cases x<;>simp[Oper.uponIn]at hh⊢<;>
   first
    |grind
    |exact⟨hh.1,CallsIn.mono hh.2 (fun e w'' he=>by cases e<;>first|grind|grind|(obtain⟨_,_,hf⟩:=he;grind))⟩
    |exact⟨hh.1,RowsIn.mono hh.2 (fun _ _ he=>h _ _ he)⟩
    |exact⟨hh.1,RoundIn.mono hh.2 (fun e w'' he=>by cases e<;>first|grind|grind|(obtain⟨_,_,hf⟩:=he;grind))⟩
    |exact hh.elim
 |halt x w'=>cases x<;>simp[Oper.uponIn]at hh⊢<;>exact hh.elim
def dO(P:Program)(C:dY->Prop):Prop:=∀(ops:List Oper) (n:Nat) (o:Oper) (nx:Nat) (ρ:Nat->AV) (κ:Nat->az) (k:lQ->Nat->Prop),(∀i,nx<=i->κ i=.none)->Kg P C ops n o nx ρ κ k
section
variable {P:Program} {C:dY->Prop} {T:List TI} {ops:List Oper} {n:Nat} {g:dY}
theorem Cc{o:Oper}{nx:Nat}{ρ:Nat->AV}{κ:Nat->az}{k:lQ->Nat->Prop}(hg:b9 ρ ops o.guard=some true)(h:Good P C ops n (wY o) nx ρ κ k):Good P C ops n o nx ρ κ k:=by
 obtain⟨cg,fC,h1,h2,h3,h4⟩:=h
 refine⟨cg,fC,h1,h2,h3,fun F hF ρ' κ' aA g a w dN ak=>?_⟩
 have hs:∀t,t∈(wY o).looksAt ops.toArray->ρ' t=ρ t:=fun t ht=>aA.cn t (by
  unfold Oper.looksAt wY at ht
  simp only[List.append_nil]at ht
  exact List.mem_append_left _ ht)
 have hr:=h4 F hF ρ' κ' ⟨hs,aA.rows,aA.reads,aA.boxes⟩ g a w dN ak
 obtain⟨G,jN⟩:=ak
 unfold nI at hr⊢
 rw[if_pos (cB hg aA.cn jN)]
 assumption
theorem rB(hT:fD P T){o:Oper}{nx:Nat}{ρ:Nat->AV}{κ:Nat->az}{k:lQ->Nat->Prop}(hn:∀i,nx<=i->κ i=.none)(hR:dO P C)(h:H6 P T ops n o nx ρ κ k):Good P C ops n o nx ρ κ k:=by
 have Er:qn P T ops n o nx ρ κ k->Good P C ops n o nx ρ κ k:=uq hT hn (hR _ _ _ _ _ _ _ hn)
 unfold H6 at h
 split at h
 ·grind
 ·cases hh:H5 o.op with
  |false=>grind
  |true=>
   rw[hh]at h
   rcases h with h|h
   ·grind
   ·split at h
    ·rename_i g hg
     rcases h with⟨hf,h⟩|⟨hf,h⟩
     ·grind [bB,H5]
     ·subst hf
      exact Cc hg (uq hT hn (hR _ _ _ _ _ _ _ hn) h)
    grind
theorem kX{nx fC:Nat}{K:ad}{bx:List (Nat×az)}(hn:∀i,nx<=i->aa K i=.none)(hle:nx<=fC)(hb:∀p,p∈bx->p.1<fC):∀i,fC<=i->aa (xB bx K) i=.none:=by
 intro i hi
 rw[fW]
 have key:∀(l:List _),(∀p,p∈l->p.1<fC)->aF (aa K) l i=.none:=by
  intro l
  induction l with
  |nil=>intro _;exact hn i (by omega)
  |cons p r ih=>
   intro hl
   obtain⟨j,b⟩:=p
   have:=hl (j,b) (by simp)
   simp[aF]
   grind [ai]
 grind
theorem qp{o:Oper}{rest:List Oper}{a:Act}{w:World}{K:Act->World->Prop}{Q:Exit->Act->World->Prop}{F:Fence}(hF:iO F)(h:nI P F ops.toArray o a w K)(hk:∀a w,K a w->wpListIn F 0 P ops.toArray Q rest a w):wpListIn F 0 P ops.toArray Q (o::rest) a w:=by
 unfold nI at h
 simp[wpListIn]
 split at h
 ·rename_i hw;rw[if_pos hw];exact xA hk h
 ·rename_i hw;rw[if_neg hw];exact⟨fun f _=>hF.fn f,hk _ _ h⟩
theorem xC(hT:fD P T)(hR:dO P C)(H7:C g){F:Fence}(hF:iO F){Q:Exit->Act->World->Prop}{k:Nat->Env->ad->Prop}(hQ:∀nx env K a w,k nx env K->Cb g n nx env K a w->Q .normal a w):
 ∀(rest:List Oper) (nx:Nat) (env:Env) (K:ad) (a:Act) (w:World),WT P T ops n rest nx env K k->Cb g n nx env K a w->wpListIn F 0 P ops.toArray Q rest a w
 |[],nx,env,K,a,w,h,hs=>hQ nx env K a w h hs
 |o::rest,nx,env,K,a,w,h,⟨hs,dN,hn⟩=>by
  obtain⟨cg,fC,hk,hle,hb,xD⟩:=rB hT hn hR h
  rw[xE,xF]at hk
  refine qp hF (xD F hF _ _ ⟨fun _ _=>rfl,fun _ _=>rfl,fun _ _=>rfl,fun _ _ _=>rfl⟩ g a w ⟨dN,H7⟩ hs) fun a' w' gB=>?_
  refine xC hT hR H7 hF hQ rest fC _ _ a' w' hk ⟨?_,Nat.le_trans dN hle,kX hn hle hb⟩
  rwa[kK,fW]
def acc{γ:Type _}(f:Nat->γ)(wr:Nat->List (Nat×γ))(E:Nat->Bool):Nat->Nat->γ
 |0=>f
 |m+1=>if E m then aF (acc f wr E m) (wr m)else acc f wr E m
def keys{γ:Type _}(l:List (Nat×γ)):List Nat:=l.map (·.1)
theorem jr{γ:Type _}(f:Nat->γ):∀{l:List (Nat×γ)} {t:Nat},t∉keys l->aF f l t=f t
 |[],t,_=>rfl
 |(i,x)::r,t,h=>by
  simp only[keys,List.map_cons,adV,not_or]at h
  simp[aF]
  rw[ai _ _ h.1]
  exact jr f h.2
theorem Cd{γ:Type _}(f f':Nat->γ):∀{l:List (Nat×γ)} {t:Nat},t∈keys l->aF f l t=aF f' l t
 |[],t,h=>by simp[keys]at h
 |(i,x)::r,t,h=>by
  simp[aF]
  by_cases e:t=i
  ·subst e;simp
  ·rw[ai _ _ e,ai _ _ e]
   simp only[keys,List.map_cons,adV,e,false_or]at h
   exact Cd f f' h
section
variable {γ:Type _} {f:Nat->γ} {wr:Nat->List (Nat×γ)} {E:Nat->Bool}
theorem wZ{t:Nat}:∀{j:Nat},(∀i,i<j->E i=false->t∉keys (wr i))->acc f wr E j t=acc f wr (fun _=>true) j t
 |0,_=>rfl
 |j+1,h=>by
  have ih:=wZ (j:=j) fun i hi=>h i (by omega)
  simp[acc,if_true]
  cases he:E j with
  |true=>
   simp[if_true]
   grind [keys,Cd,jr]
  |false=>
   simp_all [jr]
theorem EI{t j:Nat}:∀{m:Nat},(∀i,j<=i->i<j+m->E i=true->t∉keys (wr i))->acc f wr E (j+m) t=acc f wr E j t
 |0,_=>rfl
 |m+1,h=>by
  have ih:=EI (m:=m) fun i h1 h2=>h i h1 (by omega)
  simp[acc]
  cases he:E _ with
  |true=>simp_all [jr]
  |false=>grind
theorem EJ{t j len:Nat}(hj:j<=len)(h1:∀i,i<j->E i=false->t∉keys (wr i))(h2:∀i,j<=i->i<len->E i=true->t∉keys (wr i)):acc f wr E len t=acc f wr (fun _=>true) j t:=by
 obtain⟨m,rfl⟩:∃m,len=j+m:=⟨len-j,by omega⟩
 rw[EI h2,wZ h1]
def rC(E:Nat->Bool)(j:Nat):Nat->Bool:=fun i=>if i=j then true else E i
theorem Ce{j:Nat}(hj:E j=false):∀{len:Nat},j<len->(∀i,j<i->i<len->E i=true->∀t,t∈keys (wr j)->t∉keys (wr i))->acc f wr (rC E j) len=aF (acc f wr E len) (wr j)
 |0,h,_=>by omega
 |len+1,h,hd=>by
  rcases ad8 j len with ay|jd
  ·have ih:=Ce hj ay fun i h1 h2=>hd i h1 (by omega)
   have c6:len≠j:=by omega
   simp[acc,rC,if_neg c6]
   cases he:E len with
   |false=>grind
   |true=>
    simp[if_true]
    rw[ih]
    grind [keys,jr,Cd,aF,acc]
  ·have:j=len:=by omega
   subst this
   have low:∀m,m<=j->acc f wr (rC E j) m=acc f wr E m:=by
    intro m
    induction m with
    |zero=>intro _;rfl
    |succ m ih=>
     intro hm
     simp[acc,rC,if_neg _]
     grind
   simp_all [acc,rC,aei]
end
theorem Te.lo{lo lo':Nat}{o:Oper}{ρ:Nat->AV}{κ:Nat->az}{cg:lQ}(h:Te P C ops n lo' o ρ κ cg)(hl:lo<=lo'):Te P C ops n lo o ρ κ cg:=
 fun F hF ρ' κ' aA g a w hg hs=>h F hF ρ' κ' aA g a w ⟨Nat.le_trans hg.1 hl,hg.2⟩ hs
theorem sK{γ:Type _}(f:Nat->γ)(wr wr':Nat->List (Nat×γ))(m:Nat):(∀i,i<m->wr' i=wr i)->acc f wr' (fun _=>true) m=acc f wr (fun _=>true) m:=by
 induction m with
 |zero=>intro _;rfl
 |succ m ih=>intro hh;simp[acc,if_true];grind
theorem rD{κ:Nat->az}{rd:List Nat}:∀{bx:List (Nat×az)} {k:List (Nat×az)->Prop},Kf κ rd bx k->∃Tf,k Tf/\(∀p,p∈Tf->p∈bx)/\(∀p,p∈bx->p∈Tf\/p.1∈rd)/\∀κ':Nat->az,(∀i,i∈rd->κ' i=κ i)->aF κ' Tf=aF κ' bx
 |[],k,h=>⟨[],h,fun _ h=>h,fun _ h=>.inl h,fun _ _=>rfl⟩
 |(i,b)::r,k,h=>by
  rcases h with⟨h1,h2,h⟩|h
  ·obtain⟨Tf,hk,ha,hb,hc⟩:=rD h
   simp[aep,aer]at h1
   refine⟨Tf,hk,fun p hp=>adW _ (ha p hp),fun p hp=>?_,fun κ' hκ=>?_⟩
   ·rcases adV.1 hp with rfl|hp
    ·grind [mO]
    grind
   ·rw[hc κ' hκ]
    funext j
    by_cases e:j=i
    ·subst e
     have hkb:∀(l:List _),jM l=keys l:=fun l=>by
      induction l with
      |nil=>rfl
      |cons p r ih=>simp[jM,keys,ih]
     simp_all [jr,fq,aF,mO]
    simp_all [aF,ai]
  ·obtain⟨Tf,hk,ha,hb,hc⟩:=rD h
   refine⟨(i,b)::Tf,hk,fun p hp=>?_,fun p hp=>?_,fun κ' hκ=>?_⟩
   ·grind
   ·grind
   grind [aF]
theorem H8{o:Oper}{nx:Nat}{ρ:Nat->AV}{κ:Nat->az}{k:lQ->Nat->Prop}(h:Good P C ops n o nx ρ κ fun cg fC=>Om ops o κ cg fun cg=>k cg fC):Good P C ops n o nx ρ κ k:=by
 obtain⟨cg,fC,h1,h2,h3,h4⟩:=h
 unfold Om at h1
 cases hd:Ke o.op&&Nat.ble 16 ops.length with
 |false=>rw[hd]at h1;exact⟨cg,fC,h1,h2,h3,h4⟩
 |true=>
  rw[hd]at h1
  rcases h1 with h1|h1
  ·exact⟨cg,fC,h1,h2,h3,h4⟩
  ·obtain⟨Tf,hk,ha,hb,hc⟩:=rD h1
   refine⟨_,fC,hk,h2,fun p hp=>h3 p (ha p hp),fun F hF ρ' κ' aA g a w dN ak=>?_⟩
   have hr:=h4 F hF ρ' κ' ⟨aA.cn,aA.rows,aA.reads,fun i b hib=>?_⟩ g a w dN ak
   ·simp
    rwa[hc κ' aA.reads]
   ·rcases hb _ hib with h|h
    ·exact aA.boxes i b h
    ·exact aA.reads i h
theorem vB(hT:fD P T)(hR:dO P C){k:Nat->Env->ad->List Rec->Prop}{ρ0:Nat->AV}{κ0:Nat->az}{lo:Nat}:
 ∀(rest done:List Oper) (nx:Nat) (env:Env) (K:ad) (rs:List Rec),ops=done++rest->rs.length=done.length->lo<=nx->
  (∀i,nx<=i->aa K i=.none)->
  look env=acc ρ0 (fun i=>(rs[i]?.map (·.cg.dst)).getD []) (fun _=>true) done.length->aa K=acc κ0 (fun i=>(rs[i]?.map (·.cg.box)).getD []) (fun _=>true) done.length->
  (∀i r o,rs[i]?=some r->ops[i]?=some o->r.rows=j6 (acc ρ0 (fun i=>(rs[i]?.map (·.cg.dst)).getD []) (fun _=>true) i) (acc κ0 (fun i=>(rs[i]?.map (·.cg.box)).getD []) (fun _=>true) i) o/\Te P C ops n lo o (acc ρ0 (fun i=>(rs[i]?.map (·.cg.dst)).getD []) (fun _=>true) i) (acc κ0 (fun i=>(rs[i]?.map (·.cg.box)).getD []) (fun _=>true) i) r.cg)->
  On P T ops n rest nx env K rs k->
  ∃fC nH K' wF,k fC nH K' wF/\wF.length=ops.length/\lo<=fC/\(∀i,fC<=i->aa K' i=.none)/\
   look nH=acc ρ0 (fun i=>(wF[i]?.map (·.cg.dst)).getD []) (fun _=>true) ops.length/\aa K'=acc κ0 (fun i=>(wF[i]?.map (·.cg.box)).getD []) (fun _=>true) ops.length/\
   ∀i r o,wF[i]?=some r->ops[i]?=some o->r.rows=j6 (acc ρ0 (fun i=>(wF[i]?.map (·.cg.dst)).getD []) (fun _=>true) i) (acc κ0 (fun i=>(wF[i]?.map (·.cg.box)).getD []) (fun _=>true) i) o/\Te P C ops n lo o (acc ρ0 (fun i=>(wF[i]?.map (·.cg.dst)).getD []) (fun _=>true) i) (acc κ0 (fun i=>(wF[i]?.map (·.cg.box)).getD []) (fun _=>true) i) r.cg
 |[],done,nx,env,K,rs,LQ,hlen,oP,hn,he,hk,bK,h=>by
  have:done.length=ops.length:=by grind
  exact⟨nx,env,K,rs,h,by omega,oP,hn,by grind,by grind,bK⟩
 |o::rest,done,nx,env,K,rs,LQ,hlen,oP,hn,he,hk,bK,h=>by
  obtain⟨cg,fC,iM,hle,hb,xD⟩:=H8 (rB hT hn hR h)
  rw[xE,xF]at iM
  have ur:∀i,i<rs.length->(rs++[⟨j6 (look env) (aa K) o,cg⟩])[i]?=rs[i]?:=fun i hi=>List.getElem?_append_left hi
  have xG:(rs++[(⟨j6 (look env) (aa K) o,cg⟩)])[done.length]?=some ⟨j6 (look env) (aa K) o,cg⟩:=by grind
  have j7:∀m,m<=done.length->acc ρ0 (fun i=>((rs++[(⟨j6 (look env) (aa K) o,cg⟩)])[i]?.map (·.cg.dst)).getD []) (fun _=>true) m=acc ρ0 (fun i=>(rs[i]?.map (·.cg.dst)).getD []) (fun _=>true) m:=
   fun m hm=>sK _ _ _ m fun i hi=>by grind
  have lZ:∀m,m<=done.length->acc κ0 (fun i=>((rs++[(⟨j6 (look env) (aa K) o,cg⟩)])[i]?.map (·.cg.box)).getD []) (fun _=>true) m=acc κ0 (fun i=>(rs[i]?.map (·.cg.box)).getD []) (fun _=>true) m:=
   fun m hm=>sK _ _ _ m fun i hi=>by grind
  refine vB hT hR rest (done++[o]) fC _ _ _ (by rw[LQ];simp) (by simp[hlen]) (Nat.le_trans oP hle) (kX hn hle hb) ?_ ?_ ?_ iM
  ·rw[kK,ad1]
   simp[List.length_cons,List.length_nil,acc,if_true]
   rw[j7 _ (aei _),xG,<-he];rfl
  ·rw[fW,ad1]
   simp[List.length_cons,List.length_nil,acc,if_true]
   rw[lZ _ (aei _),xG,<-hk];rfl
  ·intro i r o' hr ny
   rcases ad8 i rs.length with ay|jd
   ·rw[ur i ay]at hr
    rw[j7 i (by omega),lZ i (by omega)]
    exact bK i r o' hr ny
   ·have hi:i=done.length:=by
     have:=(adP.1 hr).1
     simp at this;omega
    subst hi
    rw[xG]at hr
    injection hr with hr
    subst hr
    rw[LQ]at ny
    simp at ny
    subst ny
    rw[j7 _ (aei _),lZ _ (aei _),<-he,<-hk]
    exact⟨rfl,xD.lo oP⟩
end
end
section
open Go.RowKit
variable [cq]
theorem js:∀{l r:List Nat},uh l r=true->∀x,x∈l->x∉r
 |[],r,_,x,h=>by simp at h
 |y::l,r,h,x,hx=>by
  simp only[uh,aep,aer]at h
  rcases adV.1 hx with rfl|hx
  ·exact fq h.1
  ·exact js h.2 x hx
theorem xH(l:List (Nat×AV)):sI l=keys l:=by
 induction l with
 |nil=>rfl
 |cons p r ih=>simp[sI,keys,ih]
theorem mP(l:List (Nat×az)):jM l=keys l:=by
 induction l with
 |nil=>rfl
 |cons p r ih=>simp[jM,keys,ih]
def uv(E:Nat->Bool):Nat->Nat
 |0=>0
 |m+1=>(if E m then 0 else 1)+uv E m
theorem AT(E:Nat->Bool)(j:Nat):rC E j j=true:=by simp[rC]
theorem nJ(E:Nat->Bool){i j:Nat}(h:i≠j):rC E j i=E i:=by simp[rC,h]
theorem EK{E:Nat->Bool}{j:Nat}(hj:E j=false):∀{m:Nat},j<m->uv (rC E j) m+1=uv E m
 |0,h=>by omega
 |m+1,h=>by
  rcases ad8 j m with ay|jd
  ·have ih:=EK hj ay
   have e:=nJ E (i:=m) (j:=j) (by omega)
   simp only[uv,e]
   omega
  ·have:j=m:=by omega
   subst this
   have low:∀q,q<=j->uv (rC E j) q=uv E q:=by
    intro q
    induction q with
    |zero=>intro _;rfl
    |succ q ih=>
     intro hq
     have e:=nJ E (i:=q) (j:=j) (by omega)
     simp only[uv,e,ih (by omega)]
   have:=low j (aei _)
   simp only[uv,AT,hj,if_true,Bool.false_eq_true,if_false]
   omega
theorem AU{E:Nat->Bool}:∀{m:Nat},uv E m=0->∀i,i<m->E i=true
 |0,_,i,hi=>by omega
 |m+1,h,i,hi=>by
  simp only[uv]at h
  rcases ad8 i m with ay|jd
  ·exact AU (by omega) i ay
  ·have:i=m:=by omega
   subst this
   cases he:E i with
   |true=>rfl
   |false=>simp[he]at h
section
variable {ops:List Oper}
theorem rE:∀{l:List Oper} {s:Nat},Ca s l=true->∀{i:Nat} {o:Oper},l[i]?=some o->∀d,d∈wE o->d<s+i
 |[],s,_,i,o,h,_,_=>by simp at h
 |x::l,s,he,i,o,h,d,hd=>by
  simp only[Ca,aep,aed]at he
  cases i with
  |zero=>simp at h;subst h;have:=he.1 d hd;rw[Nat.blt_eq]at this;omega
  |succ i=>have:=rE he.2 (i:=i) (by simpa using h) d hd;omega
theorem nL{rs:List Rec}{j:Nat}{y:Rec}{oy:Oper}:∀{xr:List Rec} {xo:List Oper} {s:Nat},sJ ops rs j y oy s xr xo=true->∀{i:Nat} {x:Rec} {ox:Oper},xr[i]?=some x->xo[i]?=some ox->s+i<j->
 um ops ops.length (s+i) j=true\/(mr ops x y oy=true/\mr ops y x ox=true)
 |[],xo,s,_,i,x,ox,h,_,_=>by simp at h
 |_::_,[],s,_,i,x,ox,_,h,_=>by simp at h
 |a::xr,b::xo,s,hh,i,x,ox,h1,h2,ay=>by
  simp only[sJ,aep]at hh
  cases i with
  |zero=>
   simp at h1 h2
   subst h1;subst h2
   have:=hh.1
   rw[show Nat.blt s j=true by rw[Nat.blt_eq];omega]at this
   simpa using this
  |succ i=>
   have:=nL hh.2 (i:=i) (by simpa using h1) (by simpa using h2) (by omega)
   rw[show s+(i+1)=s+1+i by omega];exact this
theorem kY{rs:List Rec}:∀{yr:List Rec} {yo:List Oper} {s:Nat},qo ops rs s yr yo=true->∀{j:Nat} {y:Rec} {oy:Oper},yr[j]?=some y->yo[j]?=some oy->
 sJ ops rs (s+j) y oy 0 rs ops=true
 |[],yo,s,_,j,y,oy,h,_=>by simp at h
 |_::_,[],s,_,j,y,oy,_,h=>by simp at h
 |a::yr,b::yo,s,hh,j,y,oy,h1,h2=>by
  simp only[qo,aep]at hh
  cases j with
  |zero=>simp at h1 h2;subst h1;subst h2;exact hh.1
  |succ j=>
   have:=kY hh.2 (j:=j) (by simpa using h1) (by simpa using h2)
   rw[show s+(j+1)=s+1+j by omega];exact this
theorem EL{o:Oper}{d:Nat}:d∈wE o↔∃e,e∈o.after.toList/\Region.binds .any e=true/\e.on=d:=by
 unfold wE
 rw[List.mem_filterMap]
 constructor
 ·rintro⟨e,he,h⟩
  cases hb:Region.binds .any e with
  |false=>rw[hb]at h;cases h
  |true=>rw[hb]at h;simp at h;exact⟨e,he,hb,h⟩
 ·rintro⟨e,he,hb,rfl⟩
  exact⟨e,he,by rw[hb];rfl⟩
theorem rF{E:Nat->Bool}(vC:∀i o,ops[i]?=some o->E i=true->∀d,d∈wE o->E d=true):∀{f i j:Nat} {o:Oper},ops[j]?=some o->um ops f i j=true->(∀d,d∈wE o->E d=true)->(∀d,d∈wE o->d<ops.length)->(∀(q:Nat) (o:Oper),ops[q]?=some o->∀d,d∈wE o->d<ops.length)->E i=true
 |0,i,j,o,_,h,_,_,_=>by simp[um]at h
 |f+1,i,j,o,ho,h,hd,hl,bK=>by
  simp only[um,ho,List.any_eq_true,Bool.or_eq_true]at h
  obtain⟨d,hdm,h⟩:=h
  rcases h with h|h
  ·have:=adS h;subst this;exact hd d hdm
  ·have ay:=hl d hdm
   have hod:ops[d]?=some (ops[d]'ay):=ace ay
   exact rF vC hod h (vC d _ hod (hd d hdm)) (bK d _ hod) bK
theorem mem_ready{listed:Array Bool}{i:Nat}(cb:listed.size=ops.length):i∈Region.ready .any ops.toArray listed↔∃o,ops[i]?=some o/\listed.getD i false=false/\∀d,d∈wE o->listed.getD d false=true:=by
 unfold Region.ready
 rw[List.mem_filter,aeh]
 constructor
 ·rintro⟨ay,h⟩
  have rG:i<ops.length:=by simpa using ay
  have ho:ops[i]?=some (ops[i]'rG):=ace rG
  refine⟨_,ho,?_,?_⟩
  ·simp only[aep,aer]at h
   have h1:=h.1
   simp only[adZ]at h1⊢
   rw[aeo (by omega)]at h1⊢
   simpa using h1
  ·intro d hd
   simp only[aep]at h
   have h2:=h.2
   rw[show ops.toArray[i]?=some (ops[i]'rG)by simp]at h2
   simp only[Option.map_some,Option.getD_some,Array.all_eq_true']at h2
   obtain⟨e,he,hb,rfl⟩:=EL.1 hd
   have:=h2 e (by simpa using he)
   simpa[hb]using this
 ·rintro⟨o,ho,h1,h2⟩
  have ay:i<ops.length:=(adP.1 ho).1
  refine⟨by simpa using ay,?_⟩
  simp only[aep,aer]
  constructor
  ·simp only[adZ]at h1⊢
   rw[aeo (by omega)]at h1⊢
   simpa using h1
  ·rw[show ops.toArray[i]?=some o by simpa using ho]
   simp only[Option.map_some,Option.getD_some,Array.all_eq_true']
   intro e he
   cases hb:Region.binds .any e with
   |false=>rfl
   |true=>
    have:=h2 e.on (EL.2 ⟨e,by simpa using he,hb,rfl⟩)
    simpa using this
end
def adv(ρ0:Nat->AV)(rs:List Rec)(j:Nat):Nat->AV:=acc ρ0 (fun i=>(rs[i]?.map (·.cg.dst)).getD []) (fun _=>true) j
section
variable {P:Program} {C:dY->Prop} {ops:List Oper} {n:Nat} {g:dY}
theorem AW(H7:C g){F:Fence}(hF:iO F){lo:Nat}(dN:g.m<=lo){ρ0:Nat->AV}{κ0:Nat->az}{rs:List Rec}{Q:Exit->Act->World->Prop}(Cf:uo ops rs=true)(hlen:rs.length=ops.length)
 (bK:∀i r o,rs[i]?=some r->ops[i]?=some o->r.rows=j6 (acc ρ0 (fun i=>(rs[i]?.map (·.cg.dst)).getD []) (fun _=>true) i) (acc κ0 (fun i=>(rs[i]?.map (·.cg.box)).getD []) (fun _=>true) i) o/\Te P C ops n lo o (acc ρ0 (fun i=>(rs[i]?.map (·.cg.dst)).getD []) (fun _=>true) i) (acc κ0 (fun i=>(rs[i]?.map (·.cg.box)).getD []) (fun _=>true) i) r.cg)
 (hQ:∀a w,St g n (acc ρ0 (fun i=>(rs[i]?.map (·.cg.dst)).getD []) (fun _=>true) ops.length) (acc κ0 (fun i=>(rs[i]?.map (·.cg.box)).getD []) (fun _=>true) ops.length) a w->Q .normal a w):
 ∀(fuel:Nat) (listed:Array Bool) (a:Act) (w:World),listed.size=ops.length->uv (fun i=>listed.getD i false) ops.length<=fuel->
  (∀i o,ops[i]?=some o->listed.getD i false=true->∀d,d∈wE o->listed.getD d false=true)->
  St g n (acc ρ0 (fun i=>(rs[i]?.map (·.cg.dst)).getD []) (fun i=>listed.getD i false) ops.length) (acc κ0 (fun i=>(rs[i]?.map (·.cg.box)).getD []) (fun i=>listed.getD i false) ops.length) a w->
  wpAnyIn F 0 P .any ops.toArray Q fuel listed a w:=by
 simp only[uo,aep]at Cf
 obtain⟨VE,Cf⟩:=Cf
 have Zt:∀(q:Nat) (o:Oper),ops[q]?=some o->∀d,d∈wE o->d<ops.length:=fun q o ho d hd=>by
  have h1:=rE VE ho d hd
  have h2:=(adP.1 ho).1
  omega
 have done:∀(listed:Array Bool) (a:Act) (w:World),(∀i,i<ops.length->listed.getD i false=true)->
  St g n (acc ρ0 (fun i=>(rs[i]?.map (·.cg.dst)).getD []) (fun i=>listed.getD i false) ops.length) (acc κ0 (fun i=>(rs[i]?.map (·.cg.box)).getD []) (fun i=>listed.getD i false) ops.length) a w->Q .normal a w:=by
  intro listed a w hl hs
  refine hQ a w ?_
  have e1:∀t,acc ρ0 (fun i=>(rs[i]?.map (·.cg.dst)).getD []) (fun i=>listed.getD i false) ops.length t=acc ρ0 (fun i=>(rs[i]?.map (·.cg.dst)).getD []) (fun _=>true) ops.length t:=
   fun t=>wZ fun i hi he=>by rw[hl i hi]at he;cases he
  have e2:∀t,acc κ0 (fun i=>(rs[i]?.map (·.cg.box)).getD []) (fun i=>listed.getD i false) ops.length t=acc κ0 (fun i=>(rs[i]?.map (·.cg.box)).getD []) (fun _=>true) ops.length t:=
   fun t=>wZ fun i hi he=>by rw[hl i hi]at he;cases he
  rw[<-funext e1,<-funext e2]
  exact hs
 have stuck:∀(listed:Array Bool),listed.size=ops.length->Region.ready .any ops.toArray listed=[]->∀i,i<ops.length->listed.getD i false=true:=by
  intro listed cb hr i
  induction i using Nat.strongRecOn with
  |_ i ih=>
   intro hi
   cases hl:listed.getD i false with
   |true=>rfl
   |false=>
    have ho:ops[i]?=some (ops[i]'hi):=ace hi
    have:i∈Region.ready .any ops.toArray listed:=(mem_ready cb).2 ⟨_,ho,hl,fun d hd=>ih d (by have:=rE VE ho d hd;omega) (Zt i _ ho d hd)⟩
    rw[hr]at this;cases this
 intro fuel
 induction fuel with
 |zero=>
  intro listed a w cb hc vC hs
  have hl:=AU (E:=fun i=>listed.getD i false) (m:=ops.length) (by omega)
  refine⟨?_,done listed a w hl hs⟩
  refine List.eq_nil_iff_forall_not_mem.2 fun i hi=>?_
  obtain⟨o,ho,h1,_⟩:=(mem_ready cb).1 hi
  have:listed.getD i false=true:=hl i (adP.1 ho).1
  rw[h1]at this;cases this
 |succ fuel ih=>
  intro listed a w cb hc vC hs
  refine⟨fun hr=>done listed a w (stuck listed cb hr) hs,fun j hj=>?_⟩
  obtain⟨o,ho,Zu,aaa⟩:=(mem_ready cb).1 hj
  have Cg:j<ops.length:=(adP.1 ho).1
  have Zv:rs[j]?=some (rs[j]'(by omega)):=ace (by omega)
  obtain⟨aab,xD⟩:=bK j _ o Zv ho
  have apart:∀(i:Nat) (x:Rec) (ox:Oper),rs[i]?=some x->ops[i]?=some ox->i≠j->(i<j/\listed.getD i false=false\/j<i/\listed.getD i false=true)->mr ops x (rs[j]'(by omega)) o=true/\mr ops (rs[j]'(by omega)) x ox=true:=by
   intro i x ox hx EM c6 EO
   rcases EO with⟨ay,Zw⟩|⟨ay,Zw⟩
   ·have h1:=kY Cf Zv ho
    rw[Nat.zero_add]at h1
    rcases nL h1 hx EM (by omega)with hr|hr
    ·rw[Nat.zero_add]at hr
     have:listed.getD i false=true:=rF (E:=fun i=>listed.getD i false) vC ho hr aaa (Zt j o ho) Zt
     rw[Zw]at this;cases this
    ·exact hr
   ·have h1:=kY Cf hx EM
    rw[Nat.zero_add]at h1
    rcases nL h1 Zv ho (by omega)with hr|hr
    ·rw[Nat.zero_add]at hr
     have:listed.getD j false=true:=rF (E:=fun i=>listed.getD i false) vC EM hr (vC i ox EM Zw) (Zt i ox EM) Zt
     rw[Zu]at this;cases this
    ·exact⟨hr.2,hr.1⟩
  have AY:∀i,i<ops.length->∃x ox,rs[i]?=some x/\ops[i]?=some ox:=fun i hi=>⟨_,_,ace (by omega),ace hi⟩
  have Oo:∀t,(∀(x:Rec) (ox:Oper),mr ops x (rs[j]'(by omega)) o=true->t∉keys x.cg.dst)->acc ρ0 (fun i=>(rs[i]?.map (·.cg.dst)).getD []) (fun i=>listed.getD i false) ops.length t=acc ρ0 (fun i=>(rs[i]?.map (·.cg.dst)).getD []) (fun _=>true) j t:=by
   intro t ht
   refine EJ (by omega) (fun i hi he=>?_) (fun i hji hi he=>?_)
   ·obtain⟨x,ox,hx,EM⟩:=AY i (by omega)
    simp only[hx,Option.map_some,Option.getD_some]
    exact ht x ox (apart i x ox hx EM (by omega) (.inl ⟨hi,he⟩)).1
   ·rcases Nat.lt_or_eq_of_le hji with ay|rfl
    ·obtain⟨x,ox,hx,EM⟩:=AY i hi
     simp only[hx,Option.map_some,Option.getD_some]
     exact ht x ox (apart i x ox hx EM (by omega) (.inr ⟨ay,he⟩)).1
    ·rw[Zu]at he;cases he
  have Ci:∀t,(∀(x:Rec) (ox:Oper),mr ops x (rs[j]'(by omega)) o=true->t∉keys x.cg.box)->acc κ0 (fun i=>(rs[i]?.map (·.cg.box)).getD []) (fun i=>listed.getD i false) ops.length t=acc κ0 (fun i=>(rs[i]?.map (·.cg.box)).getD []) (fun _=>true) j t:=by
   intro t ht
   refine EJ (by omega) (fun i hi he=>?_) (fun i hji hi he=>?_)
   ·obtain⟨x,ox,hx,EM⟩:=AY i (by omega)
    simp only[hx,Option.map_some,Option.getD_some]
    exact ht x ox (apart i x ox hx EM (by omega) (.inl ⟨hi,he⟩)).1
   ·rcases Nat.lt_or_eq_of_le hji with ay|rfl
    ·obtain⟨x,ox,hx,EM⟩:=AY i hi
     simp only[hx,Option.map_some,Option.getD_some]
     exact ht x ox (apart i x ox hx EM (by omega) (.inr ⟨ay,he⟩)).1
    ·rw[Zu]at he;cases he
  have Zx:∀{x y:Rec} {oy:Oper},mr ops x y oy=true->uh (sI x.cg.dst) (oy.looksAt ops.toArray)=true/\uh (sI x.cg.dst) (sI y.cg.dst)=true/\uh (jM x.cg.box) y.rows=true/\uh (jM x.cg.box) y.cg.reads=true/\uh (jM x.cg.box) (jM y.cg.box)=true:=by
   intro x y oy h
   simp only[mr,aep]at h
   exact⟨h.1.1.1.1,h.1.1.1.2,h.1.1.2,h.1.2,h.2⟩
  have aA:Es ops o (acc ρ0 (fun i=>(rs[i]?.map (·.cg.dst)).getD []) (fun _=>true) j) (acc ρ0 (fun i=>(rs[i]?.map (·.cg.dst)).getD []) (fun i=>listed.getD i false) ops.length)
   (acc κ0 (fun i=>(rs[i]?.map (·.cg.box)).getD []) (fun _=>true) j) (acc κ0 (fun i=>(rs[i]?.map (·.cg.box)).getD []) (fun i=>listed.getD i false) ops.length) (rs[j]'(by omega)).cg.reads (rs[j]'(by omega)).cg.box:=by
   refine⟨fun t ht=>Oo t fun x ox h hm=>?_,fun i hi=>Ci i fun x ox h hm=>?_,fun i hi=>Ci i fun x ox h hm=>?_,fun i b hb=>Ci i fun x ox h hm=>?_⟩
   ·exact js (Zx h).1 t (by rw[xH];exact hm) ht
   ·exact js (Zx h).2.2.1 i (by rw[mP];exact hm) (by rw[aab];exact hi)
   ·exact js (Zx h).2.2.2.1 i (by rw[mP];exact hm) hi
   ·exact js (Zx h).2.2.2.2 i (by rw[mP];exact hm) (by rw[mP];exact aeg.2 ⟨(i,b),hb,rfl⟩)
  have bH:=xD F hF _ _ aA g a w ⟨dN,H7⟩ hs
  have kZ:(fun i=>(listed.setIfInBounds j true).getD i false)=rC (fun i=>listed.getD i false) j:=by
   funext i
   simp only[rC,adZ]
   by_cases e:i=j
   ·subst e;simp[cb,Cg]
   ·rw[if_neg e,Array.getElem?_setIfInBounds_ne (fun h=>e h.symm)]
  have next:∀a' w',St g n (aF (acc ρ0 (fun i=>(rs[i]?.map (·.cg.dst)).getD []) (fun i=>listed.getD i false) ops.length) (rs[j]'(by omega)).cg.dst) (aF (acc κ0 (fun i=>(rs[i]?.map (·.cg.box)).getD []) (fun i=>listed.getD i false) ops.length) (rs[j]'(by omega)).cg.box) a' w'->
   wpAnyIn F 0 P .any ops.toArray Q fuel (listed.setIfInBounds j true) a' w':=by
   intro a' w' gB
   refine ih _ a' w' (by simp[cb]) ?_ ?_ ?_
   ·rw[kZ]
    have:=EK (E:=fun i=>listed.getD i false) Zu Cg
    omega
   ·have aac:∀i,(listed.setIfInBounds j true).getD i false=rC (fun i=>listed.getD i false) j i:=fun i=>congrFun kZ i
    intro i o' ny hi d hd
    rw[aac]at hi⊢
    have up:listed.getD d false=true->rC (fun i=>listed.getD i false) j d=true:=fun h=>by
     by_cases e:d=j
     ·subst e;exact AT _ _
     ·rw[nJ _ e];exact h
    by_cases e:i=j
    ·subst e
     rw[ho]at ny;injection ny with ny;subst ny
     exact up (aaa d hd)
    ·rw[nJ _ e]at hi
     exact up (vC i o' ny hi d hd)
   ·rw[kZ]
    rw[Ce (f:=ρ0) Zu Cg (fun i h1 h2 h3 t ht=>?_),Ce (f:=κ0) Zu Cg (fun i h1 h2 h3 t ht=>?_)]
    ·simpa[Zv]using gB
    ·obtain⟨x,ox,hx,EM⟩:=AY i h2
     simp only[Zv,hx,Option.map_some,Option.getD_some]at ht⊢
     have h5:=js (Zx (apart i x ox hx EM (by omega) (.inr ⟨h1,h3⟩)).2).2.2.2.2 t (by rw[mP];exact ht)
     rwa[mP]at h5
    ·obtain⟨x,ox,hx,EM⟩:=AY i h2
     simp only[Zv,hx,Option.map_some,Option.getD_some]at ht⊢
     have h5:=js (Zx (apart i x ox hx EM (by omega) (.inr ⟨h1,h3⟩)).2).2.1 t (by rw[xH];exact ht)
     rwa[xH]at h5
  unfold wpOpIn
  rw[show ops.toArray[j]?=some o by simpa using ho]
  unfold nI at bH
  simp only
  split at bH
  ·rename_i hw;rw[if_pos hw];exact xA next bH
  ·rename_i hw;rw[if_neg hw];exact⟨fun f _=>hF.fn f,next _ _ bH⟩
end
end
section
open Go.RowKit
variable [cq]
def az.gX:az->Bool
 |.none=>true
 |_=>false
theorem LR{b:az}(h:b.gX=true):b=.none:=by grind [az.gX]
def qS(m:Nat)(h:Nat->Nat->List PS->Option Value)(i V E v e:Nat):List PS->Option Value
 |[]=>if v=(jD m i V E).1/\e=0 then h V 0 []else if i<m/\v=0/\e=0 then h 0 0 []else none
 |s::q=>if v=(jD m i V E).1/\e=(jD m i V E).2 then h V E (s::q)else if i<m/\v=0/\e=0 then h 0 0 (s::q)else none
def EP(v e:Nat)(p:List PS):Option Value:=match v,e,p with
 |0,0,[]=>some (.slice none 0 0)
 |_,_,_=>none
def xJ(m:Nat)(κ κ':Nat->az)(H:Nat->Nat->Nat->List PS->Option Value)(i v e:Nat)(p:List PS):Option Value:=
 match(κ' i).gX with
 |true=>none
 |false=>match κ i with
  |.tree V E _=>qS m (H i) i V E v e p
  |.fz V _=>qS m (H i) i V 0 v e p
  |.held=>qS m (H i) i 0 0 v e p
  |.none=>EP v e p
  |_=>if i<m/\v=0/\e=0 then H i 0 0 p else none
def reβ(κ':Nat->az)(β:Nat->Option Nat)(i:Nat):Option Nat:=match(κ' i).gX with
 |true=>none
 |false=>β i
def dW(m:Nat)(κ κ':Nat->az)(G:Gh):Gh:={ G with β:=reβ κ' G.β,H:=xJ m κ κ' G.H }
theorem Tg(m i V E E':Nat):(jD m i V E).1=(jD m i V E').1:=by
 unfold jD
 grind
theorem ER{m i V E:Nat}(hi:i<m)(h:(jD m i V E).1=0):V=0/\((jD m i V E).2=0->E=0):=by
 unfold jD at*
 have hb:Nat.blt i m=true:=by simp_all
 grind
theorem Cj{m i V E:Nat}(hi:¬i<m):jD m i V E=(0,0):=by
 unfold jD
 grind [Nat.blt,Nat.blt_eq,absurd]
theorem k6(m:Nat)(h:Nat->Nat->List PS->Option Value)(i V E:Nat)(s:PS)(q:List PS):qS m h i V E (jD m i V E).1 0 []=h V 0 []/\qS m h i V E (jD m i V E).1 (jD m i V E).2 (s::q)=h V E (s::q):=by
 simp[qS]
theorem xK{m:Nat}{h:Nat->Nat->List PS->Option Value}{i V E:Nat}(hi:i<m)(p:List PS):qS m h i V E 0 0 p=h 0 0 p:=by
 cases p with
 |nil=>
  simp[qS]
  split
  ·grind [ER]
  grind
 |cons s q=>
  simp[qS]
  split
  ·grind [ER]
  grind
theorem Ck{m:Nat}{h:Nat->Nat->List PS->Option Value}{i V E v:Nat}(hv:(jD m i V E).1<v)(e:Nat)(p:List PS):qS m h i V E v e p=none:=by
 cases p with
 |nil=>simp[qS];grind
 |cons s q=>simp[qS];grind
theorem Ki{m:Nat}{h:Nat->Nat->List PS->Option Value}{i V E e:Nat}(hv:(jD m i V E).2<e)(p:List PS):qS m h i V E (jD m i V E).1 e p=none:=by
 cases p with
 |nil=>simp[qS];grind
 |cons s q=>simp[qS];grind
section
variable {m:Nat} {κ κ':Nat->az} {G:Gh} {w:World}
theorem o9{H:Nat->Nat->Nat->List PS->Option Value}{i V E:Nat}{d:DV}(hk:κ i=.tree V E d)(hn:(κ' i).gX=false)(p:List PS):aV (xJ m κ κ' H) i (jD m i V E).1 (jD m i V E).2 p=aV H i V E p:=by
 cases p with
 |nil=>simp[aV,xJ,hn,hk];exact(k6 m _ i V E (.el 0 0) []).1
 |cons s q=>simp_all [aV,xJ,k6]
theorem Cl(m i:Nat):jD m i 0 0=(0,0):=by
 grind [jD,Nat.blt]
theorem xL{H:Nat->Nat->Nat->List PS->Option Value}{i:Nat}(hk:κ i=.held)(hn:(κ' i).gX=false):aV (xJ m κ κ' H) i 0 0=aV H i 0 0:=by
 have e:=Cl m i
 funext p
 cases p with
 |nil=>
  simp[aV,xJ,hk]
  have:=(k6 m (H i) i 0 0 (.el 0 0) []).1
  grind
 |cons s q=>
  simp[aV,xJ,hk]
  have:=(k6 m (H i) i 0 0 s q).2
  grind
theorem ES{a b:az}(h:match a,b with| .held,.held=>True|_,_=>False):a=.held/\b=.held:=by
 grind
theorem Th{v:AV}{i ver ep:Nat}{p:List PS}(h:j8 m κ v=.own i ver ep p):(∃V E e d,v=.own i V e p/\κ i=.tree V E d/\(p=[]\/e=E)/\ver=(jD m i V E).1/\ep=(jD m i V E).2)\/∃e,v=.own i 0 e p/\κ i=.held/\(p=[]\/e=0)/\ver=0/\ep=0:=by
 cases v with
 |own j V e q=>
  simp[j8]at h
  split at h
  ·rename_i V' E' d hk
   cases hb:Nat.beq V V'&&(emp q||Nat.beq e E')with
   |false=>grind
   |true=>
    rw[hb]at h
    obtain⟨rfl,hc⟩:=dz hb
    simp[cond_true,AV.own.injEq]at h
    obtain⟨rfl,h1,h2,rfl⟩:=h
    grind
  ·cases hb:Nat.beq V 0&&(emp q||Nat.beq e 0)with
   |false=>grind
   |true=>
    rw[hb]at h
    obtain⟨rfl,hc⟩:=dz hb
    grind
  grind
 |loc j V e q a b c=>
  grind [j8,Nat.beq,emp]
 |pre j V e q a b c=>
  grind [j8,Nat.beq,emp]
 |cz j V=>
  grind [j8,Nat.beq]
 |_=>simp[j8]at h
theorem Oq{v:AV}{i ver:Nat}(h:j8 m κ v=.cz i ver):∃V E d,v=.cz i V/\κ i=.tree V E d/\ver=(jD m i V E).1:=by
 cases v with
 |cz j V=>
  simp[j8]at h
  split at h
  ·rename_i V' E' d hk
   cases hb:Nat.beq V V' with
   |false=>grind
   |true=>
    rw[hb]at h
    have:=adS hb
    grind
  grind
 |own j V e q=>
  grind [j8,Nat.beq,emp]
 |loc j V e q a b c=>
  grind [j8,Nat.beq,emp]
 |pre j V e q a b c=>
  grind [j8,Nat.beq,emp]
 |_=>simp[j8]at h
theorem Ti{v:AV}{i ver ep a b c:Nat}{p:List PS}(h:j8 m κ v=.loc i ver ep p a b c):∃V E e d,v=.loc i V e p a b c/\κ i=.tree V E d/\(p=[]\/e=E)/\ver=(jD m i V E).1/\ep=(jD m i V E).2:=by
 cases v with
 |loc j V e q a b c=>
  simp[j8]at h
  split at h
  ·rename_i V' E' d hk
   cases hb:Nat.beq V V'&&(emp q||Nat.beq e E')with
   |false=>grind
   |true=>
    rw[hb]at h
    obtain⟨rfl,hc⟩:=dz hb
    simp[cond_true,AV.loc.injEq]at h
    obtain⟨rfl,h1,h2,rfl,rfl,rfl,rfl⟩:=h
    grind
  grind
 |pre j V e q a b c=>
  grind [j8,Nat.beq,emp]
 |own j V e q=>
  grind [j8,Nat.beq,emp]
 |cz j V=>
  grind [j8,Nat.beq]
 |_=>simp[j8]at h
theorem Tj{v:AV}{i ver ep a b c:Nat}{p:List PS}(h:j8 m κ v=.pre i ver ep p a b c):∃V E e d,v=.pre i V e p a b c/\κ i=.tree V E d/\(p=[]\/e=E)/\ver=(jD m i V E).1/\ep=(jD m i V E).2:=by
 cases v with
 |pre j V e q a b c=>
  simp[j8]at h
  split at h
  ·rename_i V' E' d hk
   cases hb:Nat.beq V V'&&(emp q||Nat.beq e E')with
   |false=>grind
   |true=>
    rw[hb]at h
    obtain⟨rfl,hc⟩:=dz hb
    simp[cond_true,AV.pre.injEq]at h
    obtain⟨rfl,h1,h2,rfl,rfl,rfl,rfl⟩:=h
    grind
  grind
 |loc j V e q a b c=>
  grind [j8,Nat.beq,emp]
 |own j V e q=>
  grind [j8,Nat.beq,emp]
 |cz j V=>
  grind [j8,Nat.beq]
 |_=>simp[j8]at h
theorem Cm{b:az}(h:b.Ot=true):b.gX=false:=by cases b<;>simp[az.Ot]at h<;>rfl
theorem Cn{b:az}{v e:Nat}(h:b.Zy v e=true):b.gX=false:=by cases b<;>simp[az.Zy]at h<;>rfl
theorem sL:∀{l' l:List AV},dZ m κ κ' l' l->l'.length=l.length
 |[],[],_=>rfl
 |[],_::_,h=>by simp[dZ]at h
 |_::_,[],h=>by simp[dZ]at h
 |_::_,_::_,h=>by simp[dZ]at h;simp[sL h.2]
theorem pb{κc:Nat->az}{F:List Nat}{G1:Gh}(hle:Gh.Le G G1)(hβ:G1.β=G.β)(hH:G1.H=G.H)(Tk:∀i,i∈F->κc i=κ i)(lT:Fit G1 w (aF κc (mu κ F))):∀(N:Nat),
 (∀(u v:AV) (x:Value),SizeOf.sizeOf u<N->gE m κ κ' u v->AV.sc κ' u=true->(∀i,i∈xM κ u v->i∈F)->aI G v x->aI (dW m κ κ' G1) u x)/\
 (∀(us vs:List AV) (xs:List Value),SizeOf.sizeOf us<N->dZ m κ κ' us vs->AV.Kj κ' us=true->(∀i,i∈eb κ us vs->i∈F)->cC G vs xs->cC (dW m κ κ' G1) us xs):=by
 intro N
 induction N with
 |zero=>grind
 |succ N ih=>
  have B9:∀{i b:Nat},G.β i=some b->(κ' i).gX=false->(dW m κ κ' G1).β i=some b:=fun {i b} h hn=>by simp_all [dW,reβ]
  refine⟨fun u v x cb hs hc hF hv=>?_,fun us vs xs cb hs hc hF hr=>?_⟩
  ·cases u with
   |any=>exact .any _
   |dv d'=>
    simp[gE,aad]at hs
    split at hs
    ·rename_i d ids hd
     simp[xM,hd]at hF
     exact .dv (hs _ x (uw (G':=G1) hd hF Tk hle lT hv))
    grind
   |agg l'=>
    cases v with
    |agg l=>
     simp[gE]at hs
     simp[AV.sc]at hc
     simp[xM]at hF
     cases hv with|agg _ ys hl hr=>
     have:=ih.2 l' l ys (by grind) hs hc hF ⟨hl,hr⟩
     exact .agg l' ys this.1 this.2
    |_=>simp[gE]at hs
   |gm l'=>
    cases v with
    |gm l=>
     simp[gE]at hs
     simp[AV.sc]at hc
     simp[xM]at hF
     cases hv with|gm _ ys hl hr=>
     have:=ih.2 l' l ys (by grind) hs hc hF ⟨hl,hr⟩
     exact .gm l' ys this.1 this.2
    |_=>simp[gE]at hs
   |fn f' l'=>
    cases v with
    |fn f l=>
     simp[gE]at hs
     simp[AV.sc]at hc
     simp[xM]at hF
     obtain⟨rfl,hs⟩:=hs
     cases hv with|fn _ _ ys hl hr=>
     have:=ih.2 l' l ys (by grind) hs hc hF ⟨hl,hr⟩
     exact .fn f l' ys this.1 this.2
    |_=>simp[gE]at hs
   |ko f' l'=>
    cases v with
    |ko f l=>
     simp[gE]at hs
     simp[AV.sc]at hc
     simp[xM]at hF
     obtain⟨rfl,hs⟩:=hs
     cases hv with|ko _ _ ys hl hr=>
     have:=ih.2 l' l ys (by grind) hs hc hF ⟨hl,hr⟩
     exact .ko f l' ys this.1 this.2
    |_=>simp[gE]at hs
   |ptr i off=>
    simp[gE]at hs
    simp only[AV.sc]at hc
    subst hs
    cases hv with|ptr _ _ b hb=>exact .ptr i off b (B9 hb (Cm hc))
   |fa i=>
    simp only[gE]at hs
    simp[AV.sc]at hc
    subst hs
    cases hv with|fa _ l hb=>exact .fa i l (B9 hb (Cm hc))
   |sle i k=>
    simp[gE]at hs
    simp[AV.sc]at hc
    subst hs
    cases hv with|sle _ _ b hb=>exact .sle i k b (B9 hb (Cm hc))
   |own i ver ep p=>
    simp[gE]at hs
    simp[AV.sc]at hc
    have fy:=Cn hc
    unfold H9 at hs
    split at hs
    ·obtain⟨rfl,rfl,rfl,hb,sz,fp⟩:=hs
     cases hv with|dv hv=>cases hv with|aw=>
     refine .own i 0 0 [] _ ?_ rfl
     simp_all [aV,dW,xJ,EP]
    ·rcases Th hs with⟨V,E,e,d,NW,hk,fm,rfl,rfl⟩|⟨e,NW,hk,fm,rfl,rfl⟩
     ·have hv:=AZ hv
      rw[NW]at hv
      cases hv with|own _ _ _ _ _ hh mw=>
      refine .own i _ _ p x ?_ mw
      grind [cV,dW,o9]
     ·have hv:=AZ hv
      rw[NW]at hv
      cases hv with|own _ _ _ _ _ hh mw=>
      refine .own i _ _ p x ?_ mw
      rw[cV fm]at hh
      simp_all [dW,xL]
   |loc i ver ep p a b c=>
    simp[gE]at hs
    simp[AV.sc]at hc
    have fy:=Cn hc
    obtain⟨V,E,e,d,rfl,hk,fm,rfl,rfl⟩:=Ti hs
    cases hv with
    |loc _ _ _ _ _ _ _ A q q' hh=>
     refine .loc i _ _ p a b c A q q' ?_
     grind [cV,dW,o9]
    |qQ _ _ _ _ _ _ _ A hh=>
     refine .qQ i _ _ p a b c A ?_
     grind [cV,dW,o9]
   |pre i ver ep p a b c=>
    simp[gE]at hs
    simp[AV.sc]at hc
    obtain⟨V,E,e,d,rfl,hk,fm,rfl,rfl⟩:=Tj hs
    cases hv with
    |pre _ _ _ _ _ _ _ q q' hh=>
     refine .pre i _ _ p a b c q q' fun hn=>?_
     grind [cV,dW,o9,Cn]
   |cz i ver=>
    simp[gE]at hs
    simp[AV.sc]at hc
    obtain⟨V,E,d,rfl,hk,rfl⟩:=Oq hs
    cases hv with|cz _ _ A q hh=>
    refine .cz i _ A q ?_
    have:=o9 (m:=m) (H:=G1.H) hk (Cn hc) []
    simp_all [aV,dW]
   |opt g u=>simp[AV.sc]at hc
  ·cases us with
   |nil=>
    cases vs with
    |nil=>exact⟨hr.1,by simp⟩
    |cons=>simp[dZ]at hs
   |cons u us=>
    cases vs with
    |nil=>simp[dZ]at hs
    |cons v vs=>
     simp[dZ]at hs
     simp[AV.Kj,aep]at hc
     simp[eb]at hF
     match xs,hr with
     |[],hr=>have:=hr.1;grind
     |x::xs,hr=>
      have h2:=ih.2 us vs xs (by grind) hs.2 hc.2 (fun i hi=>hF i (by grind)) ⟨by simpa using hr.1,fun q e y he hy=>hr.2 (q+1) e y (by grind) (by grind)⟩
      refine⟨by simp[h2.1],fun j d y hd hy=>?_⟩
      cases j with
      |zero=>simp at hd hy;subst hd;subst hy;exact(ih.1 u v x (by grind) hs.1 hc.1 (fun i hi=>hF i (by grind)) (hr.2 0 v x rfl rfl))
      |succ j=>exact h2.2 j d y (by simpa using hd) (by simpa using hy)
theorem xN:∀{F:List Nat},Ak κ' F=true->∀i,i∈F->∀v e d,κ' i≠.tree v e d
 |[],_,i,hi,_,_,_=>by grind
 |j::F,h,i,hi,v,e,d=>by
  simp[Ak,aep]at h
  rcases adV.1 hi with rfl|hi
  ·grind
  ·exact xN h.2 i hi v e d
def ET(m:Nat)(κ κ':Nat->az)(F:List Nat)(i:Nat):Prop:=oQ m κ κ' i (κ i) (κ' i)/\(κ' i).Zz κ'=true/\∀j,j∈vD κ i (κ i) (κ' i)->j∈F
theorem VF{κc:Nat->az}{F:List Nat}{G1:Gh}(hf:Fit G w κc)(hle:Gh.Le G G1)(hβ:G1.β=G.β)(hH:G1.H=G.H)(hX:G1.X=G.X)(Tk:∀i,i∈F->κc i=κ i)(aae:∀i,(κ' i).gX=false->κc i=κ i)(lT:Fit G1 w (aF κc (mu κ F)))(eC:Ak κ' F=true)(hs:∀i,ET m κ κ' F i):
 Fit (dW m κ κ' G1) w κ'/\∀i b,cD (dW m κ κ' G1) i (κ' i) b->cD G1 i (aF κc (mu κ F) i) b:=by
 have lM:∀j,(κ' j).gX=false->aF κc (mu κ F) j=if j∈F then(κ j).fb else κ j:=fun j hj=>by grind [pc]
 have jL:∀i b,cD (dW m κ κ' G1) i (κ' i) b->cD G1 i (aF κc (mu κ F) i) b:=by
  intro i b ho
  obtain⟨hx,Ia,kl⟩:=hs i
  cases iM:κ' i with
  |none=>rw[iM]at ho;exact ho.elim
  |dead=>rw[iM]at ho;exact ho.elim
  |fz=>rw[iM]at ho;exact ho.elim
  |cells l'=>
   rw[iM]at ho hx
   cases hk:κ i with
   |cells l=>
    simp_all [az.fb,cD,dW,reβ,az.gX]
   |_=>rw[hk]at hx;exact hx.elim
  |tree v e d'=>
   rw[iM]at ho hx
   cases hk:κ i with
   |tree V E d=>
    rw[hk]at hx
    simp only[oQ]at hx
    obtain⟨hx,rfl⟩:=hx
    have fF:aF κc (mu κ F) i=.tree V E d:=by rw[lM i (by rw[iM];rfl),if_neg (fun hi=>xN eC i hi _ _ _ iM),hk]
    rw[fF]
    have e1:v=(jD m i V E).1:=by grind
    have e2:e=(jD m i V E).2:=by grind
    subst e1;subst e2
    obtain⟨p,nd,u,h1,h2,h3,h4⟩:=ho
    simp only[dW]at h3
    rw[o9 hk (by rw[iM];rfl)]at h3
    exact⟨p,nd,u,h1,h2,h3,h4⟩
   |none=>
    rw[hk]at hx
    simp only[oQ]at hx
    obtain⟨rfl,rfl,sz,rfl⟩:=hx
    obtain⟨p,nd,u,h1,h2,h3,h4⟩:=ho
    cases p with
    |nil=>
     simp only[aV,dW,xJ,iM,az.gX,hk,EP,Option.some.injEq]at h3
     grind [cR]
    |cons s p=>cases s<;>simp[get,step]at h1
   |_=>rw[hk]at hx;exact hx.elim
  |dw rc st l'=>
   rw[iM]at ho hx
   cases hk:κ i with
   |dw rc0 st0 l=>
    simp_all [aF,mu,az.fb,cD,dW,reβ,az.gX]
   |_=>rw[hk]at hx;exact hx.elim
  |held=>rw[iM]at ho;exact ho.elim
  |lL j' p' d' Ou Tl=>
   rw[iM]at ho hx
   cases hk:κ i with
   |lL j p d left cur=>
    rw[hk]at hx
    simp only[oQ]at hx
    obtain⟨rfl,rfl,rfl,rfl,_,hh⟩:=hx
    obtain⟨e1,e2⟩:=ES hh
    simp_all [aF,mu,az.fb,cD,dW,reβ,az.gX,xL]
   |_=>rw[hk]at hx;exact hx.elim
 refine⟨⟨lT.sub,fun i=>?_,fun i b ho=>lT.own i b (jL i b ho),fun i j b ho ny=>lT.inj i j b (jL i b ho) (jL j b ny)⟩,jL⟩
 obtain⟨hx,Ia,kl⟩:=hs i
 have jE:=lT.box i
 cases iM:κ' i with
 |none=>exact⟨by simp[dW,reβ,iM,az.gX],fun v e p=>by simp[dW,xJ,iM,az.gX]⟩
 |dead=>trivial
 |cells l'=>
  rw[iM]at hx Ia kl
  cases hk:κ i with
  |cells l=>
   rw[hk]at hx kl
   simp only[oQ]at hx
   simp only[vD]at kl
   simp only[az.Zz,aep]at Ia
   have hb:=hf.box i
   rw[aae i (by rw[iM];rfl),hk]at hb
   obtain⟨b,c,t,qT,hw,cb,oq,hr⟩:=hb
   refine⟨b,c,t,by simp_all [dW,reβ,az.gX],hw,by grind [sL],fX Ia.2,fun j d v hd hv=>?_⟩
   have:=(pb hle hβ hH Tk lT (SizeOf.sizeOf l'+1)).2 l' l c.toList (by omega) hx Ia.1 kl ⟨by grind,fun j d v hd hv=>hr j d v hd (by grind)⟩
   exact this.2 j d v hd (by grind)
  |_=>rw[hk]at hx;exact hx.elim
 |tree v e d'=>
  rw[iM]at hx
  cases hk:κ i with
  |tree V E d=>
   rw[hk]at hx
   simp only[oQ]at hx
   obtain⟨hx,rfl⟩:=hx
   rw[lM i (by rw[iM];rfl),if_neg (fun hi=>xN eC i hi _ _ _ iM),hk]at jE
   have e1:v=(jD m i V E).1:=by grind
   have e2:e=(jD m i V E).2:=by grind
   subst e1;subst e2
   have fy:(κ' i).gX=false:=by rw[iM];rfl
   have VG:aV (dW m κ κ' G1).H i (jD m i V E).1 (jD m i V E).2=aV G1.H i V E:=funext fun p=>by grind [dW,o9]
   refine⟨?_,?_,fun v hv e p=>?_,fun e he p=>?_⟩
   ·rw[VG];exact jE.1
   ·rw[VG];exact jE.2.1
   ·simp only[dW,xJ,fy,hk];exact Ck hv e p
   ·simp only[dW,xJ,fy,hk];exact Ki he p
  |none=>
   rw[hk]at hx
   simp only[oQ]at hx
   obtain⟨rfl,rfl,sz,rfl⟩:=hx
   have fy:(κ' i).gX=false:=by rw[iM];rfl
   have h0:aV (dW m κ κ' G1).H i 0 0 []=some (.slice none 0 0):=by simp_all [aV,dW,xJ,EP]
   refine⟨⟨rfl,fun p nd hp hn=>?_⟩,?_,fun v hv e p=>?_,fun e he p=>?_⟩
   ·cases p with
    |nil=>
     simp only[get,Option.some.injEq]at hp
     subst hp
     exact⟨_,h0,rfl,.inl ⟨rfl,rfl⟩⟩
    |cons s p=>cases s<;>simp[get,step]at hp
   ·intro p q nd md u v b h1 h2 h3 h4 h5 h6 h7 h8
    cases p with
    |nil=>grind [cR]
    |cons s p=>cases s<;>simp[get,step]at h1
   ·simp only[dW,xJ,fy,hk]
    cases v with
    |zero=>omega
    |succ v=>rfl
   ·simp only[dW,xJ,fy,hk]
    cases e with
    |zero=>omega
    |succ e=>rfl
  |_=>rw[hk]at hx;exact hx.elim
 |fz v d'=>
  rw[iM]at hx kl
  have fy:(κ' i).gX=false:=by rw[iM];rfl
  cases hk:κ i with
  |tree V E d=>
   rw[hk]at hx kl
   simp only[oQ]at hx
   obtain⟨rfl,hx⟩:=hx
   rw[lM i fy,if_pos (kl i (by simp[vD])),hk]at jE
   obtain⟨u,h1,h2,h3⟩:=jE
   refine⟨u,?_,h2,hx _ _ h3⟩
   simp only[dW,xJ,fy,hk]
   rwa[Tg m i V 0 E,(k6 m (G1.H i) i V E (.el 0 0) []).1]
  |fz V d=>
   rw[hk]at hx
   simp only[oQ]at hx
   obtain⟨rfl,hx⟩:=hx
   have fF:aF κc (mu κ F) i=.fz V d:=by grind [az.fb]
   rw[fF]at jE
   obtain⟨u,h1,h2,h3⟩:=jE
   refine⟨u,?_,h2,hx _ _ h3⟩
   simp only[dW,xJ,fy,hk]
   rwa[(k6 m (G1.H i) i V 0 (.el 0 0) []).1]
  |_=>rw[hk]at hx;exact hx.elim
 |dw rc st l'=>
  rw[iM]at hx Ia kl
  cases hk:κ i with
  |dw rc0 st0 l=>
   rw[hk]at hx kl
   simp only[oQ]at hx
   simp only[vD]at kl
   simp only[az.Zz]at Ia
   obtain⟨rfl,rfl,hx⟩:=hx
   have hb:=hf.box i
   rw[aae i (by rw[iM];rfl),hk]at hb
   obtain⟨b,fn,tmps,D,qT,hw,hr⟩:=hb
   exact⟨b,fn,tmps,D,by simp_all [dW,reβ,az.gX],hw,(pb hle hβ hH Tk lT (SizeOf.sizeOf l'+1)).2 l' l tmps.toList (by omega) hx Ia kl hr⟩
  |_=>rw[hk]at hx;exact hx.elim
 |held=>
  rw[iM]at hx
  cases hk:κ i with
  |held=>
   have fy:(κ' i).gX=false:=by rw[iM];rfl
   refine⟨fun v hv e p=>?_,fun e he p=>?_⟩
   ·simp_all [dW,xJ,Ck,Cl]
   ·simp only[dW,xJ,fy,hk]
    have:=Ki (m:=m) (h:=G1.H i) (i:=i) (by rwa[Cl]) p
    grind [Cl]
  |_=>rw[hk]at hx;exact hx.elim
 |lL j' p' d' Ou Tl=>
  rw[iM]at hx
  cases hk:κ i with
  |lL j p d left cur=>
   rw[hk]at hx
   simp only[oQ]at hx
   obtain⟨rfl,rfl,rfl,rfl,hc,hh⟩:=hx
   obtain⟨e1,e2⟩:=ES hh
   have fy:(κ' i).gX=false:=by rw[iM];rfl
   rw[lM i fy,hk]at jE
   simp only[az.fb,ite_self]at jE
   obtain⟨r,mb,es,clock,seen,ks,mm,hi⟩:=jE
   have VG:aV (dW m κ κ' G1).H j 0 0=aV G1.H j 0 0:=xL e1 (by rw[e2];rfl)
   refine⟨r,mb,es,clock,seen,ks,mm,by simp only[dW,reβ,fy];exact hi.fE,hi.it,by rw[VG];exact hi.tree,by rw[VG];exact hi.inj,hi.node,by rw[VG];exact hi.head,hi.map,hi.left,?_⟩
   rcases hc with rfl|rfl
   ·trivial
   ·exact hi.cur
  |_=>rw[hk]at hx;exact hx.elim
end
end
end Go.TM
