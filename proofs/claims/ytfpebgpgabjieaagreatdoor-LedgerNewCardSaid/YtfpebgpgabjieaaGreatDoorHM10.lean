import Derived.Test.YtfpebgpgabjieaaGreatDoorHM9
import Derived.Orders
set_option linter.all false
namespace Go.TM
section
open Go.RowKit
variable [cy]
def G9:Op->Bool
 |.buildSlice _ _ _=>true
 |.call c=>match c.callee with
  |.builtin .append=>true
  |_=>false
 |_=>false
def wI(o:Oper):Oper:={ o with guard:=none }
def Ha(P:Program)(T:List TI)(ops:List Oper)(n:Nat)(o:Oper)(nx:Nat)(ρ:Nat->AV)(κ:Nat->ax)(k:lK->Nat->Prop):Prop:=
 match o.guard with
 |none=>qe P T ops n o nx ρ κ k
 |some _=>bif G9 o.op then qe P T ops n o nx ρ κ k\/(match cn ρ ops o.guard with
  |some g=>(g=false/\bj n o g nx k .any [])\/(g=true/\qe P T ops n (wI o) nx ρ κ k)
  |none=>False)
  else qe P T ops n o nx ρ κ k
def WH(P:Program)(T:List TI)(ops:List Oper)(n:Nat):List Oper->Nat->Env->ae->(Nat->Env->ae->Prop)->Prop
 |[],nx,env,K,k=>k nx env K
 |o::rest,nx,env,K,k=>Ha P T ops n o nx (look env) (aa K) fun cr fA=>Ap cr.dst env fun nA=>Aq cr.box K fun K'=>WH P T ops n rest fA nA K' k
structure Rec where
 rows:List Nat
 cr:lK
def Js:Op->Bool
 |.call c=>match c.callee with
  |.value (.tmp _)=>true
  |_=>false
 |_=>false
def jO:List (Nat×ax)->List Nat
 |[]=>[]
 |p::r=>p.1::jO r
def Jt(κ:Nat->ax)(rd:List Nat):List (Nat×ax)->(List (Nat×ax)->Prop)->Prop
 |[],k=>k []
 |(i,b)::r,k=>((iM i rd&& !iM i (jO r))=true/\κ i=b/\Jt κ rd r k)\/Jt κ rd r fun r=>k ((i,b)::r)
def NT(ops:List Oper)(o:Oper)(κ:Nat->ax)(cr:lK)(k:lK->Prop):Prop:=
 bif Js o.op&&Nat.ble 16 ops.length then k cr\/Jt κ cr.reads cr.box fun bx=>k { cr with box:=bx }else k cr
def NU(P:Program)(T:List TI)(ops:List Oper)(n:Nat):List Oper->Nat->Env->ae->List Rec->(Nat->Env->ae->List Rec->Prop)->Prop
 |[],nx,env,K,acc,k=>k nx env K acc
 |o::rest,nx,env,K,acc,k=>Ha P T ops n o nx (look env) (aa K) fun cr fA=>NT ops o (aa K) cr fun cr=>Ap cr.dst env fun nA=>Aq cr.box K fun K'=>NU P T ops n rest fA nA K' (acc++[⟨ke (look env) (aa K) o,cr⟩]) k
def tX:List Nat->List Nat->Bool
 |[],_=>true
 |x::r,l=>!iM x l&&tX r l
def sA:List (Nat×AV)->List Nat
 |[]=>[]
 |p::r=>p.1::sA r
def l8(ops:List Oper)(x y:Rec)(oy:Oper):Bool:=
 tX (sA x.cr.dst) (oy.looksAt ops.toArray)&&tX (sA x.cr.dst) (sA y.cr.dst)&&
 tX (jO x.cr.box) y.rows&&tX (jO x.cr.box) y.cr.reads&&tX (jO x.cr.box) (jO y.cr.box)
def wg(o:Oper):List Nat:=o.after.toList.filterMap fun e=>bif Region.binds .any e then some e.on else none
def tY(ops:List Oper):Nat->Nat->Nat->Bool
 |0,_,_=>false
 |f+1,i,j=>match ops[j]? with
  |some o=>(wg o).any fun d=>Nat.beq d i||tY ops f i d
  |none=>false
def BM:Nat->List Oper->Bool
 |_,[]=>true
 |i,o::r=>(wg o).all (fun d=>Nat.blt d i)&&BM (i+1) r
def sB(ops:List Oper)(rs:List Rec)(j:Nat)(y:Rec)(oy:Oper):Nat->List Rec->List Oper->Bool
 |i,x::xr,ox::or=>(bif Nat.blt i j then tY ops ops.length i j||(l8 ops x y oy&&l8 ops y x ox)else true)&&sB ops rs j y oy (i+1) xr or
 |_,_,_=>true
def qf(ops:List Oper)(rs:List Rec):Nat->List Rec->List Oper->Bool
 |j,y::yr,oy::or=>sB ops rs j y oy 0 rs ops&&qf ops rs (j+1) yr or
 |_,_,_=>true
def tZ(ops:List Oper)(rs:List Rec):Bool:=BM 0 ops&&qf ops rs 0 rs ops
def BN(g:eb)(n nx:Nat)(env:Env)(K:ae)(a:Act)(w:World):Prop:=St g n (look env) (aa K) a w/\g.m<=nx/\∀i,nx<=i->aa K i=.none
theorem xh{F:Fence}{m:Nat}{P:Program}{o:Oper}{a:Act}{w:World}{K K':Act->World->Prop}{Q:Exit->Act->World->Prop}(h:∀a w,K a w->K' a w)(hh:o.wpIn F m P a w K (fun _ _ _=>False)):o.wpIn F m P a w K' Q:=by
 refine⟨hh.1,?_⟩
 have hh:=hh.2
 generalize (o.semAt F.round a.eval).run P w=r at*
 cases r with
 |ok x w'=>
  cases x<;>simp[Oper.uponIn]at hh⊢<;>
   first
    |grind
    |exact⟨hh.1,CallsIn.mono hh.2 (fun e w'' he=>by cases e<;>first|grind|grind|(obtain⟨_,_,hf⟩:=he;grind))⟩
    |exact⟨hh.1,RowsIn.mono hh.2 (fun _ _ he=>h _ _ he)⟩
    |exact⟨hh.1,RoundIn.mono hh.2 (fun e w'' he=>by cases e<;>first|grind|grind|(obtain⟨_,_,hf⟩:=he;grind))⟩
    |exact hh.elim
 |halt x w'=>cases x<;>simp[Oper.uponIn]at hh⊢<;>exact hh.elim
def dT(P:Program)(C:eb->Prop):Prop:=∀(ops:List Oper) (n:Nat) (o:Oper) (nx:Nat) (ρ:Nat->AV) (κ:Nat->ax) (k:lK->Nat->Prop),(∀i,nx<=i->κ i=.none)->Ju P C ops n o nx ρ κ k
section
variable {P:Program} {C:eb->Prop} {T:List TI} {ops:List Oper} {n:Nat} {g:eb}
theorem BO{o:Oper}{nx:Nat}{ρ:Nat->AV}{κ:Nat->ax}{k:lK->Nat->Prop}(hg:cn ρ ops o.guard=some true)(h:Good P C ops n (wI o) nx ρ κ k):Good P C ops n o nx ρ κ k:=by
 obtain⟨cr,fA,h1,h2,h3,h4⟩:=h
 refine⟨cr,fA,h1,h2,h3,fun F hF ρ' κ' aA g a w dS aq=>?_⟩
 have hs:∀t,t∈(wI o).looksAt ops.toArray->ρ' t=ρ t:=fun t ht=>aA.cx t (by
  unfold Oper.looksAt wI at ht
  simp only[List.append_nil]at ht
  exact List.mem_append_left _ ht)
 have hr:=h4 F hF ρ' κ' ⟨hs,aA.rows,aA.reads,aA.boxes⟩ g a w dS aq
 obtain⟨G,jP⟩:=aq
 unfold nC at hr⊢
 rw[if_pos (cF hg aA.cx jP)]
 assumption
theorem rk(hT:fB P T){o:Oper}{nx:Nat}{ρ:Nat->AV}{κ:Nat->ax}{k:lK->Nat->Prop}(hn:∀i,nx<=i->κ i=.none)(hR:dT P C)(h:Ha P T ops n o nx ρ κ k):Good P C ops n o nx ρ κ k:=by
 have D1:qe P T ops n o nx ρ κ k->Good P C ops n o nx ρ κ k:=ua hT hn (hR _ _ _ _ _ _ _ hn)
 unfold Ha at h
 split at h
 ·grind
 ·cases hh:G9 o.op with
  |false=>grind
  |true=>
   rw[hh]at h
   rcases h with h|h
   ·grind
   ·split at h
    ·rename_i g hg
     rcases h with⟨hf,h⟩|⟨hf,h⟩
     ·grind [bu,G9]
     ·subst hf
      exact BO hg (ua hT hn (hR _ _ _ _ _ _ _ hn) h)
    grind
theorem kW{nx fA:Nat}{K:ae}{bx:List (Nat×ax)}(hn:∀i,nx<=i->aa K i=.none)(hle:nx<=fA)(hb:∀p,p∈bx->p.1<fA):∀i,fA<=i->aa (xi bx K) i=.none:=by
 intro i hi
 rw[fY]
 have key:∀(l:List _),(∀p,p∈l->p.1<fA)->aF (aa K) l i=.none:=by
  intro l
  induction l with
  |nil=>intro _;exact hn i (by omega)
  |cons p r ih=>
   intro hl
   obtain⟨j,b⟩:=p
   have:=hl (j,b) (by simp)
   simp[aF]
   grind [ah]
 grind
theorem qg{o:Oper}{rest:List Oper}{a:Act}{w:World}{K:Act->World->Prop}{Q:Exit->Act->World->Prop}{F:Fence}(hF:iN F)(h:nC P F ops.toArray o a w K)(hk:∀a w,K a w->wpListIn F 0 P ops.toArray Q rest a w):wpListIn F 0 P ops.toArray Q (o::rest) a w:=by
 unfold nC at h
 simp[wpListIn]
 split at h
 ·rename_i hw;rw[if_pos hw];exact xh hk h
 ·rename_i hw;rw[if_neg hw];exact⟨fun f _=>hF.fn f,hk _ _ h⟩
theorem xj(hT:fB P T)(hR:dT P C)(Hb:C g){F:Fence}(hF:iN F){Q:Exit->Act->World->Prop}{k:Nat->Env->ae->Prop}(hQ:∀nx env K a w,k nx env K->BN g n nx env K a w->Q .normal a w):
 ∀(rest:List Oper) (nx:Nat) (env:Env) (K:ae) (a:Act) (w:World),WH P T ops n rest nx env K k->BN g n nx env K a w->wpListIn F 0 P ops.toArray Q rest a w
 |[],nx,env,K,a,w,h,hs=>hQ nx env K a w h hs
 |o::rest,nx,env,K,a,w,h,⟨hs,dS,hn⟩=>by
  obtain⟨cr,fA,hk,hle,hb,xk⟩:=rk hT hn hR h
  rw[xl,xm]at hk
  refine qg hF (xk F hF _ _ ⟨fun _ _=>rfl,fun _ _=>rfl,fun _ _=>rfl,fun _ _ _=>rfl⟩ g a w ⟨dS,Hb⟩ hs) fun a' w' gH=>?_
  refine xj hT hR Hb hF hQ rest fA _ _ a' w' hk ⟨?_,Nat.le_trans dS hle,kW hn hle hb⟩
  rwa[kM,fY]
def acc{γ:Type _}(f:Nat->γ)(wr:Nat->List (Nat×γ))(E:Nat->Bool):Nat->Nat->γ
 |0=>f
 |m+1=>if E m then aF (acc f wr E m) (wr m)else acc f wr E m
def keys{γ:Type _}(l:List (Nat×γ)):List Nat:=l.map (·.1)
theorem jv{γ:Type _}(f:Nat->γ):∀{l:List (Nat×γ)} {t:Nat},t∉keys l->aF f l t=f t
 |[],t,_=>rfl
 |(i,x)::r,t,h=>by
  simp only[keys,List.map_cons,adp,not_or]at h
  simp[aF]
  rw[ah _ _ h.1]
  exact jv f h.2
theorem BP{γ:Type _}(f f':Nat->γ):∀{l:List (Nat×γ)} {t:Nat},t∈keys l->aF f l t=aF f' l t
 |[],t,h=>by simp[keys]at h
 |(i,x)::r,t,h=>by
  simp[aF]
  by_cases e:t=i
  ·subst e;simp
  ·rw[ah _ _ e,ah _ _ e]
   simp only[keys,List.map_cons,adp,e,false_or]at h
   exact BP f f' h
section
variable {γ:Type _} {f:Nat->γ} {wr:Nat->List (Nat×γ)} {E:Nat->Bool}
theorem wJ{t:Nat}:∀{j:Nat},(∀i,i<j->E i=false->t∉keys (wr i))->acc f wr E j t=acc f wr (fun _=>true) j t
 |0,_=>rfl
 |j+1,h=>by
  have ih:=wJ (j:=j) fun i hi=>h i (by omega)
  simp[acc,if_true]
  cases he:E j with
  |true=>
   simp[if_true]
   grind [keys,BP,jv]
  |false=>
   simp_all [jv]
theorem Ee{t j:Nat}:∀{m:Nat},(∀i,j<=i->i<j+m->E i=true->t∉keys (wr i))->acc f wr E (j+m) t=acc f wr E j t
 |0,_=>rfl
 |m+1,h=>by
  have ih:=Ee (m:=m) fun i h1 h2=>h i h1 (by omega)
  simp[acc]
  cases he:E _ with
  |true=>simp_all [jv]
  |false=>grind
theorem Ef{t j len:Nat}(hj:j<=len)(h1:∀i,i<j->E i=false->t∉keys (wr i))(h2:∀i,j<=i->i<len->E i=true->t∉keys (wr i)):acc f wr E len t=acc f wr (fun _=>true) j t:=by
 obtain⟨m,rfl⟩:∃m,len=j+m:=⟨len-j,by omega⟩
 rw[Ee h2,wJ h1]
def rl(E:Nat->Bool)(j:Nat):Nat->Bool:=fun i=>if i=j then true else E i
theorem BQ{j:Nat}(hj:E j=false):∀{len:Nat},j<len->(∀i,j<i->i<len->E i=true->∀t,t∈keys (wr j)->t∉keys (wr i))->acc f wr (rl E j) len=aF (acc f wr E len) (wr j)
 |0,h,_=>by omega
 |len+1,h,hd=>by
  rcases adC j len with aB|jw
  ·have ih:=BQ hj aB fun i h1 h2=>hd i h1 (by omega)
   have dw:len≠j:=by omega
   simp[acc,rl,if_neg dw]
   cases he:E len with
   |false=>grind
   |true=>
    simp[if_true]
    rw[ih]
    grind [keys,jv,BP,aF,acc]
  ·have:j=len:=by omega
   subst this
   have low:∀m,m<=j->acc f wr (rl E j) m=acc f wr E m:=by
    intro m
    induction m with
    |zero=>intro _;rfl
    |succ m ih=>
     intro hm
     simp[acc,rl,if_neg _]
     grind
   simp_all [acc,rl,adM]
end
theorem S4.lo{lo lo':Nat}{o:Oper}{ρ:Nat->AV}{κ:Nat->ax}{cr:lK}(h:S4 P C ops n lo' o ρ κ cr)(hl:lo<=lo'):S4 P C ops n lo o ρ κ cr:=
 fun F hF ρ' κ' aA g a w hg hs=>h F hF ρ' κ' aA g a w ⟨Nat.le_trans hg.1 hl,hg.2⟩ hs
theorem sC{γ:Type _}(f:Nat->γ)(wr wr':Nat->List (Nat×γ))(m:Nat):(∀i,i<m->wr' i=wr i)->acc f wr' (fun _=>true) m=acc f wr (fun _=>true) m:=by
 induction m with
 |zero=>intro _;rfl
 |succ m ih=>intro hh;simp[acc,if_true];grind
theorem rn{κ:Nat->ax}{rd:List Nat}:∀{bx:List (Nat×ax)} {k:List (Nat×ax)->Prop},Jt κ rd bx k->∃S5,k S5/\(∀p,p∈S5->p∈bx)/\(∀p,p∈bx->p∈S5\/p.1∈rd)/\∀κ':Nat->ax,(∀i,i∈rd->κ' i=κ i)->aF κ' S5=aF κ' bx
 |[],k,h=>⟨[],h,fun _ h=>h,fun _ h=>.inl h,fun _ _=>rfl⟩
 |(i,b)::r,k,h=>by
  rcases h with⟨h1,h2,h⟩|h
  ·obtain⟨S5,hk,ha,hb,hc⟩:=rn h
   simp[adT,adV]at h1
   refine⟨S5,hk,fun p hp=>adq _ (ha p hp),fun p hp=>?_,fun κ' hκ=>?_⟩
   ·rcases adp.1 hp with rfl|hp
    ·grind [mB]
    grind
   ·rw[hc κ' hκ]
    funext j
    by_cases e:j=i
    ·subst e
     have S6:∀(l:List _),jO l=keys l:=fun l=>by
      induction l with
      |nil=>rfl
      |cons p r ih=>simp[jO,keys,ih]
     simp_all [jv,fm,aF,mB]
    simp_all [aF,ah]
  ·obtain⟨S5,hk,ha,hb,hc⟩:=rn h
   refine⟨(i,b)::S5,hk,fun p hp=>?_,fun p hp=>?_,fun κ' hκ=>?_⟩
   ·grind
   ·grind
   grind [aF]
theorem Hc{o:Oper}{nx:Nat}{ρ:Nat->AV}{κ:Nat->ax}{k:lK->Nat->Prop}(h:Good P C ops n o nx ρ κ fun cr fA=>NT ops o κ cr fun cr=>k cr fA):Good P C ops n o nx ρ κ k:=by
 obtain⟨cr,fA,h1,h2,h3,h4⟩:=h
 unfold NT at h1
 cases hd:Js o.op&&Nat.ble 16 ops.length with
 |false=>rw[hd]at h1;exact⟨cr,fA,h1,h2,h3,h4⟩
 |true=>
  rw[hd]at h1
  rcases h1 with h1|h1
  ·exact⟨cr,fA,h1,h2,h3,h4⟩
  ·obtain⟨S5,hk,ha,hb,hc⟩:=rn h1
   refine⟨_,fA,hk,h2,fun p hp=>h3 p (ha p hp),fun F hF ρ' κ' aA g a w dS aq=>?_⟩
   have hr:=h4 F hF ρ' κ' ⟨aA.cx,aA.rows,aA.reads,fun i b hib=>?_⟩ g a w dS aq
   ·simp
    rwa[hc κ' aA.reads]
   ·rcases hb _ hib with h|h
    ·exact aA.boxes i b h
    ·exact aA.reads i h
theorem vf(hT:fB P T)(hR:dT P C){k:Nat->Env->ae->List Rec->Prop}{ρ0:Nat->AV}{κ0:Nat->ax}{lo:Nat}:
 ∀(rest done:List Oper) (nx:Nat) (env:Env) (K:ae) (rs:List Rec),ops=done++rest->rs.length=done.length->lo<=nx->
  (∀i,nx<=i->aa K i=.none)->
  look env=acc ρ0 (fun i=>(rs[i]?.map (·.cr.dst)).getD []) (fun _=>true) done.length->aa K=acc κ0 (fun i=>(rs[i]?.map (·.cr.box)).getD []) (fun _=>true) done.length->
  (∀i r o,rs[i]?=some r->ops[i]?=some o->r.rows=ke (acc ρ0 (fun i=>(rs[i]?.map (·.cr.dst)).getD []) (fun _=>true) i) (acc κ0 (fun i=>(rs[i]?.map (·.cr.box)).getD []) (fun _=>true) i) o/\S4 P C ops n lo o (acc ρ0 (fun i=>(rs[i]?.map (·.cr.dst)).getD []) (fun _=>true) i) (acc κ0 (fun i=>(rs[i]?.map (·.cr.box)).getD []) (fun _=>true) i) r.cr)->
  NU P T ops n rest nx env K rs k->
  ∃fA nA K' wh,k fA nA K' wh/\wh.length=ops.length/\lo<=fA/\(∀i,fA<=i->aa K' i=.none)/\
   look nA=acc ρ0 (fun i=>(wh[i]?.map (·.cr.dst)).getD []) (fun _=>true) ops.length/\aa K'=acc κ0 (fun i=>(wh[i]?.map (·.cr.box)).getD []) (fun _=>true) ops.length/\
   ∀i r o,wh[i]?=some r->ops[i]?=some o->r.rows=ke (acc ρ0 (fun i=>(wh[i]?.map (·.cr.dst)).getD []) (fun _=>true) i) (acc κ0 (fun i=>(wh[i]?.map (·.cr.box)).getD []) (fun _=>true) i) o/\S4 P C ops n lo o (acc ρ0 (fun i=>(wh[i]?.map (·.cr.dst)).getD []) (fun _=>true) i) (acc κ0 (fun i=>(wh[i]?.map (·.cr.box)).getD []) (fun _=>true) i) r.cr
 |[],done,nx,env,K,rs,K5,hlen,oJ,hn,he,hk,bO,h=>by
  have:done.length=ops.length:=by grind
  exact⟨nx,env,K,rs,h,by omega,oJ,hn,by grind,by grind,bO⟩
 |o::rest,done,nx,env,K,rs,K5,hlen,oJ,hn,he,hk,bO,h=>by
  obtain⟨cr,fA,iL,hle,hb,xk⟩:=Hc (rk hT hn hR h)
  rw[xl,xm]at iL
  have ub:∀i,i<rs.length->(rs++[⟨ke (look env) (aa K) o,cr⟩])[i]?=rs[i]?:=fun i hi=>List.getElem?_append_left hi
  have xp:(rs++[(⟨ke (look env) (aa K) o,cr⟩)])[done.length]?=some ⟨ke (look env) (aa K) o,cr⟩:=by grind
  have ku:∀m,m<=done.length->acc ρ0 (fun i=>((rs++[(⟨ke (look env) (aa K) o,cr⟩)])[i]?.map (·.cr.dst)).getD []) (fun _=>true) m=acc ρ0 (fun i=>(rs[i]?.map (·.cr.dst)).getD []) (fun _=>true) m:=
   fun m hm=>sC _ _ _ m fun i hi=>by grind
  have lH:∀m,m<=done.length->acc κ0 (fun i=>((rs++[(⟨ke (look env) (aa K) o,cr⟩)])[i]?.map (·.cr.box)).getD []) (fun _=>true) m=acc κ0 (fun i=>(rs[i]?.map (·.cr.box)).getD []) (fun _=>true) m:=
   fun m hm=>sC _ _ _ m fun i hi=>by grind
  refine vf hT hR rest (done++[o]) fA _ _ _ (by rw[K5];simp) (by simp[hlen]) (Nat.le_trans oJ hle) (kW hn hle hb) ?_ ?_ ?_ iL
  ·rw[kM,adv]
   simp[List.length_cons,List.length_nil,acc,if_true]
   rw[ku _ (adM _),xp,<-he];rfl
  ·rw[fY,adv]
   simp[List.length_cons,List.length_nil,acc,if_true]
   rw[lH _ (adM _),xp,<-hk];rfl
  ·intro i r o' hr nj
   rcases adC i rs.length with aB|jw
   ·rw[ub i aB]at hr
    rw[ku i (by omega),lH i (by omega)]
    exact bO i r o' hr nj
   ·have hi:i=done.length:=by
     have:=(adj.1 hr).1
     simp at this;omega
    subst hi
    rw[xp]at hr
    injection hr with hr
    subst hr
    rw[K5]at nj
    simp at nj
    subst nj
    rw[ku _ (adM _),lH _ (adM _),<-he,<-hk]
    exact⟨rfl,xk.lo oJ⟩
end
end
section
open Go.RowKit
variable [cy]
theorem jx:∀{l r:List Nat},tX l r=true->∀x,x∈l->x∉r
 |[],r,_,x,h=>by simp at h
 |y::l,r,h,x,hx=>by
  simp only[tX,adT,adV]at h
  rcases adp.1 hx with rfl|hx
  ·exact fm h.1
  ·exact jx h.2 x hx
theorem xq(l:List (Nat×AV)):sA l=keys l:=by
 induction l with
 |nil=>rfl
 |cons p r ih=>simp[sA,keys,ih]
theorem mC(l:List (Nat×ax)):jO l=keys l:=by
 induction l with
 |nil=>rfl
 |cons p r ih=>simp[jO,keys,ih]
def uc(E:Nat->Bool):Nat->Nat
 |0=>0
 |m+1=>(if E m then 0 else 1)+uc E m
theorem Ar(E:Nat->Bool)(j:Nat):rl E j j=true:=by simp[rl]
theorem nD(E:Nat->Bool){i j:Nat}(h:i≠j):rl E j i=E i:=by simp[rl,h]
theorem Eg{E:Nat->Bool}{j:Nat}(hj:E j=false):∀{m:Nat},j<m->uc (rl E j) m+1=uc E m
 |0,h=>by omega
 |m+1,h=>by
  rcases adC j m with aB|jw
  ·have ih:=Eg hj aB
   have e:=nD E (i:=m) (j:=j) (by omega)
   simp only[uc,e]
   omega
  ·have:j=m:=by omega
   subst this
   have low:∀q,q<=j->uc (rl E j) q=uc E q:=by
    intro q
    induction q with
    |zero=>intro _;rfl
    |succ q ih=>
     intro hq
     have e:=nD E (i:=q) (j:=j) (by omega)
     simp only[uc,e,ih (by omega)]
   have:=low j (adM _)
   simp only[uc,Ar,hj,if_true,Bool.false_eq_true,if_false]
   omega
theorem As{E:Nat->Bool}:∀{m:Nat},uc E m=0->∀i,i<m->E i=true
 |0,_,i,hi=>by omega
 |m+1,h,i,hi=>by
  simp only[uc]at h
  rcases adC i m with aB|jw
  ·exact As (by omega) i aB
  ·have:i=m:=by omega
   subst this
   cases he:E i with
   |true=>rfl
   |false=>simp[he]at h
section
variable {ops:List Oper}
theorem rp:∀{l:List Oper} {s:Nat},BM s l=true->∀{i:Nat} {o:Oper},l[i]?=some o->∀d,d∈wg o->d<s+i
 |[],s,_,i,o,h,_,_=>by simp at h
 |x::l,s,he,i,o,h,d,hd=>by
  simp only[BM,adT,adH]at he
  cases i with
  |zero=>simp at h;subst h;have:=he.1 d hd;rw[Nat.blt_eq]at this;omega
  |succ i=>have:=rp he.2 (i:=i) (by simpa using h) d hd;omega
theorem nE{rs:List Rec}{j:Nat}{y:Rec}{oy:Oper}:∀{xr:List Rec} {xo:List Oper} {s:Nat},sB ops rs j y oy s xr xo=true->∀{i:Nat} {x:Rec} {ox:Oper},xr[i]?=some x->xo[i]?=some ox->s+i<j->
 tY ops ops.length (s+i) j=true\/(l8 ops x y oy=true/\l8 ops y x ox=true)
 |[],xo,s,_,i,x,ox,h,_,_=>by simp at h
 |_::_,[],s,_,i,x,ox,_,h,_=>by simp at h
 |a::xr,b::xo,s,hh,i,x,ox,h1,h2,aB=>by
  simp only[sB,adT]at hh
  cases i with
  |zero=>
   simp at h1 h2
   subst h1;subst h2
   have:=hh.1
   rw[show Nat.blt s j=true by rw[Nat.blt_eq];omega]at this
   simpa using this
  |succ i=>
   have:=nE hh.2 (i:=i) (by simpa using h1) (by simpa using h2) (by omega)
   rw[show s+(i+1)=s+1+i by omega];exact this
theorem kX{rs:List Rec}:∀{yr:List Rec} {yo:List Oper} {s:Nat},qf ops rs s yr yo=true->∀{j:Nat} {y:Rec} {oy:Oper},yr[j]?=some y->yo[j]?=some oy->
 sB ops rs (s+j) y oy 0 rs ops=true
 |[],yo,s,_,j,y,oy,h,_=>by simp at h
 |_::_,[],s,_,j,y,oy,_,h=>by simp at h
 |a::yr,b::yo,s,hh,j,y,oy,h1,h2=>by
  simp only[qf,adT]at hh
  cases j with
  |zero=>simp at h1 h2;subst h1;subst h2;exact hh.1
  |succ j=>
   have:=kX hh.2 (j:=j) (by simpa using h1) (by simpa using h2)
   rw[show s+(j+1)=s+1+j by omega];exact this
theorem Eh{o:Oper}{d:Nat}:d∈wg o↔∃e,e∈o.after.toList/\Region.binds .any e=true/\e.on=d:=by
 unfold wg
 rw[List.mem_filterMap]
 constructor
 ·rintro⟨e,he,h⟩
  cases hb:Region.binds .any e with
  |false=>rw[hb]at h;cases h
  |true=>rw[hb]at h;simp at h;exact⟨e,he,hb,h⟩
 ·rintro⟨e,he,hb,rfl⟩
  exact⟨e,he,by rw[hb];rfl⟩
theorem rq{E:Nat->Bool}(vg:∀i o,ops[i]?=some o->E i=true->∀d,d∈wg o->E d=true):∀{f i j:Nat} {o:Oper},ops[j]?=some o->tY ops f i j=true->(∀d,d∈wg o->E d=true)->(∀d,d∈wg o->d<ops.length)->(∀(q:Nat) (o:Oper),ops[q]?=some o->∀d,d∈wg o->d<ops.length)->E i=true
 |0,i,j,o,_,h,_,_,_=>by simp[tY]at h
 |f+1,i,j,o,ho,h,hd,hl,bO=>by
  simp only[tY,ho,List.any_eq_true,Bool.or_eq_true]at h
  obtain⟨d,hdm,h⟩:=h
  rcases h with h|h
  ·have:=adm h;subst this;exact hd d hdm
  ·have aB:=hl d hdm
   have hod:ops[d]?=some (ops[d]'aB):=abK aB
   exact rq vg hod h (vg d _ hod (hd d hdm)) (bO d _ hod) bO
theorem mem_ready{listed:Array Bool}{i:Nat}(ck:listed.size=ops.length):i∈Region.ready .any ops.toArray listed↔∃o,ops[i]?=some o/\listed.getD i false=false/\∀d,d∈wg o->listed.getD d false=true:=by
 unfold Region.ready
 rw[List.mem_filter,adL]
 constructor
 ·rintro⟨aB,h⟩
  have ru:i<ops.length:=by simpa using aB
  have ho:ops[i]?=some (ops[i]'ru):=abK ru
  refine⟨_,ho,?_,?_⟩
  ·simp only[adT,adV]at h
   have h1:=h.1
   simp only[adt]at h1⊢
   rw[adS (by omega)]at h1⊢
   simpa using h1
  ·intro d hd
   simp only[adT]at h
   have h2:=h.2
   rw[show ops.toArray[i]?=some (ops[i]'ru)by simp]at h2
   simp only[Option.map_some,Option.getD_some,Array.all_eq_true']at h2
   obtain⟨e,he,hb,rfl⟩:=Eh.1 hd
   have:=h2 e (by simpa using he)
   simpa[hb]using this
 ·rintro⟨o,ho,h1,h2⟩
  have aB:i<ops.length:=(adj.1 ho).1
  refine⟨by simpa using aB,?_⟩
  simp only[adT,adV]
  constructor
  ·simp only[adt]at h1⊢
   rw[adS (by omega)]at h1⊢
   simpa using h1
  ·rw[show ops.toArray[i]?=some o by simpa using ho]
   simp only[Option.map_some,Option.getD_some,Array.all_eq_true']
   intro e he
   cases hb:Region.binds .any e with
   |false=>rfl
   |true=>
    have:=h2 e.on (Eh.2 ⟨e,by simpa using he,hb,rfl⟩)
    simpa using this
end
def acY(ρ0:Nat->AV)(rs:List Rec)(j:Nat):Nat->AV:=acc ρ0 (fun i=>(rs[i]?.map (·.cr.dst)).getD []) (fun _=>true) j
section
variable {P:Program} {C:eb->Prop} {ops:List Oper} {n:Nat} {g:eb}
theorem Au(Hb:C g){F:Fence}(hF:iN F){lo:Nat}(dS:g.m<=lo){ρ0:Nat->AV}{κ0:Nat->ax}{rs:List Rec}{Q:Exit->Act->World->Prop}(BR:tZ ops rs=true)(hlen:rs.length=ops.length)
 (bO:∀i r o,rs[i]?=some r->ops[i]?=some o->r.rows=ke (acc ρ0 (fun i=>(rs[i]?.map (·.cr.dst)).getD []) (fun _=>true) i) (acc κ0 (fun i=>(rs[i]?.map (·.cr.box)).getD []) (fun _=>true) i) o/\S4 P C ops n lo o (acc ρ0 (fun i=>(rs[i]?.map (·.cr.dst)).getD []) (fun _=>true) i) (acc κ0 (fun i=>(rs[i]?.map (·.cr.box)).getD []) (fun _=>true) i) r.cr)
 (hQ:∀a w,St g n (acc ρ0 (fun i=>(rs[i]?.map (·.cr.dst)).getD []) (fun _=>true) ops.length) (acc κ0 (fun i=>(rs[i]?.map (·.cr.box)).getD []) (fun _=>true) ops.length) a w->Q .normal a w):
 ∀(fuel:Nat) (listed:Array Bool) (a:Act) (w:World),listed.size=ops.length->uc (fun i=>listed.getD i false) ops.length<=fuel->
  (∀i o,ops[i]?=some o->listed.getD i false=true->∀d,d∈wg o->listed.getD d false=true)->
  St g n (acc ρ0 (fun i=>(rs[i]?.map (·.cr.dst)).getD []) (fun i=>listed.getD i false) ops.length) (acc κ0 (fun i=>(rs[i]?.map (·.cr.box)).getD []) (fun i=>listed.getD i false) ops.length) a w->
  wpAnyIn F 0 P .any ops.toArray Q fuel listed a w:=by
 simp only[tZ,adT]at BR
 obtain⟨Vu,BR⟩:=BR
 have Y0:∀(q:Nat) (o:Oper),ops[q]?=some o->∀d,d∈wg o->d<ops.length:=fun q o ho d hd=>by
  have h1:=rp Vu ho d hd
  have h2:=(adj.1 ho).1
  omega
 have done:∀(listed:Array Bool) (a:Act) (w:World),(∀i,i<ops.length->listed.getD i false=true)->
  St g n (acc ρ0 (fun i=>(rs[i]?.map (·.cr.dst)).getD []) (fun i=>listed.getD i false) ops.length) (acc κ0 (fun i=>(rs[i]?.map (·.cr.box)).getD []) (fun i=>listed.getD i false) ops.length) a w->Q .normal a w:=by
  intro listed a w hl hs
  refine hQ a w ?_
  have e1:∀t,acc ρ0 (fun i=>(rs[i]?.map (·.cr.dst)).getD []) (fun i=>listed.getD i false) ops.length t=acc ρ0 (fun i=>(rs[i]?.map (·.cr.dst)).getD []) (fun _=>true) ops.length t:=
   fun t=>wJ fun i hi he=>by rw[hl i hi]at he;cases he
  have e2:∀t,acc κ0 (fun i=>(rs[i]?.map (·.cr.box)).getD []) (fun i=>listed.getD i false) ops.length t=acc κ0 (fun i=>(rs[i]?.map (·.cr.box)).getD []) (fun _=>true) ops.length t:=
   fun t=>wJ fun i hi he=>by rw[hl i hi]at he;cases he
  rw[<-funext e1,<-funext e2]
  exact hs
 have stuck:∀(listed:Array Bool),listed.size=ops.length->Region.ready .any ops.toArray listed=[]->∀i,i<ops.length->listed.getD i false=true:=by
  intro listed ck hr i
  induction i using Nat.strongRecOn with
  |_ i ih=>
   intro hi
   cases hl:listed.getD i false with
   |true=>rfl
   |false=>
    have ho:ops[i]?=some (ops[i]'hi):=abK hi
    have:i∈Region.ready .any ops.toArray listed:=(mem_ready ck).2 ⟨_,ho,hl,fun d hd=>ih d (by have:=rp Vu ho d hd;omega) (Y0 i _ ho d hd)⟩
    rw[hr]at this;cases this
 intro fuel
 induction fuel with
 |zero=>
  intro listed a w ck hc vg hs
  have hl:=As (E:=fun i=>listed.getD i false) (m:=ops.length) (by omega)
  refine⟨?_,done listed a w hl hs⟩
  refine List.eq_nil_iff_forall_not_mem.2 fun i hi=>?_
  obtain⟨o,ho,h1,_⟩:=(mem_ready ck).1 hi
  have:listed.getD i false=true:=hl i (adj.1 ho).1
  rw[h1]at this;cases this
 |succ fuel ih=>
  intro listed a w ck hc vg hs
  refine⟨fun hr=>done listed a w (stuck listed ck hr) hs,fun j hj=>?_⟩
  obtain⟨o,ho,Y1,Zx⟩:=(mem_ready ck).1 hj
  have BS:j<ops.length:=(adj.1 ho).1
  have Y2:rs[j]?=some (rs[j]'(by omega)):=abK (by omega)
  obtain⟨Zy,xk⟩:=bO j _ o Y2 ho
  have apart:∀(i:Nat) (x:Rec) (ox:Oper),rs[i]?=some x->ops[i]?=some ox->i≠j->(i<j/\listed.getD i false=false\/j<i/\listed.getD i false=true)->l8 ops x (rs[j]'(by omega)) o=true/\l8 ops (rs[j]'(by omega)) x ox=true:=by
   intro i x ox hx Ei dw NV
   rcases NV with⟨aB,hli⟩|⟨aB,hli⟩
   ·have h1:=kX BR Y2 ho
    rw[Nat.zero_add]at h1
    rcases nE h1 hx Ei (by omega)with hr|hr
    ·rw[Nat.zero_add]at hr
     have:listed.getD i false=true:=rq (E:=fun i=>listed.getD i false) vg ho hr Zx (Y0 j o ho) Y0
     rw[hli]at this;cases this
    ·exact hr
   ·have h1:=kX BR hx Ei
    rw[Nat.zero_add]at h1
    rcases nE h1 Y2 ho (by omega)with hr|hr
    ·rw[Nat.zero_add]at hr
     have:listed.getD j false=true:=rq (E:=fun i=>listed.getD i false) vg Ei hr (vg i ox Ei hli) (Y0 i ox Ei) Y0
     rw[Y1]at this;cases this
    ·exact⟨hr.2,hr.1⟩
  have Av:∀i,i<ops.length->∃x ox,rs[i]?=some x/\ops[i]?=some ox:=fun i hi=>⟨_,_,abK (by omega),abK hi⟩
  have NW:∀t,(∀(x:Rec) (ox:Oper),l8 ops x (rs[j]'(by omega)) o=true->t∉keys x.cr.dst)->acc ρ0 (fun i=>(rs[i]?.map (·.cr.dst)).getD []) (fun i=>listed.getD i false) ops.length t=acc ρ0 (fun i=>(rs[i]?.map (·.cr.dst)).getD []) (fun _=>true) j t:=by
   intro t ht
   refine Ef (by omega) (fun i hi he=>?_) (fun i hji hi he=>?_)
   ·obtain⟨x,ox,hx,Ei⟩:=Av i (by omega)
    simp only[hx,Option.map_some,Option.getD_some]
    exact ht x ox (apart i x ox hx Ei (by omega) (.inl ⟨hi,he⟩)).1
   ·rcases Nat.lt_or_eq_of_le hji with aB|rfl
    ·obtain⟨x,ox,hx,Ei⟩:=Av i hi
     simp only[hx,Option.map_some,Option.getD_some]
     exact ht x ox (apart i x ox hx Ei (by omega) (.inr ⟨aB,he⟩)).1
    ·rw[Y1]at he;cases he
  have BT:∀t,(∀(x:Rec) (ox:Oper),l8 ops x (rs[j]'(by omega)) o=true->t∉keys x.cr.box)->acc κ0 (fun i=>(rs[i]?.map (·.cr.box)).getD []) (fun i=>listed.getD i false) ops.length t=acc κ0 (fun i=>(rs[i]?.map (·.cr.box)).getD []) (fun _=>true) j t:=by
   intro t ht
   refine Ef (by omega) (fun i hi he=>?_) (fun i hji hi he=>?_)
   ·obtain⟨x,ox,hx,Ei⟩:=Av i (by omega)
    simp only[hx,Option.map_some,Option.getD_some]
    exact ht x ox (apart i x ox hx Ei (by omega) (.inl ⟨hi,he⟩)).1
   ·rcases Nat.lt_or_eq_of_le hji with aB|rfl
    ·obtain⟨x,ox,hx,Ei⟩:=Av i hi
     simp only[hx,Option.map_some,Option.getD_some]
     exact ht x ox (apart i x ox hx Ei (by omega) (.inr ⟨aB,he⟩)).1
    ·rw[Y1]at he;cases he
  have Y3:∀{x y:Rec} {oy:Oper},l8 ops x y oy=true->tX (sA x.cr.dst) (oy.looksAt ops.toArray)=true/\tX (sA x.cr.dst) (sA y.cr.dst)=true/\tX (jO x.cr.box) y.rows=true/\tX (jO x.cr.box) y.cr.reads=true/\tX (jO x.cr.box) (jO y.cr.box)=true:=by
   intro x y oy h
   simp only[l8,adT]at h
   exact⟨h.1.1.1.1,h.1.1.1.2,h.1.1.2,h.1.2,h.2⟩
  have aA:D2 ops o (acc ρ0 (fun i=>(rs[i]?.map (·.cr.dst)).getD []) (fun _=>true) j) (acc ρ0 (fun i=>(rs[i]?.map (·.cr.dst)).getD []) (fun i=>listed.getD i false) ops.length)
   (acc κ0 (fun i=>(rs[i]?.map (·.cr.box)).getD []) (fun _=>true) j) (acc κ0 (fun i=>(rs[i]?.map (·.cr.box)).getD []) (fun i=>listed.getD i false) ops.length) (rs[j]'(by omega)).cr.reads (rs[j]'(by omega)).cr.box:=by
   refine⟨fun t ht=>NW t fun x ox h hm=>?_,fun i hi=>BT i fun x ox h hm=>?_,fun i hi=>BT i fun x ox h hm=>?_,fun i b hb=>BT i fun x ox h hm=>?_⟩
   ·exact jx (Y3 h).1 t (by rw[xq];exact hm) ht
   ·exact jx (Y3 h).2.2.1 i (by rw[mC];exact hm) (by rw[Zy];exact hi)
   ·exact jx (Y3 h).2.2.2.1 i (by rw[mC];exact hm) hi
   ·exact jx (Y3 h).2.2.2.2 i (by rw[mC];exact hm) (by rw[mC];exact adK.2 ⟨(i,b),hb,rfl⟩)
  have bG:=xk F hF _ _ aA g a w ⟨dS,Hb⟩ hs
  have kY:(fun i=>(listed.setIfInBounds j true).getD i false)=rl (fun i=>listed.getD i false) j:=by
   funext i
   simp only[rl,adt]
   by_cases e:i=j
   ·subst e;simp[ck,BS]
   ·rw[if_neg e,Array.getElem?_setIfInBounds_ne (fun h=>e h.symm)]
  have next:∀a' w',St g n (aF (acc ρ0 (fun i=>(rs[i]?.map (·.cr.dst)).getD []) (fun i=>listed.getD i false) ops.length) (rs[j]'(by omega)).cr.dst) (aF (acc κ0 (fun i=>(rs[i]?.map (·.cr.box)).getD []) (fun i=>listed.getD i false) ops.length) (rs[j]'(by omega)).cr.box) a' w'->
   wpAnyIn F 0 P .any ops.toArray Q fuel (listed.setIfInBounds j true) a' w':=by
   intro a' w' gH
   refine ih _ a' w' (by simp[ck]) ?_ ?_ ?_
   ·rw[kY]
    have:=Eg (E:=fun i=>listed.getD i false) Y1 BS
    omega
   ·have Zz:∀i,(listed.setIfInBounds j true).getD i false=rl (fun i=>listed.getD i false) j i:=fun i=>congrFun kY i
    intro i o' nj hi d hd
    rw[Zz]at hi⊢
    have up:listed.getD d false=true->rl (fun i=>listed.getD i false) j d=true:=fun h=>by
     by_cases e:d=j
     ·subst e;exact Ar _ _
     ·rw[nD _ e];exact h
    by_cases e:i=j
    ·subst e
     rw[ho]at nj;injection nj with nj;subst nj
     exact up (Zx d hd)
    ·rw[nD _ e]at hi
     exact up (vg i o' nj hi d hd)
   ·rw[kY]
    rw[BQ (f:=ρ0) Y1 BS (fun i h1 h2 h3 t ht=>?_),BQ (f:=κ0) Y1 BS (fun i h1 h2 h3 t ht=>?_)]
    ·simpa[Y2]using gH
    ·obtain⟨x,ox,hx,Ei⟩:=Av i h2
     simp only[Y2,hx,Option.map_some,Option.getD_some]at ht⊢
     have h5:=jx (Y3 (apart i x ox hx Ei (by omega) (.inr ⟨h1,h3⟩)).2).2.2.2.2 t (by rw[mC];exact ht)
     rwa[mC]at h5
    ·obtain⟨x,ox,hx,Ei⟩:=Av i h2
     simp only[Y2,hx,Option.map_some,Option.getD_some]at ht⊢
     have h5:=jx (Y3 (apart i x ox hx Ei (by omega) (.inr ⟨h1,h3⟩)).2).2.1 t (by rw[xq];exact ht)
     rwa[xq]at h5
  unfold wpOpIn
  rw[show ops.toArray[j]?=some o by simpa using ho]
  unfold nC at bG
  simp only
  split at bG
  ·rename_i hw;rw[if_pos hw];exact xh next bG
  ·rename_i hw;rw[if_neg hw];exact⟨fun f _=>hF.fn f,next _ _ bG⟩
end
end
section
open Go.RowKit
variable [cy]
def ax.ic:ax->Bool
 |.none=>true
 |_=>false
theorem K6{b:ax}(h:b.ic=true):b=.none:=by grind [ax.ic]
def qI(m:Nat)(h:Nat->Nat->List PS->Option Value)(i V E v e:Nat):List PS->Option Value
 |[]=>if v=(jG m i V E).1/\e=0 then h V 0 []else if i<m/\v=0/\e=0 then h 0 0 []else none
 |s::q=>if v=(jG m i V E).1/\e=(jG m i V E).2 then h V E (s::q)else if i<m/\v=0/\e=0 then h 0 0 (s::q)else none
def Ej(v e:Nat)(p:List PS):Option Value:=match v,e,p with
 |0,0,[]=>some (.slice none 0 0)
 |_,_,_=>none
def xt(m:Nat)(κ κ':Nat->ax)(H:Nat->Nat->Nat->List PS->Option Value)(i v e:Nat)(p:List PS):Option Value:=
 match(κ' i).ic with
 |true=>none
 |false=>match κ i with
  |.tree V E _=>qI m (H i) i V E v e p
  |.fz V _=>qI m (H i) i V 0 v e p
  |.held=>qI m (H i) i 0 0 v e p
  |.none=>Ej v e p
  |_=>if i<m/\v=0/\e=0 then H i 0 0 p else none
def reβ(κ':Nat->ax)(β:Nat->Option Nat)(i:Nat):Option Nat:=match(κ' i).ic with
 |true=>none
 |false=>β i
def dZ(m:Nat)(κ κ':Nat->ax)(G:Gh):Gh:={ G with β:=reβ κ' G.β,H:=xt m κ κ' G.H }
theorem S7(m i V E E':Nat):(jG m i V E).1=(jG m i V E').1:=by
 unfold jG
 grind
theorem Ek{m i V E:Nat}(hi:i<m)(h:(jG m i V E).1=0):V=0/\((jG m i V E).2=0->E=0):=by
 unfold jG at*
 have hb:Nat.blt i m=true:=by simp_all
 grind
theorem BU{m i V E:Nat}(hi:¬i<m):jG m i V E=(0,0):=by
 unfold jG
 grind [Nat.blt,Nat.blt_eq,absurd]
theorem kZ(m:Nat)(h:Nat->Nat->List PS->Option Value)(i V E:Nat)(s:PS)(q:List PS):qI m h i V E (jG m i V E).1 0 []=h V 0 []/\qI m h i V E (jG m i V E).1 (jG m i V E).2 (s::q)=h V E (s::q):=by
 simp[qI]
theorem xu{m:Nat}{h:Nat->Nat->List PS->Option Value}{i V E:Nat}(hi:i<m)(p:List PS):qI m h i V E 0 0 p=h 0 0 p:=by
 cases p with
 |nil=>
  simp[qI]
  split
  ·grind [Ek]
  grind
 |cons s q=>
  simp[qI]
  split
  ·grind [Ek]
  grind
theorem BV{m:Nat}{h:Nat->Nat->List PS->Option Value}{i V E v:Nat}(hv:(jG m i V E).1<v)(e:Nat)(p:List PS):qI m h i V E v e p=none:=by
 cases p with
 |nil=>simp[qI];grind
 |cons s q=>simp[qI];grind
theorem Jv{m:Nat}{h:Nat->Nat->List PS->Option Value}{i V E e:Nat}(hv:(jG m i V E).2<e)(p:List PS):qI m h i V E (jG m i V E).1 e p=none:=by
 cases p with
 |nil=>simp[qI];grind
 |cons s q=>simp[qI];grind
section
variable {m:Nat} {κ κ':Nat->ax} {G:Gh} {w:World}
theorem oY{H:Nat->Nat->Nat->List PS->Option Value}{i V E:Nat}{d:DV}(hk:κ i=.tree V E d)(hn:(κ' i).ic=false)(p:List PS):aS (xt m κ κ' H) i (jG m i V E).1 (jG m i V E).2 p=aS H i V E p:=by
 cases p with
 |nil=>simp[aS,xt,hn,hk];exact(kZ m _ i V E (.el 0 0) []).1
 |cons s q=>simp_all [aS,xt,kZ]
theorem BW(m i:Nat):jG m i 0 0=(0,0):=by
 grind [jG,Nat.blt]
theorem xw{H:Nat->Nat->Nat->List PS->Option Value}{i:Nat}(hk:κ i=.held)(hn:(κ' i).ic=false):aS (xt m κ κ' H) i 0 0=aS H i 0 0:=by
 have e:=BW m i
 funext p
 cases p with
 |nil=>
  simp[aS,xt,hk]
  have:=(kZ m (H i) i 0 0 (.el 0 0) []).1
  grind
 |cons s q=>
  simp[aS,xt,hk]
  have:=(kZ m (H i) i 0 0 s q).2
  grind
theorem El{a b:ax}(h:match a,b with| .held,.held=>True|_,_=>False):a=.held/\b=.held:=by
 grind
theorem S8{v:AV}{i ver ep:Nat}{p:List PS}(h:kf m κ v=.own i ver ep p):(∃V E e d,v=.own i V e p/\κ i=.tree V E d/\(p=[]\/e=E)/\ver=(jG m i V E).1/\ep=(jG m i V E).2)\/∃e,v=.own i 0 e p/\κ i=.held/\(p=[]\/e=0)/\ver=0/\ep=0:=by
 cases v with
 |own j V e q=>
  simp[kf]at h
  split at h
  ·rename_i V' E' d hk
   cases hb:Nat.beq V V'&&(emp q||Nat.beq e E')with
   |false=>grind
   |true=>
    rw[hb]at h
    obtain⟨rfl,hc⟩:=dJ hb
    simp[cond_true,AV.own.injEq]at h
    obtain⟨rfl,h1,h2,rfl⟩:=h
    grind
  ·cases hb:Nat.beq V 0&&(emp q||Nat.beq e 0)with
   |false=>grind
   |true=>
    rw[hb]at h
    obtain⟨rfl,hc⟩:=dJ hb
    grind
  grind
 |loc j V e q a b c=>
  grind [kf,Nat.beq,emp]
 |pre j V e q a b c=>
  grind [kf,Nat.beq,emp]
 |cD j V=>
  grind [kf,Nat.beq]
 |_=>simp[kf]at h
theorem NX{v:AV}{i ver:Nat}(h:kf m κ v=.cD i ver):∃V E d,v=.cD i V/\κ i=.tree V E d/\ver=(jG m i V E).1:=by
 cases v with
 |cD j V=>
  simp[kf]at h
  split at h
  ·rename_i V' E' d hk
   cases hb:Nat.beq V V' with
   |false=>grind
   |true=>
    rw[hb]at h
    have:=adm hb
    grind
  grind
 |own j V e q=>
  grind [kf,Nat.beq,emp]
 |loc j V e q a b c=>
  grind [kf,Nat.beq,emp]
 |pre j V e q a b c=>
  grind [kf,Nat.beq,emp]
 |_=>simp[kf]at h
theorem S9{v:AV}{i ver ep a b c:Nat}{p:List PS}(h:kf m κ v=.loc i ver ep p a b c):∃V E e d,v=.loc i V e p a b c/\κ i=.tree V E d/\(p=[]\/e=E)/\ver=(jG m i V E).1/\ep=(jG m i V E).2:=by
 cases v with
 |loc j V e q a b c=>
  simp[kf]at h
  split at h
  ·rename_i V' E' d hk
   cases hb:Nat.beq V V'&&(emp q||Nat.beq e E')with
   |false=>grind
   |true=>
    rw[hb]at h
    obtain⟨rfl,hc⟩:=dJ hb
    simp[cond_true,AV.loc.injEq]at h
    obtain⟨rfl,h1,h2,rfl,rfl,rfl,rfl⟩:=h
    grind
  grind
 |pre j V e q a b c=>
  grind [kf,Nat.beq,emp]
 |own j V e q=>
  grind [kf,Nat.beq,emp]
 |cD j V=>
  grind [kf,Nat.beq]
 |_=>simp[kf]at h
theorem Ta{v:AV}{i ver ep a b c:Nat}{p:List PS}(h:kf m κ v=.pre i ver ep p a b c):∃V E e d,v=.pre i V e p a b c/\κ i=.tree V E d/\(p=[]\/e=E)/\ver=(jG m i V E).1/\ep=(jG m i V E).2:=by
 cases v with
 |pre j V e q a b c=>
  simp[kf]at h
  split at h
  ·rename_i V' E' d hk
   cases hb:Nat.beq V V'&&(emp q||Nat.beq e E')with
   |false=>grind
   |true=>
    rw[hb]at h
    obtain⟨rfl,hc⟩:=dJ hb
    simp[cond_true,AV.pre.injEq]at h
    obtain⟨rfl,h1,h2,rfl,rfl,rfl,rfl⟩:=h
    grind
  grind
 |loc j V e q a b c=>
  grind [kf,Nat.beq,emp]
 |own j V e q=>
  grind [kf,Nat.beq,emp]
 |cD j V=>
  grind [kf,Nat.beq]
 |_=>simp[kf]at h
theorem BX{b:ax}(h:b.NY=true):b.ic=false:=by cases b<;>simp[ax.NY]at h<;>rfl
theorem BY{b:ax}{v e:Nat}(h:b.Y4 v e=true):b.ic=false:=by cases b<;>simp[ax.Y4]at h<;>rfl
theorem sD:∀{l' l:List AV},ed m κ κ' l' l->l'.length=l.length
 |[],[],_=>rfl
 |[],_::_,h=>by simp[ed]at h
 |_::_,[],h=>by simp[ed]at h
 |_::_,_::_,h=>by simp[ed]at h;simp[sD h.2]
theorem oZ{κc:Nat->ax}{F:List Nat}{G1:Gh}(hle:Gh.Le G G1)(hβ:G1.β=G.β)(hH:G1.H=G.H)(Tb:∀i,i∈F->κc i=κ i)(lL:Fit G1 w (aF κc (l9 κ F))):∀(N:Nat),
 (∀(u v:AV) (x:Value),SizeOf.sizeOf u<N->gM m κ κ' u v->AV.sc κ' u=true->(∀i,i∈xx κ u v->i∈F)->aK G v x->aK (dZ m κ κ' G1) u x)/\
 (∀(us vs:List AV) (xs:List Value),SizeOf.sizeOf us<N->ed m κ κ' us vs->AV.Jw κ' us=true->(∀i,i∈eh κ us vs->i∈F)->cG G vs xs->cG (dZ m κ κ' G1) us xs):=by
 intro N
 induction N with
 |zero=>grind
 |succ N ih=>
  have BL:∀{i b:Nat},G.β i=some b->(κ' i).ic=false->(dZ m κ κ' G1).β i=some b:=fun {i b} h hn=>by simp_all [dZ,reβ]
  refine⟨fun u v x ck hs hc hF hv=>?_,fun us vs xs ck hs hc hF hr=>?_⟩
  ·cases u with
   |any=>exact .any _
   |dv d'=>
    simp[gM,ZA]at hs
    split at hs
    ·rename_i d ids hd
     simp[xx,hd]at hF
     exact .dv (hs _ x (uf (G':=G1) hd hF Tb hle lL hv))
    grind
   |agg l'=>
    cases v with
    |agg l=>
     simp[gM]at hs
     simp[AV.sc]at hc
     simp[xx]at hF
     cases hv with|agg _ ys hl hr=>
     have:=ih.2 l' l ys (by grind) hs hc hF ⟨hl,hr⟩
     exact .agg l' ys this.1 this.2
    |_=>simp[gM]at hs
   |gr l'=>
    cases v with
    |gr l=>
     simp[gM]at hs
     simp[AV.sc]at hc
     simp[xx]at hF
     cases hv with|gr _ ys hl hr=>
     have:=ih.2 l' l ys (by grind) hs hc hF ⟨hl,hr⟩
     exact .gr l' ys this.1 this.2
    |_=>simp[gM]at hs
   |fn f' l'=>
    cases v with
    |fn f l=>
     simp[gM]at hs
     simp[AV.sc]at hc
     simp[xx]at hF
     obtain⟨rfl,hs⟩:=hs
     cases hv with|fn _ _ ys hl hr=>
     have:=ih.2 l' l ys (by grind) hs hc hF ⟨hl,hr⟩
     exact .fn f l' ys this.1 this.2
    |_=>simp[gM]at hs
   |kq f' l'=>
    cases v with
    |kq f l=>
     simp[gM]at hs
     simp[AV.sc]at hc
     simp[xx]at hF
     obtain⟨rfl,hs⟩:=hs
     cases hv with|kq _ _ ys hl hr=>
     have:=ih.2 l' l ys (by grind) hs hc hF ⟨hl,hr⟩
     exact .kq f l' ys this.1 this.2
    |_=>simp[gM]at hs
   |ptr i off=>
    simp[gM]at hs
    simp only[AV.sc]at hc
    subst hs
    cases hv with|ptr _ _ b hb=>exact .ptr i off b (BL hb (BX hc))
   |eC i=>
    simp only[gM]at hs
    simp[AV.sc]at hc
    subst hs
    cases hv with|eC _ l hb=>exact .eC i l (BL hb (BX hc))
   |sle i k=>
    simp[gM]at hs
    simp[AV.sc]at hc
    subst hs
    cases hv with|sle _ _ b hb=>exact .sle i k b (BL hb (BX hc))
   |own i ver ep p=>
    simp[gM]at hs
    simp[AV.sc]at hc
    have fP:=BY hc
    unfold Hd at hs
    split at hs
    ·obtain⟨rfl,rfl,rfl,hb,sz,fD⟩:=hs
     cases hv with|dv hv=>cases hv with|aH=>
     refine .own i 0 0 [] _ ?_ rfl
     simp_all [aS,dZ,xt,Ej]
    ·rcases S8 hs with⟨V,E,e,d,He,hk,fh,rfl,rfl⟩|⟨e,He,hk,fh,rfl,rfl⟩
     ·have hv:=Aw hv
      rw[He]at hv
      cases hv with|own _ _ _ _ _ hh ma=>
      refine .own i _ _ p x ?_ ma
      grind [de,dZ,oY]
     ·have hv:=Aw hv
      rw[He]at hv
      cases hv with|own _ _ _ _ _ hh ma=>
      refine .own i _ _ p x ?_ ma
      rw[de fh]at hh
      simp_all [dZ,xw]
   |loc i ver ep p a b c=>
    simp[gM]at hs
    simp[AV.sc]at hc
    have fP:=BY hc
    obtain⟨V,E,e,d,rfl,hk,fh,rfl,rfl⟩:=S9 hs
    cases hv with
    |loc _ _ _ _ _ _ _ A q q' hh=>
     refine .loc i _ _ p a b c A q q' ?_
     grind [de,dZ,oY]
    |qG _ _ _ _ _ _ _ A hh=>
     refine .qG i _ _ p a b c A ?_
     grind [de,dZ,oY]
   |pre i ver ep p a b c=>
    simp[gM]at hs
    simp[AV.sc]at hc
    obtain⟨V,E,e,d,rfl,hk,fh,rfl,rfl⟩:=Ta hs
    cases hv with
    |pre _ _ _ _ _ _ _ q q' hh=>
     refine .pre i _ _ p a b c q q' fun hn=>?_
     grind [de,dZ,oY,BY]
   |cD i ver=>
    simp[gM]at hs
    simp[AV.sc]at hc
    obtain⟨V,E,d,rfl,hk,rfl⟩:=NX hs
    cases hv with|cD _ _ A q hh=>
    refine .cD i _ A q ?_
    have:=oY (m:=m) (H:=G1.H) hk (BY hc) []
    simp_all [aS,dZ]
   |opt g u=>simp[AV.sc]at hc
  ·cases us with
   |nil=>
    cases vs with
    |nil=>exact⟨hr.1,by simp⟩
    |cons=>simp[ed]at hs
   |cons u us=>
    cases vs with
    |nil=>simp[ed]at hs
    |cons v vs=>
     simp[ed]at hs
     simp[AV.Jw,adT]at hc
     simp[eh]at hF
     match xs,hr with
     |[],hr=>have:=hr.1;grind
     |x::xs,hr=>
      have h2:=ih.2 us vs xs (by grind) hs.2 hc.2 (fun i hi=>hF i (by grind)) ⟨by simpa using hr.1,fun q e y he hy=>hr.2 (q+1) e y (by grind) (by grind)⟩
      refine⟨by simp[h2.1],fun j d y hd hy=>?_⟩
      cases j with
      |zero=>simp at hd hy;subst hd;subst hy;exact(ih.1 u v x (by grind) hs.1 hc.1 (fun i hi=>hF i (by grind)) (hr.2 0 v x rfl rfl))
      |succ j=>exact h2.2 j d y (by simpa using hd) (by simpa using hy)
theorem xy:∀{F:List Nat},zT κ' F=true->∀i,i∈F->∀v e d,κ' i≠.tree v e d
 |[],_,i,hi,_,_,_=>by grind
 |j::F,h,i,hi,v,e,d=>by
  simp[zT,adT]at h
  rcases adp.1 hi with rfl|hi
  ·grind
  ·exact xy h.2 i hi v e d
def Em(m:Nat)(κ κ':Nat->ax)(F:List Nat)(i:Nat):Prop:=oK m κ κ' i (κ i) (κ' i)/\(κ' i).Y5 κ'=true/\∀j,j∈vh κ i (κ i) (κ' i)->j∈F
theorem Vv{κc:Nat->ax}{F:List Nat}{G1:Gh}(hf:Fit G w κc)(hle:Gh.Le G G1)(hβ:G1.β=G.β)(hH:G1.H=G.H)(hX:G1.X=G.X)(Tb:∀i,i∈F->κc i=κ i)(ZB:∀i,(κ' i).ic=false->κc i=κ i)(lL:Fit G1 w (aF κc (l9 κ F)))(fo:zT κ' F=true)(hs:∀i,Em m κ κ' F i):
 Fit (dZ m κ κ' G1) w κ'/\∀i b,cH (dZ m κ κ' G1) i (κ' i) b->cH G1 i (aF κc (l9 κ F) i) b:=by
 have lI:∀j,(κ' j).ic=false->aF κc (l9 κ F) j=if j∈F then(κ j).eU else κ j:=fun j hj=>by grind [o5]
 have jN:∀i b,cH (dZ m κ κ' G1) i (κ' i) b->cH G1 i (aF κc (l9 κ F) i) b:=by
  intro i b ho
  obtain⟨hx,Hf,ry⟩:=hs i
  cases iL:κ' i with
  |none=>rw[iL]at ho;exact ho.elim
  |dead=>rw[iL]at ho;exact ho.elim
  |fz=>rw[iL]at ho;exact ho.elim
  |cells l'=>
   rw[iL]at ho hx
   cases hk:κ i with
   |cells l=>
    simp_all [ax.eU,cH,dZ,reβ,ax.ic]
   |_=>rw[hk]at hx;exact hx.elim
  |tree v e d'=>
   rw[iL]at ho hx
   cases hk:κ i with
   |tree V E d=>
    rw[hk]at hx
    simp only[oK]at hx
    obtain⟨hx,rfl⟩:=hx
    have fF:aF κc (l9 κ F) i=.tree V E d:=by rw[lI i (by rw[iL];rfl),if_neg (fun hi=>xy fo i hi _ _ _ iL),hk]
    rw[fF]
    have e1:v=(jG m i V E).1:=by grind
    have e2:e=(jG m i V E).2:=by grind
    subst e1;subst e2
    obtain⟨p,nd,u,h1,h2,h3,h4⟩:=ho
    simp only[dZ]at h3
    rw[oY hk (by rw[iL];rfl)]at h3
    exact⟨p,nd,u,h1,h2,h3,h4⟩
   |none=>
    rw[hk]at hx
    simp only[oK]at hx
    obtain⟨rfl,rfl,sz,rfl⟩:=hx
    obtain⟨p,nd,u,h1,h2,h3,h4⟩:=ho
    cases p with
    |nil=>
     simp only[aS,dZ,xt,iL,ax.ic,hk,Ej,Option.some.injEq]at h3
     grind [c5]
    |cons s p=>cases s<;>simp[get,step]at h1
   |_=>rw[hk]at hx;exact hx.elim
  |dF rc st l'=>
   rw[iL]at ho hx
   cases hk:κ i with
   |dF rc0 st0 l=>
    simp_all [aF,l9,ax.eU,cH,dZ,reβ,ax.ic]
   |_=>rw[hk]at hx;exact hx.elim
  |held=>rw[iL]at ho;exact ho.elim
  |lG j' p' d' NZ Tc=>
   rw[iL]at ho hx
   cases hk:κ i with
   |lG j p d left cur=>
    rw[hk]at hx
    simp only[oK]at hx
    obtain⟨rfl,rfl,rfl,rfl,_,hh⟩:=hx
    obtain⟨e1,e2⟩:=El hh
    simp_all [aF,l9,ax.eU,cH,dZ,reβ,ax.ic,xw]
   |_=>rw[hk]at hx;exact hx.elim
 refine⟨⟨lL.sub,fun i=>?_,fun i b ho=>lL.own i b (jN i b ho),fun i j b ho nj=>lL.inj i j b (jN i b ho) (jN j b nj)⟩,jN⟩
 obtain⟨hx,Hf,ry⟩:=hs i
 have ji:=lL.box i
 cases iL:κ' i with
 |none=>exact⟨by simp[dZ,reβ,iL,ax.ic],fun v e p=>by simp[dZ,xt,iL,ax.ic]⟩
 |dead=>trivial
 |cells l'=>
  rw[iL]at hx Hf ry
  cases hk:κ i with
  |cells l=>
   rw[hk]at hx ry
   simp only[oK]at hx
   simp only[vh]at ry
   simp only[ax.Y5,adT]at Hf
   have hb:=hf.box i
   rw[ZB i (by rw[iL];rfl),hk]at hb
   obtain⟨b,c,t,qJ,hw,ck,og,hr⟩:=hb
   refine⟨b,c,t,by simp_all [dZ,reβ,ax.ic],hw,by grind [sD],fZ Hf.2,fun j d v hd hv=>?_⟩
   have:=(oZ hle hβ hH Tb lL (SizeOf.sizeOf l'+1)).2 l' l c.toList (by omega) hx Hf.1 ry ⟨by grind,fun j d v hd hv=>hr j d v hd (by grind)⟩
   exact this.2 j d v hd (by grind)
  |_=>rw[hk]at hx;exact hx.elim
 |tree v e d'=>
  rw[iL]at hx
  cases hk:κ i with
  |tree V E d=>
   rw[hk]at hx
   simp only[oK]at hx
   obtain⟨hx,rfl⟩:=hx
   rw[lI i (by rw[iL];rfl),if_neg (fun hi=>xy fo i hi _ _ _ iL),hk]at ji
   have e1:v=(jG m i V E).1:=by grind
   have e2:e=(jG m i V E).2:=by grind
   subst e1;subst e2
   have fP:(κ' i).ic=false:=by rw[iL];rfl
   have Vw:aS (dZ m κ κ' G1).H i (jG m i V E).1 (jG m i V E).2=aS G1.H i V E:=funext fun p=>by grind [dZ,oY]
   refine⟨?_,?_,fun v hv e p=>?_,fun e he p=>?_⟩
   ·rw[Vw];exact ji.1
   ·rw[Vw];exact ji.2.1
   ·simp only[dZ,xt,fP,hk];exact BV hv e p
   ·simp only[dZ,xt,fP,hk];exact Jv he p
  |none=>
   rw[hk]at hx
   simp only[oK]at hx
   obtain⟨rfl,rfl,sz,rfl⟩:=hx
   have fP:(κ' i).ic=false:=by rw[iL];rfl
   have h0:aS (dZ m κ κ' G1).H i 0 0 []=some (.slice none 0 0):=by simp_all [aS,dZ,xt,Ej]
   refine⟨⟨rfl,fun p nd hp hn=>?_⟩,?_,fun v hv e p=>?_,fun e he p=>?_⟩
   ·cases p with
    |nil=>
     simp only[get,Option.some.injEq]at hp
     subst hp
     exact⟨_,h0,rfl,.inl ⟨rfl,rfl⟩⟩
    |cons s p=>cases s<;>simp[get,step]at hp
   ·intro p q nd md u v b h1 h2 h3 h4 h5 h6 h7 h8
    cases p with
    |nil=>grind [c5]
    |cons s p=>cases s<;>simp[get,step]at h1
   ·simp only[dZ,xt,fP,hk]
    cases v with
    |zero=>omega
    |succ v=>rfl
   ·simp only[dZ,xt,fP,hk]
    cases e with
    |zero=>omega
    |succ e=>rfl
  |_=>rw[hk]at hx;exact hx.elim
 |fz v d'=>
  rw[iL]at hx ry
  have fP:(κ' i).ic=false:=by rw[iL];rfl
  cases hk:κ i with
  |tree V E d=>
   rw[hk]at hx ry
   simp only[oK]at hx
   obtain⟨rfl,hx⟩:=hx
   rw[lI i fP,if_pos (ry i (by simp[vh])),hk]at ji
   obtain⟨u,h1,h2,h3⟩:=ji
   refine⟨u,?_,h2,hx _ _ h3⟩
   simp only[dZ,xt,fP,hk]
   rwa[S7 m i V 0 E,(kZ m (G1.H i) i V E (.el 0 0) []).1]
  |fz V d=>
   rw[hk]at hx
   simp only[oK]at hx
   obtain⟨rfl,hx⟩:=hx
   have fF:aF κc (l9 κ F) i=.fz V d:=by grind [ax.eU]
   rw[fF]at ji
   obtain⟨u,h1,h2,h3⟩:=ji
   refine⟨u,?_,h2,hx _ _ h3⟩
   simp only[dZ,xt,fP,hk]
   rwa[(kZ m (G1.H i) i V 0 (.el 0 0) []).1]
  |_=>rw[hk]at hx;exact hx.elim
 |dF rc st l'=>
  rw[iL]at hx Hf ry
  cases hk:κ i with
  |dF rc0 st0 l=>
   rw[hk]at hx ry
   simp only[oK]at hx
   simp only[vh]at ry
   simp only[ax.Y5]at Hf
   obtain⟨rfl,rfl,hx⟩:=hx
   have hb:=hf.box i
   rw[ZB i (by rw[iL];rfl),hk]at hb
   obtain⟨b,fn,tmps,D,qJ,hw,hr⟩:=hb
   exact⟨b,fn,tmps,D,by simp_all [dZ,reβ,ax.ic],hw,(oZ hle hβ hH Tb lL (SizeOf.sizeOf l'+1)).2 l' l tmps.toList (by omega) hx Hf ry hr⟩
  |_=>rw[hk]at hx;exact hx.elim
 |held=>
  rw[iL]at hx
  cases hk:κ i with
  |held=>
   have fP:(κ' i).ic=false:=by rw[iL];rfl
   refine⟨fun v hv e p=>?_,fun e he p=>?_⟩
   ·simp_all [dZ,xt,BV,BW]
   ·simp only[dZ,xt,fP,hk]
    have:=Jv (m:=m) (h:=G1.H i) (i:=i) (by rwa[BW]) p
    grind [BW]
  |_=>rw[hk]at hx;exact hx.elim
 |lG j' p' d' NZ Tc=>
  rw[iL]at hx
  cases hk:κ i with
  |lG j p d left cur=>
   rw[hk]at hx
   simp only[oK]at hx
   obtain⟨rfl,rfl,rfl,rfl,hc,hh⟩:=hx
   obtain⟨e1,e2⟩:=El hh
   have fP:(κ' i).ic=false:=by rw[iL];rfl
   rw[lI i fP,hk]at ji
   simp only[ax.eU,ite_self]at ji
   obtain⟨r,mb,es,clock,seen,ks,mm,hi⟩:=ji
   have Vw:aS (dZ m κ κ' G1).H j 0 0=aS G1.H j 0 0:=xw e1 (by rw[e2];rfl)
   refine⟨r,mb,es,clock,seen,ks,mm,by simp only[dZ,reβ,fP];exact hi.fE,hi.it,by rw[Vw];exact hi.tree,by rw[Vw];exact hi.inj,hi.node,by rw[Vw];exact hi.head,hi.map,hi.left,?_⟩
   rcases hc with rfl|rfl
   ·trivial
   ·exact hi.cur
  |_=>rw[hk]at hx;exact hx.elim
end
end
end Go.TM
