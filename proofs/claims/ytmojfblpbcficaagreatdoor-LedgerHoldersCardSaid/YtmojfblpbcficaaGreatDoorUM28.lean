import Derived.Test.YtmojfblpbcficaaGreatDoorUM26
import Derived.Test.YtmojfblpbcficaaGreatDoorUM15
set_option linter.all false
namespace Go.TM
open Go.RowKit
variable [cj]
theorem Gy{G:Gh}{rs:List DV}{vs:List Value}(h:(ed rs).length=vs.length)(hr:∀(j:Nat) (d:AV) (v:Value),(ed rs)[j]?=some d->vs[j]?=some v->aK G d v):eZ G.M rs vs:=by
 refine⟨by simpa[qe]using h,fun j d v hd hv=>?_⟩
 have:=hr j (.dv d) v (by rw[qe,abW,hd];rfl) hv
 cases this with|dv h=>exact h
theorem qf{P:Program}{f:Nat}{args rs:List DV}(h:aj P f (yP args) 0 [] 0 (ed rs) []):aN P f args rs:=by
 refine⟨h.1,fun w M vs dw mq hr=>?_⟩
 let G:Gh:=⟨M,fun _=>none,fun _ _ _ _=>none,fun _ _=>False⟩
 have cP:Fit G w (aa []):=⟨dw,fun i=>⟨rfl,fun _ _ _=>rfl⟩,fun i b o=>o.elim,fun i j b o=>o.elim⟩
 have jQ:ck G (yP args) vs:=FV hr
 refine Calls.mono (h.2 w G vs mq cP jQ) ?_
 rintro e w' ⟨v,vT,K',G',rfl,⟨rfl,rfl⟩,hc⟩
 have fb:∀b,b<w.heap.size->w'.heap[b]?=w.heap[b]?/\G'.M b=M b:=fun b hb=>hc.frame b hb fun i o=>o.elim
 refine⟨v,G'.M,rfl,⟨hc.os,hc.tape,hc.output,hc.size,fun k hk=>(fb k hk).1⟩,hc.le,hc.fit.sub,fun b hb=>(fb b hb).2,?_⟩
 have hZ:=hc.res
 match rs,hZ with
 |[],hZ=>
  cases hZ with|gr _ us hl Ms=>exact⟨us,rfl,Gy (rs:=[]) hl Ms⟩
 |[d],hZ=>cases hZ with|dv h=>exact h
 |d::e::r,hZ=>
  cases hZ with|gr _ us hl Ms=>exact⟨us,rfl,Gy (rs:=d::e::r) hl Ms⟩
end Go.TM
