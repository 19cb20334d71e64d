import Derived.Test.YtfpebgpgabjieaaGreatDoorGM26
import Derived.Test.YtfpebgpgabjieaaGreatDoorGM15
set_option linter.all false
namespace Go.TM
open Go.RowKit
variable [cq]
theorem Gi{G:Gh}{rs:List DV}{vs:List Value}(h:(eP rs).length=vs.length)(hr:∀(j:Nat) (d:AV) (v:Value),(eP rs)[j]?=some d->vs[j]?=some v->aI G d v):fP G.M rs vs:=by
 refine⟨by simpa[r9]using h,fun j d v hd hv=>?_⟩
 have:=hr j (.dv d) v (by rw[r9,adQ,hd];rfl) hv
 cases this with|dv h=>exact h
theorem y9{P:Program}{f:Nat}{args rs:List DV}(h:aj P f (yq args) 0 [] 0 (eP rs) []):aR P f args rs:=by
 refine⟨h.1,fun w M vs dr nM hr=>?_⟩
 let G:Gh:=⟨M,fun _=>none,fun _ _ _ _=>none,fun _ _=>False⟩
 have cY:Fit G w (aa []):=⟨dr,fun i=>⟨rfl,fun _ _ _=>rfl⟩,fun i b o=>o.elim,fun i j b o=>o.elim⟩
 have jT:cC G (yq args) vs:=Fx hr
 refine Calls.mono (h.2 w G vs nM cY jT) ?_
 rintro e w' ⟨v,wF,K',G',rfl,⟨rfl,rfl⟩,hc⟩
 have eC:∀b,b<w.heap.size->w'.heap[b]?=w.heap[b]?/\G'.M b=M b:=fun b hb=>hc.frame b hb fun i o=>o.elim
 refine⟨v,G'.M,rfl,⟨hc.os,hc.tape,hc.output,hc.size,fun k hk=>(eC k hk).1⟩,hc.le,hc.fit.sub,fun b hb=>(eC b hb).2,?_⟩
 have gK:=hc.res
 match rs,gK with
 |[],gK=>
  cases gK with|gm _ us hl Tx=>exact⟨us,rfl,Gi (rs:=[]) hl Tx⟩
 |[d],gK=>cases gK with|dv h=>exact h
 |d::e::r,gK=>
  cases gK with|gm _ us hl Tx=>exact⟨us,rfl,Gi (rs:=d::e::r) hl Tx⟩
end Go.TM
