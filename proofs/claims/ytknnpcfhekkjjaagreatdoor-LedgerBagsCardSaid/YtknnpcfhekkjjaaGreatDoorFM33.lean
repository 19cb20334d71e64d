import Derived.Test.YtknnpcfhekkjjaaGreatDoorFM31
import Derived.Test.YtknnpcfhekkjjaaGreatDoorFM19
set_option linter.all false
namespace Go.TM
open Go.RowKit
variable [cn]
theorem FK{G:Gh}{rs:List DV}{vs:List Value}(h:(fc rs).length=vs.length)(hr:∀(j:Nat) (d:AV) (v:Value),(fc rs)[j]?=some d->vs[j]?=some v->aG G d v):fI G.M rs vs:=by
 refine⟨by simpa[rS]using h,fun j d v hd hv=>?_⟩
 have:=hr j (.dv d) v (by rw[rS,abJ,hd];rfl) hv
 cases this with|dv h=>exact h
theorem y9{P:Program}{f:Nat}{args rs:List DV}(h:ar P f (yu args) 0 [] 0 (fc rs) []):aI P f args rs:=by
 refine⟨h.1,fun w M vs dX nF hr=>?_⟩
 let G:Gh:=⟨M,fun _=>none,fun _ _ _ _=>none,fun _ _=>False⟩
 have cP:Fit G w (aa []):=⟨dX,fun i=>⟨rfl,fun _ _ _=>rfl⟩,fun i b o=>o.elim,fun i j b o=>o.elim⟩
 have jB:cj G (yu args) vs:=E7 hr
 refine Calls.mono (h.2 w G vs nF cP jB) ?_
 rintro e w' ⟨v,vF,K',G',rfl,⟨rfl,rfl⟩,hc⟩
 have dQ:∀b,b<w.heap.size->w'.heap[b]?=w.heap[b]?/\G'.M b=M b:=fun b hb=>hc.frame b hb fun i o=>o.elim
 refine⟨v,G'.M,rfl,⟨hc.os,hc.tape,hc.output,hc.size,fun k hk=>(dQ k hk).1⟩,hc.le,hc.fit.sub,fun b hb=>(dQ b hb).2,?_⟩
 have je:=hc.res
 match rs,je with
 |[],je=>
  cases je with|fL _ us hl NT=>exact⟨us,rfl,FK (rs:=[]) hl NT⟩
 |[d],je=>cases je with|dv h=>exact h
 |d::e::r,je=>
  cases je with|fL _ us hl NT=>exact⟨us,rfl,FK (rs:=d::e::r) hl NT⟩
end Go.TM
