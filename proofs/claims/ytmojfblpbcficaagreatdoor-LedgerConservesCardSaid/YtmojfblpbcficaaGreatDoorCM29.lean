import Derived.Test.YtmojfblpbcficaaGreatDoorCM27
import Derived.Test.YtmojfblpbcficaaGreatDoorCM17
set_option linter.all false
namespace Go.TM
open Go.RowKit
variable [cn]
theorem FT{G:Gh}{rs:List DV}{vs:List Value}(h:(eV rs).length=vs.length)(hr:∀(j:Nat) (d:AV) (v:Value),(eV rs)[j]?=some d->vs[j]?=some v->aG G d v):fG G.M rs vs:=by
 refine⟨by simpa[rV]using h,fun j d v hd hv=>?_⟩
 have:=hr j (.dv d) v (by rw[rV,acj,hd];rfl) hv
 cases this with|dv h=>exact h
theorem y3{P:Program}{f:Nat}{args rs:List DV}(h:ao P f (yl args) 0 [] 0 (eV rs) []):aQ P f args rs:=by
 refine⟨h.1,fun w M vs dh nt hr=>?_⟩
 let G:Gh:=⟨M,fun _=>none,fun _ _ _ _=>none,fun _ _=>False⟩
 have cP:Fit G w (aa []):=⟨dh,fun i=>⟨rfl,fun _ _ _=>rfl⟩,fun i b o=>o.elim,fun i j b o=>o.elim⟩
 have jF:cd G (yl args) vs:=Fc hr
 refine Calls.mono (h.2 w G vs nt cP jF) ?_
 rintro e w' ⟨v,vl,K',G',rfl,⟨rfl,rfl⟩,hc⟩
 have eZ:∀b,b<w.heap.size->w'.heap[b]?=w.heap[b]?/\G'.M b=M b:=fun b hb=>hc.frame b hb fun i o=>o.elim
 refine⟨v,G'.M,rfl,⟨hc.os,hc.tape,hc.output,hc.size,fun k hk=>(eZ k hk).1⟩,hc.le,hc.fit.sub,fun b hb=>(eZ b hb).2,?_⟩
 have jh:=hc.res
 match rs,jh with
 |[],jh=>
  cases jh with|fY _ us hl Lq=>exact⟨us,rfl,FT (rs:=[]) hl Lq⟩
 |[d],jh=>cases jh with|dv h=>exact h
 |d::e::r,jh=>
  cases jh with|fY _ us hl Lq=>exact⟨us,rfl,FT (rs:=d::e::r) hl Lq⟩
end Go.TM
