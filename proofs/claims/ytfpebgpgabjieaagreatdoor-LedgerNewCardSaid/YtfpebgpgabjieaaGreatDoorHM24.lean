import Derived.Test.YtfpebgpgabjieaaGreatDoorHM20
import Derived.Test.YtfpebgpgabjieaaGreatDoorHM15
set_option linter.all false
namespace Go.TM
open Go.RowKit
variable [cy]
theorem FF{G:Gh}{rs:List DV}{vs:List Value}(h:(fp rs).length=vs.length)(hr:∀(j:Nat) (d:AV) (v:Value),(fp rs)[j]?=some d->vs[j]?=some v->aK G d v):fS G.M rs vs:=by
 refine⟨by simpa[r4]using h,fun j d v hd hv=>?_⟩
 have:=hr j (.dv d) v (by rw[r4,adk,hd];rfl) hv
 cases this with|dv h=>exact h
theorem yN{P:Program}{f:Nat}{args rs:List DV}(h:aw P f (ya args) 0 [] 0 (fp rs) []):ai P f args rs:=by
 refine⟨h.1,fun w M vs dz nr hr=>?_⟩
 let G:Gh:=⟨M,fun _=>none,fun _ _ _ _=>none,fun _ _=>False⟩
 have di:Fit G w (aa []):=⟨dz,fun i=>⟨rfl,fun _ _ _=>rfl⟩,fun i b o=>o.elim,fun i j b o=>o.elim⟩
 have jV:cG G (ya args) vs:=E0 hr
 refine Calls.mono (h.2 w G vs nr di jV) ?_
 rintro e w' ⟨v,wh,K',G',rfl,⟨rfl,rfl⟩,hc⟩
 have fo:∀b,b<w.heap.size->w'.heap[b]?=w.heap[b]?/\G'.M b=M b:=fun b hb=>hc.frame b hb fun i o=>o.elim
 refine⟨v,G'.M,rfl,⟨hc.os,hc.tape,hc.output,hc.size,fun k hk=>(fo k hk).1⟩,hc.le,hc.fit.sub,fun b hb=>(fo b hb).2,?_⟩
 have jy:=hc.res
 match rs,jy with
 |[],jy=>
  cases jy with|gr _ us hl To=>exact⟨us,rfl,FF (rs:=[]) hl To⟩
 |[d],jy=>cases jy with|dv h=>exact h
 |d::e::r,jy=>
  cases jy with|gr _ us hl To=>exact⟨us,rfl,FF (rs:=d::e::r) hl To⟩
end Go.TM
