import Derived.Test.YtpbiiigpphehbaaGreatDoorFM38
import Derived.Test.YtpbiiigpphehbaaGreatDoorFM26
set_option linter.all false
namespace Go.TM
open Go.RowKit
variable [cj]
theorem FX{G:Gh}{rs:List DV}{vs:List Value}(h:(eB rs).length=vs.length)(hr:∀(j:Nat) (d:AV) (v:Value),(eB rs)[j]?=some d->vs[j]?=some v->aH G d v):fD G.M rs vs:=by
 refine⟨by simpa[qN]using h,fun j d v hd hv=>?_⟩
 have:=hr j (.dv d) v (by rw[qN,abB,hd];rfl) hv
 cases this with|dv h=>exact h
theorem zh{P:Program}{f:Nat}{args rs:List DV}(h:aq P f (xw args) 0 [] 0 (eB rs) []):aO P f args rs:=by
 refine⟨h.1,fun w M vs dP na hr=>?_⟩
 let G:Gh:=⟨M,fun _=>none,fun _ _ _ _=>none,fun _ _=>False⟩
 have cL:Fit G w (aa []):=⟨dP,fun i=>⟨rfl,fun _ _ _=>rfl⟩,fun i b o=>o.elim,fun i j b o=>o.elim⟩
 have jr:cb G (xw args) vs:=Fq hr
 refine Calls.mono (h.2 w G vs na cL jr) ?_
 rintro e w' ⟨v,vw,K',G',rfl,⟨rfl,rfl⟩,hc⟩
 have ec:∀b,b<w.heap.size->w'.heap[b]?=w.heap[b]?/\G'.M b=M b:=fun b hb=>hc.frame b hb fun i o=>o.elim
 refine⟨v,G'.M,rfl,⟨hc.os,hc.tape,hc.output,hc.size,fun k hk=>(ec k hk).1⟩,hc.le,hc.fit.sub,fun b hb=>(ec b hb).2,?_⟩
 have iZ:=hc.res
 match rs,iZ with
 |[],iZ=>
  cases iZ with|fO _ us hl Of=>exact⟨us,rfl,FX (rs:=[]) hl Of⟩
 |[d],iZ=>cases iZ with|dv h=>exact h
 |d::e::r,iZ=>
  cases iZ with|fO _ us hl Of=>exact⟨us,rfl,FX (rs:=d::e::r) hl Of⟩
end Go.TM
