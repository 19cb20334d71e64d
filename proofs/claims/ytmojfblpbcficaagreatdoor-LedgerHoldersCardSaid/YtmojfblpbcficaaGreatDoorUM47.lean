import Derived.Test.YtmojfblpbcficaaGreatDoorUM15
set_option linter.all false
namespace Go.TM
open Go.RowKit
variable [cj]
theorem NR{P:Program}{f:Nat}(o7:fF P f){args:List DV}{sz:Nat}{l':List DV}(l7:∀x,x∈l'->x.aT)
 (bG:∀(w:World) (M:Mem) (vs:List Value),eZ M args vs->Calls P f vs.toArray w fun e w'=>∃v',e=.returned v'/\v'.oneCell'=true/\w.grownBy w' none/\ub w' v' sz l' (fun _ _ d u=>d.ar=false/\bz M d u)/\∀b,cT v'=some b->w.heap.size<=b):
 aj P f (ed args) 0 [] 1 [.own 0 0 0 []] [(0,.tree 0 0 (.aD sz l'))]:=by
 refine⟨o7,fun w G vs mq cP hr=>?_⟩
 have Tc:eZ G.M args vs:=by
  rw[qe]at hr
  refine⟨by have:=hr.1;simpa using this,fun j d v hd hv=>?_⟩
  cases hr.2 j (.dv d) v (by simp[hd]) hv with|dv h=>exact h
 have dI:∀i,aa [] i=.none:=fun i=>rfl
 let g:dV:=⟨fun b=>∃i,cD G i (aa [] i) b,w,G.M,0,G.β,fun i p=>G.H i 0 0 p⟩
 have X3:cB g 0 (fun _=>.any) (aa []) { tmps:=#[],defers:=[] } w G:=
  {fit:=cP,env:=fun t=>.any _,size:=rfl,xc:=fun _ _ _=>rfl,os:=rfl,tape:=rfl,output:=rfl,grow:=adM _,mem:=.refl G.M,mM:=fun _ _ _=>rfl,fV:=fun i b ho=>.inr ⟨i,ho⟩,fm:=fun _ _=>rfl,uw:=fun _ _ _ _ hx=>hx,o5:=mq,sK:=⟨[],rfl,List.nodup_nil,by simp⟩ }
 refine Calls.mono (bG w G.M vs Tc) ?_
 rintro e w' ⟨v',rfl,w4,hgr,xa,VM⟩
 have hlk:aa [(0,aw.tree 0 0 (.aD sz l'))]=iO (aa []) 0 (.tree 0 0 (.aD sz l')):=by
  funext i
  match i with
  |0=>rfl
  |i+1=>rfl
 obtain⟨G',g1,g2,g3,g4⟩:=X3.oL (κ':=iO (aa []) 0 (.tree 0 0 (.aD sz l'))) (w':=w') (i:=0) (d:=.aD sz l') (fun _=>False) (fun p=>if p=[]then some v' else none) (fun h=>h)
  (dI 0) (fun _ h=>h.elim) (bA _ _ _) (fun j hj _=>ah _ _ hj)
  ⟨rfl,fun p m hp ho=>by
   obtain⟨rfl,rfl⟩:=j7 l7 hp ho
   refine⟨v',by simp,w4,?_⟩
   rcases xa with⟨rfl,rfl⟩|⟨gb,o,cap,c,t,rfl,a1,a2,a3,a4⟩
   ·exact .inl ⟨rfl,rfl⟩
   ·refine .inr ⟨gb,o,cap,c,t,rfl,a1,a2,a3,fun i x hx=>⟨(a4 i x hx).1,fun j d hd=>?_⟩⟩
    obtain⟨b1,u,b2,b3,b4⟩:=(a4 i x hx).2 j d hd
    exact⟨b1,u,b2,.inr ⟨b3,b4⟩⟩⟩
  (fun p q m m' u v b e1 e2 _ _ f1 f2 _ _=>by rw[(j7 l7 e1 e2).1,(j7 l7 f1 f2).1])
  (fun b ⟨p,m,v,h1,h2,h3,h4⟩=>by
   obtain⟨rfl,rfl⟩:=j7 l7 h1 h2
   simp at h3;subst h3;exact .inl (VM b h4))
  (fun b hb _=>hgr.block b hb (by simp)) hgr.size hgr.os hgr.tape hgr.output
 refine⟨_,_,_,G',rfl,⟨rfl,rfl⟩,?_⟩
 rw[hlk]
 refine⟨g4.fit,fun i hi=>?_,?_,g4.mem,g4.fm,g4.uw,fun b hb hO=>⟨g4.xc b hb (fun⟨i,h⟩=>hO i h),g4.mM b hb (fun⟨i,h⟩=>hO i h)⟩,g4.fV,g4.os,g4.tape,g4.output,g4.grow⟩
 ·rw[ah _ _ (by omega)];exact dI i
 ·exact .own _ _ _ _ _ ((g3 []).trans (by simp)) w4
end Go.TM
