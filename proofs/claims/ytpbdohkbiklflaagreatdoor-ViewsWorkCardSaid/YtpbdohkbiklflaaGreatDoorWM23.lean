import Derived.Test.YtpbdohkbiklflaaGreatDoorWM22
import Derived.Test.YtpbdohkbiklflaaGreatDoorWM20
set_option linter.unusedVariables false
set_option linter.unusedSimpArgs false
set_option linter.unusedSectionVars false
namespace Go.Proofs.YtpbdohkbiklflaaGreatDoor
open Go.TM
variable [cZ]
set_option maxRecDepth 100000
theorem yj (s:Vs) (h:s.H.length+s.bQ.length≤1000000):bl Tryz.prog 25 [.ptr 0 0] 6 (vK false s) 0 [.dv (I ((s.H.length:Int)+(s.bQ.length:Int)))] (vK false s):=by
 refine bn aO mixed (aq _) (ar _) Tryz.func25 rfl rfl (by kernel_rfl) ?_
 refine ⟨fun _=>⟨by rw [List.length_map,List.length_map]; omega,by rw [List.length_map,List.length_map]; omega⟩,by kernel_rfl,?_⟩
 exact ⟨_,_,⟨rfl,rfl⟩,by kernel_rfl,⟨aB (by rw [List.length_map,List.length_map]),tv⟩,⟨rf,rf,rf,rf,rf,rf,rfl,rfl,rfl,rfl,rfl,tv⟩,⟨rfl,rfl⟩,⟨rfl,rfl⟩,⟨rfl,rfl⟩,⟨rfl,rfl⟩,⟨rfl,rfl⟩,tv⟩
theorem ji (s:Vs):bl Tryz.prog 23 [.ptr 0 0] 6 (vK false s) 0 [.dv (I s.work)] (vK false { s with work:=0 }):=by
 refine bn aO mixed (aq _) (ar _) Tryz.func23 rfl rfl (by kernel_rfl) ?_
 exact ⟨_,_,⟨rfl,rfl⟩,by kernel_rfl,⟨rf,tv⟩,⟨rf,rf,rf,rf,rf,rf,rfl,rfl,rfl,rfl,rfl,tv⟩,⟨rfl,rfl⟩,⟨rfl,rfl⟩,⟨rfl,rfl⟩,⟨rfl,rfl⟩,⟨rfl,rfl⟩,tv⟩
def MC (s:Vs) (it n:Int):List Rk:=if it<0 ∨ 4≤it ∨ n≤0 then [] else (s.rk.getD it.toNat (true,[])).2.take n.toNat
theorem Ca {L:List DV} {i:Nat} {f:Bool} {l:List Rk} (h:L[i]?=some (dX f l)) (hf:f=true→l=[]) (n:Nat) (hn:1≤n) (Kb:n≤9223372036854775807) (hl:l.length≤1000) :
  bl Tryz.prog 55 [.own 0 0 0 [.el i 0],.dv (I n)] 1 [(0,.tree 0 0 (.ax 1 L))] 0 [.dv (.sl 2 ((l.take n).map eR))] [(0,.tree 0 0 (.ax 1 L))]:=by
 have hs:bL (.ax 1 L) [.el i 0] (dX f l)=.ax 1 L:=by
  rw [tT h rfl rfl]
  congr 1
  obtain ⟨aJ,he⟩:=List.getElem?_eq_some_iff.1 h
  rw [←he]; exact List.set_getElem_self aJ
 cases l with
 | nil =>
  have:=s6 (p:=[.el i 0]) (D:=.ax 1 L) (B7 f n) hs (vZ h rfl) (by simp) rfl rfl rfl rfl
  simpa using this
 | cons r l' =>
  cases f with
  | true=>have:=hf rfl; cases this
  | false=>exact s6 (p:=[.el i 0]) (D:=.ax 1 L) (B8 n hn Kb r l' hl) hs (vZ h rfl) (by simp) rfl rfl rfl rfl
theorem Kl (s:Vs) (hl:s.rk.length=4) (hr:∀x,x∈s.rk→x.2.length≤1000∧(x.1=true→x.2=[])) (it n:Int) (hn:n≤9223372036854775807) :
  bl Tryz.prog 29 [.ptr 0 0,.dv (I it),.dv (I n)] 6 (vK false s) 0 [.dv (.sl 2 ((MC s it n).map eR))] (vK false s):=by
 refine bn aO mixed (aq _) (ar _) Tryz.func29 rfl rfl (by kernel_rfl) ?_
 repeat first | refine ⟨id,?_⟩ | refine ⟨fun _ h=>cx h,?_⟩ | refine ⟨fun _ h=>ay h,?_⟩ | refine ⟨fun h=>⟨h,fun h2=>aQ h h2⟩,?_⟩ | refine ⟨fun h=>⟨h,fun h2=>aF h h2⟩,?_⟩
 have e:(bif bif decide (it<0) then true else decide (4≤it) then true else decide (n≤0))=decide (it<0 ∨ 4≤it ∨ n≤0):=by by_cases h1:it<0 <;> by_cases h2:4≤it <;> simp [h1,h2]
 refine ⟨fun h=>?_,fun h=>?_⟩
 ·have h:=of_decide_eq_true (e.symm.trans h)
  rw [show MC s it n=[] from if_pos h]
  exact ⟨_,_,⟨rfl,rfl⟩,by kernel_rfl,⟨qE _,tv⟩,⟨rf,rf,rf,rf,rf,rf,rfl,rfl,rfl,rfl,rfl,tv⟩,⟨rfl,rfl⟩,⟨rfl,rfl⟩,⟨rfl,rfl⟩,⟨rfl,rfl⟩,⟨rfl,rfl⟩,tv⟩
 ·have h:=of_decide_eq_false (e.symm.trans h)
  obtain ⟨i,rfl⟩:=Int.eq_ofNat_of_zero_le (show 0≤it by omega)
  obtain ⟨m,rfl⟩:=Int.eq_ofNat_of_zero_le (show 0≤n by omega)
  have hi:i<s.rk.length:=by omega
  have PR:s.rk[i]?=some (s.rk.getD i (true,[])):=by rw [List.getD_eq_getElem?_getD,List.getElem?_eq_getElem hi]; rfl
  rw [show MC s (i:Int) (m:Int)=(s.rk.getD i (true,[])).2.take m from if_neg h]
  obtain ⟨q1,q2⟩:=hr _ (List.mem_of_getElem? PR)
  generalize s.rk.getD i (true,[])=q0 at *
  obtain ⟨f0,l0⟩:=q0
  have N7:(s.rk.map Gf)[i]?=some (dX f0 l0):=by rw [List.getElem?_map,PR]; rfl
  have wN:=Ca N7 q2 m (by omega) (by omega) q1
  refine ⟨fun _=>⟨by omega,by rw [List.length_map]; omega⟩,dX f0 l0,fun _=>N7,?_⟩
  refine .inr ⟨[3],[.own 0 0 0 [.el i 0],.dv (I m)],[(0,.tree 0 0 (.ax 1 (s.rk.map Gf)))],0,_,_,wN,by kernel_rfl,by kernel_rfl,⟨rfl,rf,tv⟩,⟨⟨rfl,rfl⟩,tv⟩,?_⟩
  exact ⟨_,_,⟨rfl,rfl⟩,by kernel_rfl,⟨rf,tv⟩,⟨rf,rf,rf,rf,rf,rf,rfl,rfl,rfl,rfl,rfl,tv⟩,⟨rfl,rfl⟩,⟨rfl,rfl⟩,⟨rfl,rfl⟩,⟨rfl,rfl⟩,⟨rfl,rfl⟩,tv⟩
end Go.Proofs.YtpbdohkbiklflaaGreatDoor
namespace Go.Proofs.YtpbdohkbiklflaaGreatDoor
open Go.TM
def qG (n:Int):Bool:=decide (0≤n) && decide (n≤1073741824)
abbrev IM:=List (Int × Int)
def Ob (p:Int × Int):DV:=.fa (I p.1) (I p.2)
def ph:IM→Int→Option Int
 | [],_=>none
 | p::r,k=>if p.1=k then some p.2 else ph r k
def Ep:IM→Int→Int→IM
 | [],k,x=>[(k,x)]
 | p::r,k,x=>if p.1=k then (k,x)::r else p::Ep r k x
def iv (m:IM) (k:Int):Int:=(ph m k).getD 0
theorem Gi (a b:Int):tE (I a) (I b)=decide (a=b):=by
 simp only [tE,AS]
 try rw [Bool.eq_iff_iff]; simp
theorem Km (k:Int):∀m:IM,bH (m.map Ob) (I k)=(ph m k).map I
 | []=>rfl
 | p::r=>by
  simp only [List.map_cons,Ob,bH,Gi,ph]
  by_cases h:p.1=k
  ·simp [h]
  ·simp only [h,decide_false,cond_false,if_false]
   exact Km k r
theorem Kn (k x:Int):∀m:IM,eu (m.map Ob) (I k) (I x)=(Ep m k x).map Ob
 | []=>rfl
 | p::r=>by
  simp only [List.map_cons,Ob,eu,Gi,Ep]
  by_cases h:p.1=k
  ·simp [h,Ob]
  ·simp only [h,decide_false,cond_false,if_false,List.map_cons]
   have:=Kn k x r
   rw [this]
   rfl
theorem MD (m:IM) (k x j:Int):iv (Ep m k x) j=if k=j then x else iv m j:=by
 unfold iv
 induction m with
 | nil=>simp only [Ep,ph]; split <;> rfl
 | cons p r ih =>
  simp only [Ep]
  by_cases h:p.1=k
  ·simp only [h,if_true,ph]
   by_cases h2:k=j
   ·simp [h2]
   ·simp [h2]
  ·simp only [h,if_false,ph]
   by_cases h2:p.1=j
   ·have:k ≠ j:=fun h3=>h (h2.trans h3.symm)
    simp [h2,this]
   ·simp only [h2,if_false]
    exact ih
variable [cZ]
set_option maxRecDepth 100000
theorem v5 (n:Int):cP Tryz.prog 114 [I n] [B (qG n)]:=by
 refine bI aO mixed (aq _) (ar _) Tryz.func114 rfl (by kernel_rfl) rfl ?_
 repeat first | refine ⟨id,?_⟩ | refine ⟨fun _ h=>cx h,?_⟩ | refine ⟨fun _ h=>ay h,?_⟩ | refine ⟨fun h=>⟨h,fun h2=>aQ h h2⟩,?_⟩ | refine ⟨fun h=>⟨h,fun h2=>aF h h2⟩,?_⟩
 refine ⟨DV.Le.of_eq ?_,tv⟩
 unfold qG
 cases decide (0≤n) <;> rfl
theorem Er:rH Tryz.prog (nth tab 167).key GW:=Bv aO (by kernel_rfl)
abbrev SS:=List (Nat × Sl)
def ck (S:SS) (i:Nat):List Sl:=(S.filter (fun p=>p.1 == i)).map (·.2)
structure nZ (s:Vs) (S:SS):Prop where
 bQ:s.bQ=S.map fun p=>(p.1:Int)
 Oc:s.sl.length=4
 it:∀p∈S,p.1<4
 sl:∀(i:Nat) (f:Bool) (l:List Sl),s.sl[i]?=some (f,l)→l=ck S i
 sf:∀(i:Nat) (f:Bool) (l:List Sl),s.sl[i]?=some (f,l)→f=true→l=[]
 len:S.length≤1000
 tk:∀p∈S,0≤p.2.tick∧p.2.tick≤1099511627776
def dw (S:SS) (lim:Int):Nat:=(S.takeWhile fun p=>decide (p.2.tick≤lim)).length
theorem Gj {α:Type} (q:α→Bool):∀(S:List α) (j:Nat) (x:α),S[j]?=some x→q x=true→(S.filter q)[(S.take j).countP q]?=some x
 | [],j,x,h,_=>by simp at h
 | y::r,0,x,h,hq=>by
  simp only [List.getElem?_cons_zero,Option.some.injEq] at h
  subst h
  simp [hq]
 | y::r,j+1,x,h,hq=>by
  simp only [List.getElem?_cons_succ] at h
  have ih:=Gj q r j x h hq
  by_cases hy:q y=true
  ·simp only [List.filter_cons_of_pos hy,List.take_succ_cons,List.countP_cons_of_pos hy,List.getElem?_cons_succ]
   exact ih
  ·simp only [List.filter_cons_of_neg hy,List.take_succ_cons,List.countP_cons_of_neg hy]
   exact ih
theorem yk {α:Type} {S:List α} {j:Nat} {x:α} (h:S[j]?=some x):S.take (j+1)=S.take j++[x]:=by
 rw [List.take_add_one,h]; rfl
theorem Ko {S:SS} {lim:Int} {j:Nat} (h1:∀p∈S.take j,p.2.tick≤lim) (h2:∀x,S[j]?=some x→¬ x.2.tick≤lim) (hj:j≤S.length):dw S lim=j:=by
 induction S generalizing j with
 | nil=>simp at hj; subst hj; rfl
 | cons y r ih =>
  unfold dw
  cases j with
  | zero =>
   have:=h2 y rfl
   rw [List.takeWhile_cons_of_neg (by simpa using this)]; rfl
  | succ j =>
   have hy:y.2.tick≤lim:=h1 y (by simp)
   rw [List.takeWhile_cons_of_pos (by simpa using hy),List.length_cons]
   have:=ih (j:=j) (fun p hp=>h1 p (by rw [List.take_succ_cons]; exact List.mem_cons_of_mem _ hp)) (fun x hx=>h2 x (by simpa using hx)) (by simpa using hj)
   unfold dw at this
   rw [this]
structure Wb where
 m:IM
 j:Nat
def R8 (s:Vs) (tick:Int) (x:Wb):br:=⟨7,[(0,.ptr 0 0),(1,.dv (I tick)),(5,.own 6 0 0 []),(6,.dv (I x.j)),(13,.own 5 0 0 []),(14,.dv (I s.bQ.length)),(15,.dv (I x.j))],vK false s++[(6,.tree 0 0 (.omap GW (x.m.map Ob)))]⟩
set_option maxHeartbeats 4000000 in
theorem Ac (s:Vs) (S:SS) (h:nZ s S) (tick:Int) (hb:-4611686018427387904≤tick - s.ab∧tick - s.ab≤4611686018427387904):bl Tryz.prog 52 [.ptr 0 0,.dv (I tick)] 6 (vK false s) 0 [.dv (I (dw S (tick - s.ab)))] (vK false s):=by
 refine bn aO mixed (aq _) (ar _) Tryz.func52 rfl rfl (by kernel_rfl) ?_
 refine ⟨GW,Wb,R8 s tick,fun x=>x.j≤S.length∧(∀k:Nat,iv x.m k=((S.take x.j).countP fun p=>p.1 == k:Nat))∧∀p∈S.take x.j,p.2.tick≤tick - s.ab,fun x=>S.length - x.j,⟨[],0⟩,fun _=>rfl,⟨⟨rfl,rf,rfl,rf,rfl,aB (by rw [List.length_map]),rf,tv⟩,⟨⟨rf,rf,rf,rf,rf,rf,rfl,rfl,rfl,rfl,rfl,tv⟩,⟨rfl,rfl⟩,⟨rfl,rfl⟩,⟨rfl,rfl⟩,⟨rfl,rfl⟩,⟨rfl,rfl⟩,⟨rfl,rfl⟩,tv⟩,rfl,rfl⟩,⟨Nat.zero_le _,fun _=>by simp [iv,ph],by simp⟩,?_⟩
 rintro ⟨m,j⟩ ⟨p1,p2,p3⟩
 simp only at p1 p2 p3
 have gY:s.bQ.length=S.length:=by rw [h.bQ,List.length_map]
 refine ⟨fun aJ=>?_,fun du=>?_⟩
 ·have aJ:j<S.length:=by have:=of_decide_eq_true aJ; simp only [Int.ofNat_lt] at this; omega
  obtain ⟨⟨it,x⟩,hx⟩:∃q,S[j]?=some q:=⟨_,List.getElem?_eq_getElem aJ⟩
  have pj:(List.map I s.bQ)[((j:Int)).toNat]?=some (I (it:Int)):=by rw [h.bQ,List.map_map,List.getElem?_map,Int.toNat_natCast,hx]; rfl
  have h4:it<4:=h.it _ (List.mem_of_getElem? hx)
  have Hy:=h.tk _ (List.mem_of_getElem? hx)
  simp only at Hy
  have XX:=Gj (fun p=>p.1 == it) S j _ hx (by simp)
  obtain ⟨⟨f,l⟩,hl⟩:∃q,s.sl[it]?=some q:=⟨_,List.getElem?_eq_getElem (by rw [h.Oc]; exact h4)⟩
  have PW:=h.sl _ _ _ hl
  have hle:l[(S.take j).countP fun p=>p.1 == it]?=some x:=by rw [PW,ck,List.getElem?_map,XX]; rfl
  obtain rfl:f=false:=by
   cases f with
   | false=>rfl
   | true=>rw [h.sf _ _ _ hl rfl] at hle; cases hle
  have iF:(s.sl.map mA)[((it:Int)).toNat]?=some (.ax 5 (l.map bT)):=by rw [List.getElem?_map,Int.toNat_natCast,hl]; rfl
  have hc:=p2 it
  generalize Od:(S.take j).countP (fun p=>p.1 == it)=c at *
  have j7:c<l.length:=(List.getElem?_eq_some_iff.1 hle).1
  have XY:l.length≤S.length:=by rw [PW,ck,List.length_map]; exact List.length_filter_le ..
  have hlen:=h.len
  refine ⟨fun _=>⟨by simp only; omega,by rw [List.length_map]; simp only; omega⟩,I (it:Int),fun _=>pj,?_⟩
  refine ⟨fun _=>⟨by omega,by rw [List.length_map,h.Oc]; omega⟩,.ax 5 (l.map bT),fun _=>iF,?_⟩
  have hg:bH (m.map Ob) (I (it:Int))=bif (ph m it).isSome then some (I (iv m it)) else none:=by
   rw [Km]; unfold iv; cases ph m it <;> rfl
  have hz:(ph m it).isSome=false→I (iv m it)=I 0:=by
   intro h9; unfold iv; cases hq:ph m it with
   | none=>rfl
   | some y=>rw [hq] at h9; cases h9
  refine ⟨Er,I (it:Int),rfl,rfl,I (iv m it),(ph m it).isSome,fun _=>hg,hz,rfl,?_⟩
  have mo:iv m (it:Int)=(c:Int):=hc
  have O3:(l.map bT)[((iv m (it:Int))).toNat]?=some (bT x):=by rw [mo,List.getElem?_map,Int.toNat_natCast,hle]; rfl
  refine ⟨.ax 5 (l.map bT),fun _=>iF,?_⟩
  refine ⟨fun _=>⟨by rw [mo]; omega,by rw [List.length_map,mo]; omega⟩,?_⟩
  refine ⟨.ax 5 (l.map bT),fun _=>iF,?_⟩
  refine ⟨bT x,fun _=>O3,?_⟩
  refine ⟨fun _=>⟨by omega,by omega⟩,?_⟩
  refine ⟨by kernel_rfl,fun pQ=>?_,fun hle=>?_⟩
  ·have pQ:tick - s.ab<x.tick:=of_decide_eq_true pQ
   have hN:dw S (tick - s.ab)=j:=Ko p3 (fun y hy=>by rw [hx] at hy; injection hy with hy; subst hy; simp only; omega) p1
   rw [hN]
   exact ⟨_,_,⟨rfl,rfl⟩,by kernel_rfl,⟨rf,tv⟩,⟨rf,rf,rf,rf,rf,rf,rfl,rfl,rfl,rfl,rfl,tv⟩,⟨rfl,rfl⟩,⟨rfl,rfl⟩,⟨rfl,rfl⟩,⟨rfl,rfl⟩,⟨rfl,rfl⟩,tv⟩
  ·have LK:x.tick≤tick - s.ab:=by have:=of_decide_eq_false hle; omega
   refine ⟨Er,I (it:Int),rfl,rfl,I (iv m it),(ph m it).isSome,fun _=>hg,hz,rfl,?_⟩
   refine ⟨fun _=>⟨by rw [mo]; omega,by rw [mo]; omega⟩,?_⟩
   refine ⟨Er,I (it:Int),rfl,rfl,I (iv m it+1),⟨rf,tv⟩,rfl,false,fun _=>⟨?_,?_⟩,?_⟩
   ·intro z AN d hd
    rw [hg] at AN
    cases hk:(ph m (it:Int)).isSome with
    | false=>rw [hk] at AN; cases AN
    | true=>rw [hk] at AN; injection AN with AN; subst AN; simp [DV.cells] at hd; subst hd; rfl
   ·intro d hd
    simp [DV.cells] at hd; subst hd; rfl
   ·refine ⟨fun _=>⟨by simp only; omega,by simp only; omega⟩,fun _=>⟨by simp only; omega,by simp only; omega⟩,⟨Ep m it (iv m it+1),j+1⟩,⟨⟨rfl,rf,rfl,aB (by simp),rfl,rf,aB (by simp),tv⟩,⟨⟨rf,rf,rf,rf,rf,rf,rfl,rfl,rfl,rfl,rfl,tv⟩,⟨rfl,rfl⟩,⟨rfl,rfl⟩,⟨rfl,rfl⟩,⟨rfl,rfl⟩,⟨rfl,rfl⟩,⟨rfl,by rw [Kn]⟩,tv⟩,rfl,rfl⟩,⟨by simp only; omega,fun k=>?_,fun p hp=>?_⟩,by simp only; omega⟩
    ·simp only
     rw [MD,yk hx,List.countP_append]
     by_cases hk:(it:Int)=(k:Int)
     ·rw [if_pos hk]
      have er:it=k:=by omega
      subst er
      have:=p2 it
      rw [this]
      simp
     ·rw [if_neg hk,p2 k]
      have er:it ≠ k:=fun h=>hk (by rw [h])
      simp [er]
    ·simp only [yk hx] at hp
     rcases List.mem_append.1 hp with h1 | h1
     ·exact p3 p h1
     ·simp only [List.mem_singleton] at h1; subst h1; exact LK
 ·have hj:j=S.length:=by have:=of_decide_eq_false du; simp only at this; omega
  have hN:dw S (tick - s.ab)=j:=Ko p3 (fun y hy=>by rw [hj,List.getElem?_eq_none (Nat.le_refl _)] at hy; cases hy) p1
  rw [hN]
  exact ⟨_,_,⟨rfl,rfl⟩,by kernel_rfl,⟨rf,tv⟩,⟨rf,rf,rf,rf,rf,rf,rfl,rfl,rfl,rfl,rfl,tv⟩,⟨rfl,rfl⟩,⟨rfl,rfl⟩,⟨rfl,rfl⟩,⟨rfl,rfl⟩,⟨rfl,rfl⟩,tv⟩
end Go.Proofs.YtpbdohkbiklflaaGreatDoor
namespace Go.Proofs.YtpbdohkbiklflaaGreatDoor
open Go.TM
variable [cZ]
set_option maxRecDepth 100000
structure Mv where
 f:Int
 t:Int
 it:Int
 n:Int
def bR (m:Mv):DV:=.agg [I m.f,I m.t,I m.it,I m.n,.aG]
structure St where
 id:Int
 kind:Int
 Gk:Int
 tick:Int
 ME:Int
 times:Int
 mv:List Mv
def Ad (l:List Mv):DV:=.sl 5 (l.map bR)
def gG (s:St):DV:=.agg [I s.id,I s.kind,I s.Gk,I s.tick,I s.ME,I s.times,Ad s.mv]
def Es (s:St):AV:=.agg [.dv (I s.id),.dv (I s.kind),.dv (I s.Gk),.dv (I s.tick),.dv (I s.ME),.dv (I s.times),.dv (Ad s.mv)]
def kN (coin:Int) (a b:Mv):Int × Int × Int × Bool :=
 (a.it,a.n,b.n,bif bif bif bif bif !(decide (a.it=coin)) then decide (b.it=coin) else false then decide (a.f=b.t) else false then decide (a.t=b.f) else false then !(decide (a.f=0)) else false then !(decide (a.t=0)) else false)
def bD (coin:Int) (s:St):Int × Int × Int × Bool :=
 if s.kind ≠ 2 then (0,0,0,false) else
 match s.mv with
 | [a,b]=>if a.it=coin then kN coin b a else kN coin a b
 | _=>(0,0,0,false)
set_option maxHeartbeats 4000000 in
theorem Cb (s:Vs) (st:St):bl Tryz.prog 51 [.ptr 0 0,Es st] 6 (vK false s) 0 [.dv (I (bD s.coin st).1),.dv (I (bD s.coin st).2.1),.dv (I (bD s.coin st).2.2.1),.dv (B (bD s.coin st).2.2.2)] (vK false s):=by
 refine bn aO mixed (aq _) (ar _) Tryz.func51 rfl rfl (by kernel_rfl) ?_
 repeat first | refine ⟨id,?_⟩ | refine ⟨fun _ h=>cx h,?_⟩ | refine ⟨fun _ h=>ay h,?_⟩ | refine ⟨fun h=>⟨h,fun h2=>aQ h h2⟩,?_⟩ | refine ⟨fun h=>⟨h,fun h2=>aF h h2⟩,?_⟩
 refine ⟨fun hc=>?_,fun hc=>?_⟩
 ·have Gl:bD s.coin st=(0,0,0,false):=by
   unfold bD
   by_cases hk:st.kind=2
   ·rw [if_neg (by simpa using hk)]
    have h2:¬ st.mv.length=2:=by
     intro h2; rw [List.length_map,h2,hk] at hc; simp at hc
    match hm:st.mv with
    | []=>rfl
    | [_]=>rfl
    | [_,_]=>rw [hm] at h2; exact absurd rfl h2
    | _::_::_::_=>rfl
   ·rw [if_pos hk]
  rw [Gl]
  exact ⟨_,_,⟨rfl,rfl⟩,by kernel_rfl,⟨rf,rf,rf,rf,tv⟩,⟨rf,rf,rf,rf,rf,rf,rfl,rfl,rfl,rfl,rfl,tv⟩,⟨rfl,rfl⟩,⟨rfl,rfl⟩,⟨rfl,rfl⟩,⟨rfl,rfl⟩,⟨rfl,rfl⟩,tv⟩
 have hk:st.kind=2:=by
  by_cases hk:st.kind=2
  ·exact hk
  ·exfalso; have:(st.kind != 2)=true:=by simpa using hk
   rw [this] at hc; cases hc
 have hl:st.mv.length=2:=by
  rw [hk,List.length_map] at hc
  have:((st.mv.length:Int) != 2)=false:=hc
  simp at this; omega
 obtain ⟨a,b,hm⟩:∃a b,st.mv=[a,b]:=by
  match hm:st.mv with
  | [a,b]=>exact ⟨a,b,rfl⟩
  | []=>rw [hm] at hl; cases hl
  | [_]=>rw [hm] at hl; cases hl
  | _::_::_::_=>rw [hm] at hl; simp at hl
 have e0:(st.mv.map bR)[0]?=some (bR a):=by rw [hm]; rfl
 have e1:(st.mv.map bR)[1]?=some (bR b):=by rw [hm]; rfl
 refine ⟨bR a,fun _=>⟨by omega,e0⟩,?_⟩
 refine ⟨bR b,fun _=>⟨by omega,e1⟩,?_⟩
 have Gl:bD s.coin st=if a.it=s.coin then kN s.coin b a else kN s.coin a b:=by
  unfold bD; rw [if_neg (by simpa using hk),hm]
 refine ⟨by kernel_rfl,by kernel_rfl,fun hq=>?_,fun hq=>?_⟩
 ·have hq:a.it=s.coin:=of_decide_eq_true hq
  rw [Gl,if_pos hq]
  repeat first | refine ⟨id,?_⟩ | refine ⟨fun _ h=>cx h,?_⟩ | refine ⟨fun _ h=>ay h,?_⟩ | refine ⟨fun h=>⟨h,fun h2=>aQ h h2⟩,?_⟩ | refine ⟨fun h=>⟨h,fun h2=>aF h h2⟩,?_⟩
  exact ⟨by kernel_rfl,by kernel_rfl,_,_,⟨rfl,rfl⟩,by kernel_rfl,⟨rf,rf,rf,rf,tv⟩,⟨rf,rf,rf,rf,rf,rf,rfl,rfl,rfl,rfl,rfl,tv⟩,⟨rfl,rfl⟩,⟨rfl,rfl⟩,⟨rfl,rfl⟩,⟨rfl,rfl⟩,⟨rfl,rfl⟩,tv⟩
 ·have hq:a.it ≠ s.coin:=of_decide_eq_false hq
  rw [Gl,if_neg hq]
  repeat first | refine ⟨id,?_⟩ | refine ⟨fun _ h=>cx h,?_⟩ | refine ⟨fun _ h=>ay h,?_⟩ | refine ⟨fun h=>⟨h,fun h2=>aQ h h2⟩,?_⟩ | refine ⟨fun h=>⟨h,fun h2=>aF h h2⟩,?_⟩
  exact ⟨by kernel_rfl,by kernel_rfl,_,_,⟨rfl,rfl⟩,by kernel_rfl,⟨rf,rf,rf,rf,tv⟩,⟨rf,rf,rf,rf,rf,rf,rfl,rfl,rfl,rfl,rfl,tv⟩,⟨rfl,rfl⟩,⟨rfl,rfl⟩,⟨rfl,rfl⟩,⟨rfl,rfl⟩,⟨rfl,rfl⟩,tv⟩
end Go.Proofs.YtpbdohkbiklflaaGreatDoor
namespace Go.Proofs.YtpbdohkbiklflaaGreatDoor
open Go.TM
variable [cZ]
set_option maxRecDepth 100000
def XZ (f h g:Bool) (s:Vs):List AV:=[.dv (I 4),.dv (I s.coin),.dv (I s.ab),.dv (I s.aC),.dv (I s.last),.dv (I s.work),.own 1 0 0 [],.own 2 0 0 [],.own 3 0 (bif f then 1 else 0) [],.own 4 0 (bif h then 1 else 0) [],.own 5 (bif g then 1 else 0) 0 []]
def wV (f h g:Bool) (s:Vs):ah:=[(0,.cells (XZ f h g s)),(1,.tree 0 0 (.omap eg (s.H.map qF))),(2,.tree 0 0 (vK.iJ s.dm)),(3,.tree 0 (bif f then 1 else 0) (.ax 1 (s.rk.map Gf))),(4,.tree 0 (bif h then 1 else 0) (.ax 1 (s.sl.map mA))),(5,.tree (bif g then 1 else 0) 0 (vK.iJ s.bQ))]
def iV (l:List Sl):Int:=(l.getD (l.length - 1) ⟨0,0,0,0,0⟩).gn
def iW (l:List Sl):Int:=(l.getD (l.length - 1) ⟨0,0,0,0,0⟩).gr
def qH (s:Vs) (it:Nat) (l:List Sl) (tick n c:Int):Vs :=
 {s with work:=s.work+1,bQ:=s.bQ++[(it:Int)],sl:=s.sl.set it (false,l++[⟨tick,n,c,n+iV l,c+iW l⟩]) }
theorem PX:(nth tab (nth tab 88).elem).bytes=40:=rfl
theorem PY:(nth tab (nth tab 30).elem).bytes=8:=rfl
set_option maxHeartbeats 4000000 in
theorem v7 (s:Vs) (it:Nat) (hl:s.sl[it]?=some (true,[])) (tick n c:Int) (hw:0≤s.work∧s.work≤4611686018427387904) (hb:s.bQ.length≤1000) :
  bl Tryz.prog 54 [.ptr 0 0,.dv (I it),.agg [.dv (I tick),.dv (I n),.dv (I c),.dv (I 0),.dv (I 0)]] 6 (vK false s) 0 [] (wV false true true (qH s it [] tick n c)):=by
 refine bn aO mixed (aq _) (ar _) Tryz.func54 rfl rfl (by kernel_rfl) ?_
 have aJ:it<s.sl.length:=(List.getElem?_eq_some_iff.1 hl).1
 have iF:(s.sl.map mA)[((it:Int)).toNat]?=some .aG:=by rw [List.getElem?_map,Int.toNat_natCast,hl]; rfl
 have ei:(0:Int)≤(it:Int)∧(it:Int)<((s.sl.map mA).length:Int):=⟨by omega,by rw [List.length_map]; omega⟩
 refine ⟨fun _=>ei,.aG,fun _=>iF,?_⟩
 repeat first | refine ⟨id,?_⟩ | refine ⟨fun _ h=>cx h,?_⟩ | refine ⟨fun _ h=>ay h,?_⟩ | refine ⟨fun h=>⟨h,fun h2=>aQ h h2⟩,?_⟩ | refine ⟨fun h=>⟨h,fun h2=>aF h h2⟩,?_⟩
 refine ⟨fun h=>by simp at h,fun _=>?_⟩
 refine ⟨fun _=>ei,.aG,fun _=>iF,?_⟩
 refine .inl ⟨[bT ⟨tick,n,c,n,c⟩],rfl,⟨rf,rf,rf,rf,rf,tv⟩,(by simp; rfl),?_⟩
 refine .inr ⟨[bT ⟨tick,n,c,n,c⟩],eJ.refl _,(by rw [PX]; simp),(by simp),?_⟩
 refine ⟨fun _=>ei,?_⟩
 refine ⟨[.ax 5 [bT ⟨tick,n,c,n,c⟩]],⟨rfl,tv⟩,.aG,iF,?_⟩
 refine ⟨by kernel_rfl,.inl ⟨[I (it:Int)],rfl,⟨rf,tv⟩,(by simp; rfl),.inr ⟨[I (it:Int)],eJ.refl _,(by rw [PY]; simp; omega),(by simp; omega),?_⟩⟩⟩
 refine ⟨fun _=>⟨by omega,by omega⟩,?_⟩
 have b4:DV.ax 1 ((s.sl.map mA).set it (.ax 5 [bT ⟨tick,n,c,n,c⟩]))=.ax 1 ((s.sl.set it (false,[]++[⟨tick,n,c,n+iV [],c+iW []⟩])).map mA):=by
  rw [List.map_set]; simp [iV,iW,mA,To]
 have b5:DV.ax 1 (s.bQ.map I++[I (it:Int)])=vK.iJ (s.bQ++[(it:Int)]):=by simp [vK.iJ]
 exact ⟨_,_,⟨rfl,rfl⟩,by kernel_rfl,tv,⟨rf,rf,rf,rf,rf,rf,rfl,rfl,rfl,rfl,rfl,tv⟩,⟨rfl,rfl⟩,⟨rfl,rfl⟩,⟨rfl,rfl⟩,⟨rfl,b4⟩,⟨rfl,b5⟩,tv⟩
set_option maxHeartbeats 4000000 in
theorem v8 (s:Vs) (it:Nat) (l:List Sl) (hl:s.sl[it]?=some (false,l)) (tick n c:Int) (hw:0≤s.work∧s.work≤4611686018427387904) (hb:s.bQ.length≤1000) (PW:l.length≤1000) (hu:0≤iV l∧iV l≤1152921504606846976) (hc:0≤iW l∧iW l≤1152921504606846976) (V1:0≤n∧n≤1152921504606846976) (iy:0≤c∧c≤1152921504606846976) :
  bl Tryz.prog 54 [.ptr 0 0,.dv (I it),.agg [.dv (I tick),.dv (I n),.dv (I c),.dv (I 0),.dv (I 0)]] 6 (vK false s) 0 [] (wV false true true (qH s it l tick n c)):=by
 refine bn aO mixed (aq _) (ar _) Tryz.func54 rfl rfl (by kernel_rfl) ?_
 have aJ:it<s.sl.length:=(List.getElem?_eq_some_iff.1 hl).1
 have iF:(s.sl.map mA)[((it:Int)).toNat]?=some (.ax 5 (l.map bT)):=by rw [List.getElem?_map,Int.toNat_natCast,hl]; rfl
 have ei:(0:Int)≤(it:Int)∧(it:Int)<((s.sl.map mA).length:Int):=⟨by omega,by rw [List.length_map]; omega⟩
 have b5:DV.ax 1 (s.bQ.map I++[I (it:Int)])=vK.iJ (s.bQ++[(it:Int)]):=by simp [vK.iJ]
 refine ⟨fun _=>ei,.ax 5 (l.map bT),fun _=>iF,?_⟩
 refine ⟨.ax 5 (l.map bT),fun _=>iF,?_⟩
 repeat first | refine ⟨id,?_⟩ | refine ⟨fun _ h=>cx h,?_⟩ | refine ⟨fun _ h=>ay h,?_⟩ | refine ⟨fun h=>⟨h,fun h2=>aQ h h2⟩,?_⟩ | refine ⟨fun h=>⟨h,fun h2=>aF h h2⟩,?_⟩
 refine ⟨fun hp=>?_,fun hp=>?_⟩
 ·have hp:0<l.length:=by have:=of_decide_eq_true hp; rw [List.length_map] at this; omega
  obtain ⟨z,hz⟩:∃z,l[l.length - 1]?=some z:=⟨_,List.getElem?_eq_getElem (by omega)⟩
  have eT:iV l=z.gn:=by unfold iV; rw [List.getD_eq_getElem?_getD,hz]; rfl
  have ot:iW l=z.gr:=by unfold iW; rw [List.getD_eq_getElem?_getD,hz]; rfl
  rw [eT] at hu
  rw [ot] at hc
  have X0:(l.map bT)[(((l.map bT).length:Int) - 1).toNat]?=some (bT z):=by rw [List.length_map,show ((l.length:Int) - 1).toNat=l.length - 1 by omega,List.getElem?_map,hz]; rfl
  have Wc:(l.map bT).length=l.length:=List.length_map ..
  repeat first | refine ⟨.ax 5 (l.map bT),fun _=>iF,?_⟩ | refine ⟨bT z,fun _=>X0,?_⟩ | refine ⟨by kernel_rfl,?_⟩ | refine ⟨fun _=>⟨by omega,by omega⟩,?_⟩
  refine .inl ⟨[bT ⟨tick,n,c,n+z.gn,c+z.gr⟩],rfl,⟨rf,rf,rf,rf,rf,tv⟩,(by simp; rfl),.inr ⟨.ax 5 (l.map bT),fun _=>iF,?_⟩⟩
  refine ⟨[bT ⟨tick,n,c,n+z.gn,c+z.gr⟩],eJ.refl _,(by rw [PX]; simp; omega),(by simp; omega),.ax 5 (l.map bT),iF,?_⟩
  refine ⟨fun _=>by rw [List.length_set]; exact ei,[.ax 5 (l.map bT++[bT ⟨tick,n,c,n+z.gn,c+z.gr⟩])],⟨rfl,tv⟩,.any,List.getElem?_set_self (by rw [List.length_map]; omega),?_⟩
  refine ⟨by kernel_rfl,.inl ⟨[I (it:Int)],rfl,⟨rf,tv⟩,(by simp; rfl),.inr ⟨[I (it:Int)],eJ.refl _,(by rw [PY]; simp; omega),(by simp; omega),?_⟩⟩⟩
  refine ⟨fun _=>⟨by omega,by omega⟩,?_⟩
  have b4:DV.ax 1 (((s.sl.map mA).set ((it:Int)).toNat .any).set ((it:Int)).toNat (.ax 5 (l.map bT++[bT ⟨tick,n,c,n+z.gn,c+z.gr⟩])))=.ax 1 ((s.sl.set it (false,l++[⟨tick,n,c,n+iV l,c+iW l⟩])).map mA):=by
   rw [List.set_set,List.map_set,Int.toNat_natCast]; simp [eT,ot,mA,To]
  exact ⟨_,_,⟨rfl,rfl⟩,by kernel_rfl,tv,⟨rf,rf,rf,rf,rf,rf,rfl,rfl,rfl,rfl,rfl,tv⟩,⟨rfl,rfl⟩,⟨rfl,rfl⟩,⟨rfl,rfl⟩,⟨rfl,b4⟩,⟨rfl,b5⟩,tv⟩
 ·have hp:l=[]:=by have:=of_decide_eq_false hp; rw [List.length_map] at this; cases l with
   | nil=>rfl
   | cons _ _=>simp only [List.length_cons] at this; omega
  subst hp
  refine ⟨fun _=>ei,.ax 5 [],fun _=>iF,?_⟩
  refine .inl ⟨[bT ⟨tick,n,c,n,c⟩],rfl,⟨rf,rf,rf,rf,rf,tv⟩,(by simp; rfl),.inr ⟨.ax 5 [],fun _=>iF,?_⟩⟩
  refine ⟨[bT ⟨tick,n,c,n,c⟩],eJ.refl _,(by rw [PX]; simp),(by simp),.ax 5 [],iF,?_⟩
  refine ⟨fun _=>by rw [List.length_set]; exact ei,[.ax 5 ([]++[bT ⟨tick,n,c,n,c⟩])],⟨rfl,tv⟩,.any,List.getElem?_set_self (by rw [List.length_map]; omega),?_⟩
  refine ⟨by kernel_rfl,.inl ⟨[I (it:Int)],rfl,⟨rf,tv⟩,(by simp; rfl),.inr ⟨[I (it:Int)],eJ.refl _,(by rw [PY]; simp; omega),(by simp; omega),?_⟩⟩⟩
  refine ⟨fun _=>⟨by omega,by omega⟩,?_⟩
  have b4:DV.ax 1 (((s.sl.map mA).set ((it:Int)).toNat .any).set ((it:Int)).toNat (.ax 5 ([]++[bT ⟨tick,n,c,n,c⟩])))=.ax 1 ((s.sl.set it (false,[]++[⟨tick,n,c,n+iV [],c+iW []⟩])).map mA):=by
   rw [List.set_set,List.map_set,Int.toNat_natCast]; simp [iV,iW,mA,To]
  exact ⟨_,_,⟨rfl,rfl⟩,by kernel_rfl,tv,⟨rf,rf,rf,rf,rf,rf,rfl,rfl,rfl,rfl,rfl,tv⟩,⟨rfl,rfl⟩,⟨rfl,rfl⟩,⟨rfl,rfl⟩,⟨rfl,b4⟩,⟨rfl,b5⟩,tv⟩
end Go.Proofs.YtpbdohkbiklflaaGreatDoor
namespace Go.Proofs.YtpbdohkbiklflaaGreatDoor
open Go.TM
variable [cZ]
set_option maxRecDepth 100000
def hold (m h:HM) (k:Ky):Int:=(bm m k).getD (hv h k)
def PZ (s:Vs) (m:HM):ah:=vK false s++[(6,.cells [.ptr 0 0]),(7,.tree 0 0 (.omap eg (m.map qF))),(8,.cells [.own 7 0 0 []])]
theorem Cc (m:HM) (k:Ky):bH (m.map qF) (wU k)=bif (bm m k).isSome then some (I (hv m k)) else none:=by
 rw [Eo]; unfold hv; cases bm m k <;> rfl
theorem Gm (m:HM) (k:Ky) (h9:(bm m k).isSome=false):I (hv m k)=I 0:=by
 unfold hv
 cases hq:bm m k with
 | none=>rfl
 | some x=>rw [hq] at h9; cases h9
set_option maxHeartbeats 4000000 in
theorem lK (s:Vs) (m:HM) (k:Ky):bl Tryz.prog 113 [.agg [.dv (I k.1),.dv (I k.2)],.ptr 8 0,.ptr 6 0] 9 (PZ s m) 0 [.dv (I (hold m s.H k))] (PZ s m):=by
 refine bn aO mixed (aq _) (ar _) Tryz.func113 rfl rfl (by kernel_rfl) ?_
 refine ⟨gT,wU k,rfl,rfl,I (hv m k),(bm m k).isSome,fun _=>Cc m k,Gm m k,rfl,?_⟩
 refine ⟨fun hs=>?_,fun hn=>?_⟩
 ·have hh:hold m s.H k=hv m k:=by
   unfold hold hv; cases hq:bm m k with
   | none=>rw [hq] at hs; cases hs
   | some x=>rfl
  rw [hh]
  exact ⟨_,_,⟨rfl,rfl⟩,by kernel_rfl,⟨rf,tv⟩,⟨rf,rf,rf,rf,rf,rf,rfl,rfl,rfl,rfl,rfl,tv⟩,⟨rfl,rfl⟩,⟨rfl,rfl⟩,⟨rfl,rfl⟩,⟨rfl,rfl⟩,⟨rfl,rfl⟩,⟨rfl,tv⟩,⟨rfl,rfl⟩,⟨rfl,tv⟩,tv⟩
 ·have hh:hold m s.H k=hv s.H k:=by
   unfold hold; cases hq:bm m k with
   | none=>rfl
   | some x=>rw [hq] at hn; cases hn
  rw [hh]
  refine ⟨gT,wU k,rfl,rfl,I (hv s.H k),(bm s.H k).isSome,fun _=>Cc s.H k,Gm s.H k,rfl,?_⟩
  exact ⟨by kernel_rfl,_,_,⟨rfl,rfl⟩,by kernel_rfl,⟨rf,tv⟩,⟨rf,rf,rf,rf,rf,rf,rfl,rfl,rfl,rfl,rfl,tv⟩,⟨rfl,rfl⟩,⟨rfl,rfl⟩,⟨rfl,rfl⟩,⟨rfl,rfl⟩,⟨rfl,rfl⟩,⟨rfl,tv⟩,⟨rfl,rfl⟩,⟨rfl,tv⟩,tv⟩
def iL (v:Mv):Bool:=bif bif bif bif bif bif decide (v.it<0) then true else decide (4≤v.it) then true else decide (v.n<1) then true else decide (1099511627776<v.n) then true else !qG v.f then true else !qG v.t then true else decide (v.f=v.t)
theorem qI {v:Mv} (h:iL v=false):0≤v.it∧v.it<4∧1≤v.n∧v.n≤1099511627776∧qG v.f=true∧qG v.t=true∧v.f ≠ v.t:=by
 unfold iL at h
 simp only [Bool.cond_true_left,Bool.or_eq_false_iff,decide_eq_false_iff_not,Bool.not_eq_false'] at h
 obtain ⟨⟨⟨⟨⟨⟨h1,h2⟩,h3⟩,h4⟩,h5⟩,h6⟩,h7⟩:=h
 exact ⟨by omega,by omega,by omega,by omega,h5,h6,h7⟩
inductive R9 where
 | err (e:Int)
 | ok (m:HM)
def ko (H:HM):HM→List Mv→R9
 | m,[]=>.ok m
 | m,v::r =>
  if iL v=true then .err 1 else
  if v.f ≠ 0 then
   if hold m H (v.f,v.it)<v.n then .err 10 else
   let m1:=bM m (v.f,v.it) (hold m H (v.f,v.it) - v.n)
   ko H (if v.t ≠ 0 then bM m1 (v.t,v.it) (hold m1 H (v.t,v.it)+v.n) else m1) r
  else ko H (if v.t ≠ 0 then bM m (v.t,v.it) (hold m H (v.t,v.it)+v.n) else m) r
def R9.rs:R9→List AV
 | .err e=>[.dv .iz,.dv (I e)]
 | .ok _=>[.own 7 0 0 [],.dv (I 0)]
def R9.K:R9→ah
 | .err _=>[]
 | .ok m=>[(7,.tree 0 0 (.omap eg (m.map qF)))]
theorem yl (m:HM) (k:Ky) (x:Int) (j:Ky):bm (bM m k x) j=if k=j then some x else bm m j:=by
 induction m with
 | nil=>simp only [bM,bm]
 | cons p r ih =>
  simp only [bM]
  by_cases h:p.1=k
  ·simp only [h,if_true,bm]
   by_cases h2:k=j
   ·simp [h2]
   ·simp [h2]
  ·simp only [h,if_false,bm]
   by_cases h2:p.1=j
   ·have:k ≠ j:=fun h3=>h (h2.trans h3.symm)
    simp [h2,this]
   ·simp only [h2,if_false]
    exact ih
theorem kO (m h:HM) (k:Ky) (x:Int) (j:Ky):hold (bM m k x) h j=if k=j then x else hold m h j:=by
 unfold hold; rw [yl]; split <;> rfl
theorem Et (m:HM) (k:Ky) (x:Int):(∀z,bH (m.map qF) (wU k)=some z→z.bC)∧(I x).bC:=by
 constructor
 ·intro z AN d hd
  rw [Cc] at AN
  cases hk:(bm m k).isSome with
  | false=>rw [hk] at AN; cases AN
  | true=>rw [hk] at AN; injection AN with AN; subst AN; simp [DV.cells] at hd; subst hd; rfl
 ·intro d hd
  simp [DV.cells] at hd; subst hd; rfl
theorem Ae {m h:HM} {k:Ky} {x B C:Int} (hB:∀k,0≤hold m h k∧hold m h k≤B) (hx:0≤x∧x≤C) (YV:B≤C) (j:Ky):0≤hold (bM m k x) h j∧hold (bM m k x) h j≤C:=by
 rw [kO]; have:=hB j; split <;> omega
structure Wd where
 m:HM
 j:Nat
def Sa (s:Vs) (l:List Mv) (x:Wd):br:=⟨9,[(0,.ptr 0 0),(1,.dv (Ad l)),(2,.ptr 6 0),(4,.dv .iz),(5,.dv (I 0)),(6,.ptr 8 0),(7,.fn 113 [.ptr 8 0,.ptr 6 0]),(14,.dv (Ad l)),(15,.dv (I l.length)),(16,.dv (I x.j))],PZ s x.m⟩
set_option maxHeartbeats 4000000 in
theorem MF (s:Vs) (l:List Mv) (hl:l.length≤1000) (hH:∀k,0≤hv s.H k∧hv s.H k≤1152921504606846976):bl Tryz.prog 50 [.ptr 0 0,.dv (Ad l)] 6 (vK false s) 2 (ko s.H [] l).rs (vK false s++(ko s.H [] l).K):=by
 refine vd aO mixed (aq _) (ar _) Tryz.func50 rfl rfl (by kernel_rfl) ?_
 refine ⟨eg,Wd,Sa s l,fun x=>x.j≤l.length∧ko s.H [] l=ko s.H x.m (l.drop x.j)∧∀k,0≤hold x.m s.H k∧hold x.m s.H k≤1152921504606846976+x.j * 1099511627776,fun x=>l.length - x.j,⟨[],0⟩,fun _=>rfl,⟨⟨rfl,rf,rfl,rf,rf,rfl,⟨rfl,rfl,rfl,tv⟩,rf,aB (by rw [List.length_map]),rf,tv⟩,⟨⟨rf,rf,rf,rf,rf,rf,rfl,rfl,rfl,rfl,rfl,tv⟩,⟨rfl,rfl⟩,⟨rfl,rfl⟩,⟨rfl,rfl⟩,⟨rfl,rfl⟩,⟨rfl,rfl⟩,⟨rfl,tv⟩,⟨rfl,rfl⟩,⟨rfl,tv⟩,tv⟩,rfl,rfl⟩,⟨Nat.zero_le _,rfl,fun k=>?_⟩,?_⟩
 ·have:=hH k
  show 0≤hv s.H k∧hv s.H k≤_
  simp only; omega
 rintro ⟨m,j⟩ ⟨p1,p2,p3⟩
 simp only at p1 p2 p3
 refine ⟨fun aJ=>?_,fun du=>?_⟩
 ·have aJ:j<l.length:=by have:=of_decide_eq_true aJ; simp only [Int.ofNat_lt] at this; omega
  obtain ⟨v,iY⟩:∃v,l[j]?=some v:=⟨_,List.getElem?_eq_getElem aJ⟩
  have AO:(l.map bR)[((j:Int)).toNat]?=some (bR v):=by rw [List.getElem?_map,Int.toNat_natCast,iY]; rfl
  have aA:l.drop j=v::l.drop (j+1):=by rw [List.drop_eq_getElem_cons aJ]; congr 1; rw [List.getElem?_eq_getElem aJ] at iY; injection iY
  refine ⟨bR v,fun _=>⟨by simp only; omega,AO⟩,?_⟩
  repeat first | refine ⟨id,?_⟩ | refine ⟨fun _ h=>cx h,?_⟩ | refine ⟨fun _ h=>ay h,?_⟩ | refine ⟨fun h=>⟨h,fun h2=>aQ h h2⟩,?_⟩ | refine ⟨fun h=>⟨h,fun h2=>aF h h2⟩,?_⟩
  refine (.inl ⟨_,fun _=>(v5 v.f).ok,?_⟩)
  repeat first | refine ⟨id,?_⟩ | refine ⟨fun _ h=>cx h,?_⟩ | refine ⟨fun _ h=>ay h,?_⟩ | refine ⟨fun h=>⟨h,fun h2=>aQ h h2⟩,?_⟩ | refine ⟨fun h=>⟨h,fun h2=>aF h h2⟩,?_⟩
  refine (.inl ⟨_,fun _=>(v5 v.t).ok,?_⟩)
  repeat first | refine ⟨id,?_⟩ | refine ⟨fun _ h=>cx h,?_⟩ | refine ⟨fun _ h=>ay h,?_⟩ | refine ⟨fun h=>⟨h,fun h2=>aQ h h2⟩,?_⟩ | refine ⟨fun h=>⟨h,fun h2=>aF h h2⟩,?_⟩
  refine .inl ⟨by kernel_rfl,fun hc=>?_,fun hc=>?_⟩
  ·have Hz:iL v=true:=hc
   have hr:ko s.H [] l=.err 1:=by rw [p2,aA]; simp only [ko,Hz,if_true]
   rw [hr]
   exact ⟨_,_,⟨rfl,rfl⟩,by kernel_rfl,⟨rf,rf,tv⟩,⟨rf,rf,rf,rf,rf,rf,rfl,rfl,rfl,rfl,rfl,tv⟩,⟨rfl,rfl⟩,⟨rfl,rfl⟩,⟨rfl,rfl⟩,⟨rfl,rfl⟩,⟨rfl,rfl⟩,tv⟩
  have Hz:iL v=false:=hc
  have cw:1≤v.n∧v.n≤1099511627776∧v.f ≠ v.t:=by
   have:=qI Hz; exact ⟨this.2.2.1,this.2.2.2.1,this.2.2.2.2.2.2⟩
  refine ⟨fun hf=>?_,fun hf=>?_⟩
  ·have hf:v.f ≠ 0:=by simpa using hf
   refine .inr ⟨[0,1,2,3,4,5,6,7,8],[.agg [.dv (I v.f),.dv (I v.it)],.ptr 8 0,.ptr 6 0],PZ s m,0,_,_,lK s m (v.f,v.it),by kernel_rfl,by kernel_rfl,⟨⟨rf,rf,tv⟩,rfl,rfl,tv⟩,⟨⟨rf,rf,rf,rf,rf,rf,rfl,rfl,rfl,rfl,rfl,tv⟩,⟨rfl,rfl⟩,⟨rfl,rfl⟩,⟨rfl,rfl⟩,⟨rfl,rfl⟩,⟨rfl,rfl⟩,⟨rfl,tv⟩,⟨rfl,rfl⟩,⟨rfl,tv⟩,tv⟩,?_⟩
   refine .inl ⟨by kernel_rfl,fun hs=>?_,fun hs=>?_⟩
   ·have hs:hold m s.H (v.f,v.it)<v.n:=of_decide_eq_true hs
    have hr:ko s.H [] l=.err 10:=by rw [p2,aA]; simp only [ko,Hz]; simp [hf,hs]
    rw [hr]
    exact ⟨_,_,⟨rfl,rfl⟩,by kernel_rfl,⟨rf,rf,tv⟩,⟨rf,rf,rf,rf,rf,rf,rfl,rfl,rfl,rfl,rfl,tv⟩,⟨rfl,rfl⟩,⟨rfl,rfl⟩,⟨rfl,rfl⟩,⟨rfl,rfl⟩,⟨rfl,rfl⟩,tv⟩
   have hs:¬ hold m s.H (v.f,v.it)<v.n:=of_decide_eq_false hs
   have YW:=p3 (v.f,v.it)
   refine .inr ⟨[0,1,2,3,4,5,6,7,8],[.agg [.dv (I v.f),.dv (I v.it)],.ptr 8 0,.ptr 6 0],PZ s (m),0,_,_,lK s (m) (v.f,v.it),by kernel_rfl,by kernel_rfl,⟨⟨rf,rf,tv⟩,rfl,rfl,tv⟩,⟨⟨rf,rf,rf,rf,rf,rf,rfl,rfl,rfl,rfl,rfl,tv⟩,⟨rfl,rfl⟩,⟨rfl,rfl⟩,⟨rfl,rfl⟩,⟨rfl,rfl⟩,⟨rfl,rfl⟩,⟨rfl,tv⟩,⟨rfl,rfl⟩,⟨rfl,tv⟩,tv⟩,?_⟩
   refine ⟨fun _=>⟨by omega,by omega⟩,?_⟩
   refine ⟨gT,wU (v.f,v.it),rfl,rfl,I (hold m s.H (v.f,v.it) - v.n),⟨rf,tv⟩,rfl,false,fun _=>Et m (v.f,v.it) _,.inr ⟨[(0,4)],by kernel_rfl,qB (pol:=Ei) (by kernel_rfl) (by kernel_rfl),?_⟩⟩
   have hM:ko s.H [] l=ko s.H (if v.t ≠ 0 then bM (bM m (v.f,v.it) (hold m s.H (v.f,v.it) - v.n)) (v.t,v.it) (hold (bM m (v.f,v.it) (hold m s.H (v.f,v.it) - v.n)) s.H (v.t,v.it)+v.n) else bM m (v.f,v.it) (hold m s.H (v.f,v.it) - v.n)) (l.drop (j+1)):=by
    rw [p2,aA]; simp only [ko,Hz]; simp [hf,hs]
   have hB:∀k,0≤hold (bM m (v.f,v.it) (hold m s.H (v.f,v.it) - v.n)) s.H k∧hold (bM m (v.f,v.it) (hold m s.H (v.f,v.it) - v.n)) s.H k≤1152921504606846976+(j:Int) * 1099511627776:=by
    intro k
    rw [kO]; have:=p3 k; split <;> omega
   refine ⟨fun ht=>?_,fun ht=>?_⟩
   ·have ht:v.t ≠ 0:=by simpa using ht
    have Kp:=hM
    rw [if_pos ht] at Kp
    have X1:=hB (v.t,v.it)
    refine .inr ⟨[0,1,2,3,4,5,6,7,8],[.agg [.dv (I v.t),.dv (I v.it)],.ptr 8 0,.ptr 6 0],PZ s (bM m (v.f,v.it) (hold m s.H (v.f,v.it) - v.n)),0,_,_,lK s (bM m (v.f,v.it) (hold m s.H (v.f,v.it) - v.n)) (v.t,v.it),by kernel_rfl,by kernel_rfl,⟨⟨rf,rf,tv⟩,rfl,rfl,tv⟩,⟨⟨rf,rf,rf,rf,rf,rf,rfl,rfl,rfl,rfl,rfl,tv⟩,⟨rfl,rfl⟩,⟨rfl,rfl⟩,⟨rfl,rfl⟩,⟨rfl,rfl⟩,⟨rfl,rfl⟩,⟨rfl,tv⟩,⟨rfl,by rw [rZ]⟩,⟨rfl,tv⟩,tv⟩,?_⟩
    refine ⟨fun _=>⟨by omega,by omega⟩,?_⟩
    refine ⟨gT,wU (v.t,v.it),rfl,rfl,I (hold (bM m (v.f,v.it) (hold m s.H (v.f,v.it) - v.n)) s.H (v.t,v.it)+v.n),⟨rf,tv⟩,rfl,false,fun _=>?_,.inr ⟨[(0,4)],by kernel_rfl,qB (pol:=Ei) (by kernel_rfl) (by kernel_rfl),?_⟩⟩
    ·exact Et (bM m (v.f,v.it) (hold m s.H (v.f,v.it) - v.n)) (v.t,v.it) _
    refine ⟨fun _=>⟨by simp only; omega,by simp only; omega⟩,⟨bM (bM m (v.f,v.it) (hold m s.H (v.f,v.it) - v.n)) (v.t,v.it) (hold (bM m (v.f,v.it) (hold m s.H (v.f,v.it) - v.n)) s.H (v.t,v.it)+v.n),j+1⟩,⟨⟨rfl,rf,rfl,rf,rf,rfl,⟨rfl,rfl,rfl,tv⟩,rf,rf,aB (by simp),tv⟩,⟨⟨rf,rf,rf,rf,rf,rf,rfl,rfl,rfl,rfl,rfl,tv⟩,⟨rfl,rfl⟩,⟨rfl,rfl⟩,⟨rfl,rfl⟩,⟨rfl,rfl⟩,⟨rfl,rfl⟩,⟨rfl,tv⟩,⟨rfl,by rw [rZ]⟩,⟨rfl,tv⟩,tv⟩,rfl,rfl⟩,⟨by simp only; omega,Kp,fun k=>?_⟩,by simp only; omega⟩
    ·exact Ae hB ⟨by omega,by simp only; omega⟩ (by simp only; omega) k
   ·have ht:¬ v.t ≠ 0:=by simpa using ht
    have Kp:=hM
    rw [if_neg ht] at Kp
    refine ⟨fun _=>⟨by simp only; omega,by simp only; omega⟩,⟨bM m (v.f,v.it) (hold m s.H (v.f,v.it) - v.n),j+1⟩,⟨⟨rfl,rf,rfl,rf,rf,rfl,⟨rfl,rfl,rfl,tv⟩,rf,rf,aB (by simp),tv⟩,⟨⟨rf,rf,rf,rf,rf,rf,rfl,rfl,rfl,rfl,rfl,tv⟩,⟨rfl,rfl⟩,⟨rfl,rfl⟩,⟨rfl,rfl⟩,⟨rfl,rfl⟩,⟨rfl,rfl⟩,⟨rfl,tv⟩,⟨rfl,by rw [rZ]⟩,⟨rfl,tv⟩,tv⟩,rfl,rfl⟩,⟨by simp only; omega,Kp,fun k=>?_⟩,by simp only; omega⟩
    ·have:=hB k; simp only; omega
  ·have hf:¬ v.f ≠ 0:=by simpa using hf
   have hM:ko s.H [] l=ko s.H (if v.t ≠ 0 then bM (m) (v.t,v.it) (hold (m) s.H (v.t,v.it)+v.n) else m) (l.drop (j+1)):=by
    rw [p2,aA]; simp only [ko,Hz]; simp only [hf,if_false]; rfl
   have hB:=p3
   refine ⟨fun ht=>?_,fun ht=>?_⟩
   ·have ht:v.t ≠ 0:=by simpa using ht
    have Kp:=hM
    rw [if_pos ht] at Kp
    have X1:=hB (v.t,v.it)
    refine .inr ⟨[0,1,2,3,4,5,6,7,8],[.agg [.dv (I v.t),.dv (I v.it)],.ptr 8 0,.ptr 6 0],PZ s (m),0,_,_,lK s (m) (v.t,v.it),by kernel_rfl,by kernel_rfl,⟨⟨rf,rf,tv⟩,rfl,rfl,tv⟩,⟨⟨rf,rf,rf,rf,rf,rf,rfl,rfl,rfl,rfl,rfl,tv⟩,⟨rfl,rfl⟩,⟨rfl,rfl⟩,⟨rfl,rfl⟩,⟨rfl,rfl⟩,⟨rfl,rfl⟩,⟨rfl,tv⟩,⟨rfl,rfl⟩,⟨rfl,tv⟩,tv⟩,?_⟩
    refine ⟨fun _=>⟨by omega,by omega⟩,?_⟩
    refine ⟨gT,wU (v.t,v.it),rfl,rfl,I (hold (m) s.H (v.t,v.it)+v.n),⟨rf,tv⟩,rfl,false,fun _=>?_,.inr ⟨[(0,4)],by kernel_rfl,qB (pol:=Ei) (by kernel_rfl) (by kernel_rfl),?_⟩⟩
    ·exact Et (m) (v.t,v.it) _
    refine ⟨fun _=>⟨by simp only; omega,by simp only; omega⟩,⟨bM (m) (v.t,v.it) (hold (m) s.H (v.t,v.it)+v.n),j+1⟩,⟨⟨rfl,rf,rfl,rf,rf,rfl,⟨rfl,rfl,rfl,tv⟩,rf,rf,aB (by simp),tv⟩,⟨⟨rf,rf,rf,rf,rf,rf,rfl,rfl,rfl,rfl,rfl,tv⟩,⟨rfl,rfl⟩,⟨rfl,rfl⟩,⟨rfl,rfl⟩,⟨rfl,rfl⟩,⟨rfl,rfl⟩,⟨rfl,tv⟩,⟨rfl,by rw [rZ]⟩,⟨rfl,tv⟩,tv⟩,rfl,rfl⟩,⟨by simp only; omega,Kp,fun k=>?_⟩,by simp only; omega⟩
    ·exact Ae hB ⟨by omega,by simp only; omega⟩ (by simp only; omega) k
   ·have ht:¬ v.t ≠ 0:=by simpa using ht
    have Kp:=hM
    rw [if_neg ht] at Kp
    refine ⟨fun _=>⟨by simp only; omega,by simp only; omega⟩,⟨m,j+1⟩,⟨⟨rfl,rf,rfl,rf,rf,rfl,⟨rfl,rfl,rfl,tv⟩,rf,rf,aB (by simp),tv⟩,⟨⟨rf,rf,rf,rf,rf,rf,rfl,rfl,rfl,rfl,rfl,tv⟩,⟨rfl,rfl⟩,⟨rfl,rfl⟩,⟨rfl,rfl⟩,⟨rfl,rfl⟩,⟨rfl,rfl⟩,⟨rfl,tv⟩,⟨rfl,rfl⟩,⟨rfl,tv⟩,tv⟩,rfl,rfl⟩,⟨by simp only; omega,Kp,fun k=>?_⟩,by simp only; omega⟩
    ·have:=hB k; simp only; omega
 ·have hj:j=l.length:=by have:=of_decide_eq_false du; simp only at this; omega
  have hr:ko s.H [] l=.ok m:=by rw [p2,hj,List.drop_length]; rfl
  rw [hr]
  exact ⟨_,_,⟨rfl,rfl⟩,by kernel_rfl,⟨rfl,rf,tv⟩,⟨rf,rf,rf,rf,rf,rf,rfl,rfl,rfl,rfl,rfl,tv⟩,⟨rfl,rfl⟩,⟨rfl,rfl⟩,⟨rfl,rfl⟩,⟨rfl,rfl⟩,⟨rfl,rfl⟩,⟨rfl,rfl⟩,tv⟩
end Go.Proofs.YtpbdohkbiklflaaGreatDoor
namespace Go.Proofs.YtpbdohkbiklflaaGreatDoor
open Go.TM
def Gn (a it n:Int) (m:Mv):Int :=
 if m.it=it∧m.f=a then (if m.it=it∧m.t=a then n+m.n else n) - m.n else (if m.it=it∧m.t=a then n+m.n else n)
def ij (a it n:Int) (l:List Mv):Int:=l.foldl (Gn a it) n
def bg (a it:Int) (l:List St):Int:=l.foldl (fun n s=>ij a it n s.mv) 0
def kQ (l:List Int) (n:Int):List Int:=if n≤0 ∨ n∈l then l else l.takeWhile (fun x=>decide (x<n))++n::l.dropWhile (fun x=>decide (x<n))
def fm (o:List Int) (m:Mv):List Int:=kQ (kQ o m.f) m.t
def cn (l:List St):List Int:=l.foldl (fun o s=>s.mv.foldl fm o) []
def bh (coin:Int) (s:St):Bool:=(bD coin s).2.2.2
def Sb (coin ab tick:Int) (s:St):Bool:=bif bif bh coin s then decide (tick - ab<s.tick) else false then decide (s.tick≤tick) else false
def bq (coin ab:Int) (l:List St) (tick:Int):Nat:=l.countP (Sb coin ab tick)
def MG (a:Int) (l:List St):Nat:=(List.range 4).countP fun k=>!decide (bg a (k:Nat) l=0)
def nr (l:List St) (xs:List Int):Nat:=(xs.map fun a=>MG a l).sum
def ym (coin ab:Int) (l:List St) (tick:Int):Nat:=bq coin ab l tick+nr l (cn l)
def QD:St:=⟨0,0,0,0,0,0,[]⟩
def cC (l:List St):Int:=(l.getD (l.length - 1) QD).tick
def oj (steps:List St):List Mv→List Mv→Int
 | _,[]=>0
 | b,m::r=>if iL m=true then 1 else if m.f ≠ 0∧bg m.f m.it (steps++[⟨0,0,0,0,0,0,b⟩])<m.n then 10 else oj steps (b++[m]) r
structure RV where
 coin:Int
 ab:Int
 aC:Int
 steps:List St
 work:Int
def QM (a:Int) (l r:List St):Nat:=(List.range 4).countP fun k=>!decide (bg a (k:Nat) l=bg a (k:Nat) r)
def pk (l r:List St) (xs:List Int):Nat:=(xs.map fun a=>QM a l r).sum
def eZ (b:Bool):Int:=bif b then 1 else 0
def kn (v:RV) (st:St):Int :=
 if st.tick<cC v.steps ∨ 1099511627776<st.tick then 1 else
 if oj v.steps [] st.mv ≠ 0 then oj v.steps [] st.mv else
 if v.aC<(ym v.coin v.ab (v.steps++[st]) st.tick:Int) then 22 else 0
def nt (v:RV) (st:St):RV:={ v with steps:=v.steps++[st],work:=v.work+(pk (v.steps++[st]) v.steps (cn (v.steps++[st])):Int)+eZ (bh v.coin st)+(bq v.coin v.ab v.steps (cC v.steps):Int) - ((bq v.coin v.ab (v.steps++[st]) st.tick:Int) - eZ (bh v.coin st)) }
def ai (k:Int):Int:=[(1:Int),2,3,4,1048577,9].getD (k.tmod 6).toNat 0
def UP (s:St):Prop:=s.mv.length≤4∧(∀m∈s.mv,-1099511627776≤m.n∧m.n≤1099511627776)
def r6 (l:List St):Prop:=l.length≤100∧∀s∈l,UP s
theorem pn (a it:Int) (l:List St) (s:St):bg a it (l++[s])=ij a it (bg a it l) s.mv:=by simp [bg,List.foldl_append]
theorem yn (a it n:Int) (l:List Mv) (m:Mv):ij a it n (l++[m])=Gn a it (ij a it n l) m:=by simp [ij,List.foldl_append]
theorem Sc (a it n:Int) (m:Mv) (hm:-1099511627776≤m.n∧m.n≤1099511627776):n - 2199023255552≤Gn a it n m∧Gn a it n m≤n+2199023255552:=by
 unfold Gn; split <;> split <;> omega
theorem Eu (a it:Int):∀(l:List Mv) (n:Int),(∀m∈l,-1099511627776≤m.n∧m.n≤1099511627776)→n - 2199023255552 * l.length≤ij a it n l∧ij a it n l≤n+2199023255552 * l.length
 | [],n,_=>by simp [ij]
 | m::r,n,h=>by
  have h1:=Eu a it r (Gn a it n m) fun x hx=>h x (List.mem_cons_of_mem _ hx)
  have h2:=Sc a it n m (h m List.mem_cons_self)
  show _≤ij a it (Gn a it n m) r∧ij a it (Gn a it n m) r≤_
  simp only [List.length_cons]
  omega
theorem qJ (a it:Int):∀(l:List St) (n:Int),(∀s∈l,UP s)→n - 8796093022208 * l.length≤l.foldl (fun n s=>ij a it n s.mv) n∧l.foldl (fun n s=>ij a it n s.mv) n≤n+8796093022208 * l.length
 | [],n,_=>by simp
 | s::r,n,h=>by
  have h1:=qJ a it r (ij a it n s.mv) fun x hx=>h x (List.mem_cons_of_mem _ hx)
  have hs:=h s List.mem_cons_self
  have h2:=Eu a it s.mv n hs.2
  have h3:=hs.1
  simp only [List.length_cons,List.foldl_cons]
  omega
theorem MH (a it:Int) {l:List St} (h:r6 l):-879609302220800≤bg a it l∧bg a it l≤879609302220800:=by
 have h1:=qJ a it l 0 h.2
 have h2:=h.1
 unfold bg
 omega
theorem r6.take {l:List St} (h:r6 l) (i:Nat):r6 (l.take i):=⟨by rw [List.length_take]; have:=h.1; omega,fun s hs=>h.2 s (List.mem_of_mem_take hs)⟩
end Go.Proofs.YtpbdohkbiklflaaGreatDoor
