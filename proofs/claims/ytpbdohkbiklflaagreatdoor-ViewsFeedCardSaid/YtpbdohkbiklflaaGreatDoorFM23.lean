import Derived.Test.YtpbdohkbiklflaaGreatDoorFM22
import Derived.Test.YtpbdohkbiklflaaGreatDoorFM20
set_option linter.unusedVariables false
set_option linter.unusedSimpArgs false
set_option linter.unusedSectionVars false
namespace Go.Proofs.YtpbdohkbiklflaaGreatDoor
open Go.TM
variable [de]
set_option maxRecDepth 100000
theorem sm (s:Vs) (h:s.H.length+s.bL.length≤1000000):bn Tryz.prog 25 [.ptr 0 0] 6 (vK false s) 0 [.dv (I ((s.H.length:Int)+(s.bL.length:Int)))] (vK false s):=by
 refine bl aG mixed (aq _) (ar _) Tryz.func25 rfl rfl (by kernel_rfl) ?_
 refine ⟨fun _=>⟨by rw [List.length_map,List.length_map]; omega,by rw [List.length_map,List.length_map]; omega⟩,by kernel_rfl,?_⟩
 exact ⟨_,_,⟨rfl,rfl⟩,by kernel_rfl,⟨az (by rw [List.length_map,List.length_map]),tv⟩,⟨rf,rf,rf,rf,rf,rf,rfl,rfl,rfl,rfl,rfl,tv⟩,⟨rfl,rfl⟩,⟨rfl,rfl⟩,⟨rfl,rfl⟩,⟨rfl,rfl⟩,⟨rfl,rfl⟩,tv⟩
theorem Qz (s:Vs) (k:Ky):bH (s.H.map pT) (ug k)=bif (bm s.H k).isSome then some (I (hv s.H k)) else none:=by
 rw [AA]
 unfold hv
 cases bm s.H k <;> rfl
theorem Nd {s:Vs} {k:Ky} (h:(bm s.H k).isSome=false):hv s.H k=0:=by
 unfold hv
 cases hq:bm s.H k with
 | none=>rfl
 | some x=>rw [hq] at h; cases h
theorem Ie (s:Vs) (a it:Int):bn Tryz.prog 58 [.ptr 0 0,.dv (I a),.dv (I it)] 6 (vK false s) 0 [.dv (I (hv s.H (a,it)))] (vK false s):=by
 refine bl aG mixed (aq _) (ar _) Tryz.func58 rfl rfl (by kernel_rfl) ?_
 refine ⟨gz,ug (a,it),rfl,rfl,I (hv s.H (a,it)),(bm s.H (a,it)).isSome,fun _=>Qz s _,fun h=>by rw [Nd h]; rfl,rfl,?_⟩
 exact ⟨_,_,⟨rfl,rfl⟩,by kernel_rfl,⟨rf,tv⟩,⟨rf,rf,rf,rf,rf,rf,rfl,rfl,rfl,rfl,rfl,tv⟩,⟨rfl,rfl⟩,⟨rfl,rfl⟩,⟨rfl,rfl⟩,⟨rfl,rfl⟩,⟨rfl,rfl⟩,tv⟩
theorem EX (s:Vs) (hl:s.cS.length=4) (it:Int):bn Tryz.prog 26 [.ptr 0 0,.dv (I it)] 6 (vK false s) 0 [.dv (I (if it<0 ∨ 4≤it then 0 else s.cS.getD it.toNat 0))] (vK false s):=by
 refine bl aG mixed (aq _) (ar _) Tryz.func26 rfl rfl (by kernel_rfl) ?_
 repeat first | refine ⟨id,?_⟩ | refine ⟨fun _ h=>cf h,?_⟩ | refine ⟨fun _ h=>ax h,?_⟩ | refine ⟨fun h=>⟨h,fun h2=>aQ h h2⟩,?_⟩ | refine ⟨fun h=>⟨h,fun h2=>aD h h2⟩,?_⟩
 have e:(bif decide (it<0) then true else decide (4≤it))=decide (it<0 ∨ 4≤it):=by by_cases h1:it<0 <;> simp [h1]
 refine ⟨fun h=>?_,fun h=>?_⟩
 ·have h:=of_decide_eq_true (e.symm.trans h)
  rw [if_pos h]
  exact ⟨_,_,⟨rfl,rfl⟩,by kernel_rfl,⟨rf,tv⟩,⟨rf,rf,rf,rf,rf,rf,rfl,rfl,rfl,rfl,rfl,tv⟩,⟨rfl,rfl⟩,⟨rfl,rfl⟩,⟨rfl,rfl⟩,⟨rfl,rfl⟩,⟨rfl,rfl⟩,tv⟩
 ·have h:=of_decide_eq_false (e.symm.trans h)
  rw [if_neg h]
  refine ⟨fun _=>⟨by omega,by rw [List.length_map]; omega⟩,I (s.cS.getD it.toNat 0),fun _=>?_,?_⟩
  ·rw [List.getElem?_map,List.getElem?_eq_getElem (by omega:it.toNat<s.cS.length),List.getD_eq_getElem?_getD,List.getElem?_eq_getElem (by omega:it.toNat<s.cS.length)]; rfl
  ·exact ⟨_,_,⟨rfl,rfl⟩,by kernel_rfl,⟨rf,tv⟩,⟨rf,rf,rf,rf,rf,rf,rfl,rfl,rfl,rfl,rfl,tv⟩,⟨rfl,rfl⟩,⟨rfl,rfl⟩,⟨rfl,rfl⟩,⟨rfl,rfl⟩,⟨rfl,rfl⟩,tv⟩
def Cy (s:Vs) (it n:Int):List Rk:=if it<0 ∨ 4≤it ∨ n≤0 then [] else (s.rk.getD it.toNat (true,[])).2.take n.toNat
theorem Cz {L:List DV} {i:Nat} {f:Bool} {l:List Rk} (h:L[i]?=some (dY f l)) (hf:f=true→l=[]) (n:Nat) (hn:1≤n) (KR:n≤9223372036854775807) (hl:l.length≤1000) :
  bn Tryz.prog 55 [.own 0 0 0 [.el i 0],.dv (I n)] 1 [(0,.tree 0 0 (.ay 1 L))] 0 [.dv (.sl 2 ((l.take n).map eR))] [(0,.tree 0 0 (.ay 1 L))]:=by
 have hs:bN (.ay 1 L) [.el i 0] (dY f l)=.ay 1 L:=by
  rw [uh h rfl rfl]
  congr 1
  obtain ⟨aK,he⟩:=List.getElem?_eq_some_iff.1 h
  rw [←he]; exact List.set_getElem_self aK
 cases l with
 | nil =>
  have:=tn (p:=[.el i 0]) (D:=.ay 1 L) (Cv f n) hs (wu h rfl) (by simp) rfl rfl rfl rfl
  simpa using this
 | cons r l' =>
  cases f with
  | true=>have:=hf rfl; cases this
  | false=>exact tn (p:=[.el i 0]) (D:=.ay 1 L) (Cw n hn KR r l' hl) hs (wu h rfl) (by simp) rfl rfl rfl rfl
theorem wv (s:Vs) (hl:s.rk.length=4) (hr:∀x,x∈s.rk→x.2.length≤1000∧(x.1=true→x.2=[])) (it n:Int) (hn:n≤9223372036854775807) :
  bn Tryz.prog 29 [.ptr 0 0,.dv (I it),.dv (I n)] 6 (vK false s) 0 [.dv (.sl 2 ((Cy s it n).map eR))] (vK false s):=by
 refine bl aG mixed (aq _) (ar _) Tryz.func29 rfl rfl (by kernel_rfl) ?_
 repeat first | refine ⟨id,?_⟩ | refine ⟨fun _ h=>cf h,?_⟩ | refine ⟨fun _ h=>ax h,?_⟩ | refine ⟨fun h=>⟨h,fun h2=>aQ h h2⟩,?_⟩ | refine ⟨fun h=>⟨h,fun h2=>aD h h2⟩,?_⟩
 have e:(bif bif decide (it<0) then true else decide (4≤it) then true else decide (n≤0))=decide (it<0 ∨ 4≤it ∨ n≤0):=by by_cases h1:it<0 <;> by_cases h2:4≤it <;> simp [h1,h2]
 refine ⟨fun h=>?_,fun h=>?_⟩
 ·have h:=of_decide_eq_true (e.symm.trans h)
  rw [show Cy s it n=[] from if_pos h]
  exact ⟨_,_,⟨rfl,rfl⟩,by kernel_rfl,⟨od _,tv⟩,⟨rf,rf,rf,rf,rf,rf,rfl,rfl,rfl,rfl,rfl,tv⟩,⟨rfl,rfl⟩,⟨rfl,rfl⟩,⟨rfl,rfl⟩,⟨rfl,rfl⟩,⟨rfl,rfl⟩,tv⟩
 ·have h:=of_decide_eq_false (e.symm.trans h)
  obtain ⟨i,rfl⟩:=Int.eq_ofNat_of_zero_le (show 0≤it by omega)
  obtain ⟨m,rfl⟩:=Int.eq_ofNat_of_zero_le (show 0≤n by omega)
  have hi:i<s.rk.length:=by omega
  have K6:s.rk[i]?=some (s.rk.getD i (true,[])):=by rw [List.getD_eq_getElem?_getD,List.getElem?_eq_getElem hi]; rfl
  rw [show Cy s (i:Int) (m:Int)=(s.rk.getD i (true,[])).2.take m from if_neg h]
  obtain ⟨q1,q2⟩:=hr _ (List.mem_of_getElem? K6)
  generalize s.rk.getD i (true,[])=q0 at *
  obtain ⟨f0,l0⟩:=q0
  have OK:(s.rk.map GO)[i]?=some (dY f0 l0):=by rw [List.getElem?_map,K6]; rfl
  have xd:=Cz OK q2 m (by omega) (by omega) q1
  refine ⟨fun _=>⟨by omega,by rw [List.length_map]; omega⟩,dY f0 l0,fun _=>OK,?_⟩
  refine .inr ⟨[3],[.own 0 0 0 [.el i 0],.dv (I m)],[(0,.tree 0 0 (.ay 1 (s.rk.map GO)))],0,_,_,xd,by kernel_rfl,by kernel_rfl,⟨rfl,rf,tv⟩,⟨⟨rfl,rfl⟩,tv⟩,?_⟩
  exact ⟨_,_,⟨rfl,rfl⟩,by kernel_rfl,⟨rf,tv⟩,⟨rf,rf,rf,rf,rf,rf,rfl,rfl,rfl,rfl,rfl,tv⟩,⟨rfl,rfl⟩,⟨rfl,rfl⟩,⟨rfl,rfl⟩,⟨rfl,rfl⟩,⟨rfl,rfl⟩,tv⟩
end Go.Proofs.YtpbdohkbiklflaaGreatDoor
namespace Go.Proofs.YtpbdohkbiklflaaGreatDoor
open Go.TM
def qR (n:Int):Bool:=decide (0≤n) && decide (n≤1073741824)
abbrev IM:=List (Int × Int)
def OP (p:Int × Int):DV:=.fa (I p.1) (I p.2)
def pC:IM→Int→Option Int
 | [],_=>none
 | p::r,k=>if p.1=k then some p.2 else pC r k
def EY:IM→Int→Int→IM
 | [],k,x=>[(k,x)]
 | p::r,k,x=>if p.1=k then (k,x)::r else p::EY r k x
def iv (m:IM) (k:Int):Int:=(pC m k).getD 0
theorem GQ (a b:Int):tP (I a) (I b)=decide (a=b):=by
 simp only [tP,Bl]
 try rw [Bool.eq_iff_iff]; simp
theorem K7 (k:Int):∀m:IM,bH (m.map OP) (I k)=(pC m k).map I
 | []=>rfl
 | p::r=>by
  simp only [List.map_cons,OP,bH,GQ,pC]
  by_cases h:p.1=k
  ·simp [h]
  ·simp only [h,decide_false,cond_false,if_false]
   exact K7 k r
theorem K8 (k x:Int):∀m:IM,ez (m.map OP) (I k) (I x)=(EY m k x).map OP
 | []=>rfl
 | p::r=>by
  simp only [List.map_cons,OP,ez,GQ,EY]
  by_cases h:p.1=k
  ·simp [h,OP]
  ·simp only [h,decide_false,cond_false,if_false,List.map_cons]
   have:=K8 k x r
   rw [this]
   rfl
theorem Nf (m:IM) (k x j:Int):iv (EY m k x) j=if k=j then x else iv m j:=by
 unfold iv
 induction m with
 | nil=>simp only [EY,pC]; split <;> rfl
 | cons p r ih =>
  simp only [EY]
  by_cases h:p.1=k
  ·simp only [h,if_true,pC]
   by_cases h2:k=j
   ·simp [h2]
   ·simp [h2]
  ·simp only [h,if_false,pC]
   by_cases h2:p.1=j
   ·have:k ≠ j:=fun h3=>h (h2.trans h3.symm)
    simp [h2,this]
   ·simp only [h2,if_false]
    exact ih
variable [de]
set_option maxRecDepth 100000
theorem wx (n:Int):ct Tryz.prog 114 [I n] [B (qR n)]:=by
 refine bp aG mixed (aq _) (ar _) Tryz.func114 rfl (by kernel_rfl) rfl ?_
 repeat first | refine ⟨id,?_⟩ | refine ⟨fun _ h=>cf h,?_⟩ | refine ⟨fun _ h=>ax h,?_⟩ | refine ⟨fun h=>⟨h,fun h2=>aQ h h2⟩,?_⟩ | refine ⟨fun h=>⟨h,fun h2=>aD h h2⟩,?_⟩
 refine ⟨DV.Le.of_eq ?_,tv⟩
 unfold qR
 cases decide (0≤n) <;> rfl
theorem EZ:rR Tryz.prog (nth tab 167).key HE:=BV aG (by kernel_rfl)
abbrev SS:=List (Nat × Sl)
def cl (S:SS) (i:Nat):List Sl:=(S.filter (fun p=>p.1 == i)).map (·.2)
structure oe (s:Vs) (S:SS):Prop where
 bL:s.bL=S.map fun p=>(p.1:Int)
 OQ:s.sl.length=4
 it:∀p∈S,p.1<4
 sl:∀(i:Nat) (f:Bool) (l:List Sl),s.sl[i]?=some (f,l)→l=cl S i
 sf:∀(i:Nat) (f:Bool) (l:List Sl),s.sl[i]?=some (f,l)→f=true→l=[]
 len:S.length≤1000
 tk:∀p∈S,0≤p.2.tick∧p.2.tick≤1099511627776
def du (S:SS) (lim:Int):Nat:=(S.takeWhile fun p=>decide (p.2.tick≤lim)).length
theorem GR {α:Type} (q:α→Bool):∀(S:List α) (j:Nat) (x:α),S[j]?=some x→q x=true→(S.filter q)[(S.take j).countP q]?=some x
 | [],j,x,h,_=>by simp at h
 | y::r,0,x,h,hq=>by
  simp only [List.getElem?_cons_zero,Option.some.injEq] at h
  subst h
  simp [hq]
 | y::r,j+1,x,h,hq=>by
  simp only [List.getElem?_cons_succ] at h
  have ih:=GR q r j x h hq
  by_cases hy:q y=true
  ·simp only [List.filter_cons_of_pos hy,List.take_succ_cons,List.countP_cons_of_pos hy,List.getElem?_cons_succ]
   exact ih
  ·simp only [List.filter_cons_of_neg hy,List.take_succ_cons,List.countP_cons_of_neg hy]
   exact ih
theorem yM {α:Type} {S:List α} {j:Nat} {x:α} (h:S[j]?=some x):S.take (j+1)=S.take j++[x]:=by
 rw [List.take_add_one,h]; rfl
theorem K9 {S:SS} {lim:Int} {j:Nat} (h1:∀p∈S.take j,p.2.tick≤lim) (h2:∀x,S[j]?=some x→¬ x.2.tick≤lim) (hj:j≤S.length):du S lim=j:=by
 induction S generalizing j with
 | nil=>simp at hj; subst hj; rfl
 | cons y r ih =>
  unfold du
  cases j with
  | zero =>
   have:=h2 y rfl
   rw [List.takeWhile_cons_of_neg (by simpa using this)]; rfl
  | succ j =>
   have hy:y.2.tick≤lim:=h1 y (by simp)
   rw [List.takeWhile_cons_of_pos (by simpa using hy),List.length_cons]
   have:=ih (j:=j) (fun p hp=>h1 p (by rw [List.take_succ_cons]; exact List.mem_cons_of_mem _ hp)) (fun x hx=>h2 x (by simpa using hx)) (by simpa using hj)
   unfold du at this
   rw [this]
structure WW where
 m:IM
 j:Nat
def SP (s:Vs) (tick:Int) (x:WW):bh:=⟨7,[(0,.ptr 0 0),(1,.dv (I tick)),(5,.own 6 0 0 []),(6,.dv (I x.j)),(13,.own 5 0 0 []),(14,.dv (I s.bL.length)),(15,.dv (I x.j))],vK false s++[(6,.tree 0 0 (.omap HE (x.m.map OP)))]⟩
set_option maxHeartbeats 4000000 in
theorem AB (s:Vs) (S:SS) (h:oe s S) (tick:Int) (hb:-4611686018427387904≤tick - s.ab∧tick - s.ab≤4611686018427387904):bn Tryz.prog 52 [.ptr 0 0,.dv (I tick)] 6 (vK false s) 0 [.dv (I (du S (tick - s.ab)))] (vK false s):=by
 refine bl aG mixed (aq _) (ar _) Tryz.func52 rfl rfl (by kernel_rfl) ?_
 refine ⟨HE,WW,SP s tick,fun x=>x.j≤S.length∧(∀k:Nat,iv x.m k=((S.take x.j).countP fun p=>p.1 == k:Nat))∧∀p∈S.take x.j,p.2.tick≤tick - s.ab,fun x=>S.length - x.j,⟨[],0⟩,fun _=>rfl,⟨⟨rfl,rf,rfl,rf,rfl,az (by rw [List.length_map]),rf,tv⟩,⟨⟨rf,rf,rf,rf,rf,rf,rfl,rfl,rfl,rfl,rfl,tv⟩,⟨rfl,rfl⟩,⟨rfl,rfl⟩,⟨rfl,rfl⟩,⟨rfl,rfl⟩,⟨rfl,rfl⟩,⟨rfl,rfl⟩,tv⟩,rfl,rfl⟩,⟨Nat.zero_le _,fun _=>by simp [iv,pC],by simp⟩,?_⟩
 rintro ⟨m,j⟩ ⟨p1,p2,p3⟩
 simp only at p1 p2 p3
 have iI:s.bL.length=S.length:=by rw [h.bL,List.length_map]
 refine ⟨fun aK=>?_,fun dk=>?_⟩
 ·have aK:j<S.length:=by have:=of_decide_eq_true aK; simp only [Int.ofNat_lt] at this; omega
  obtain ⟨⟨it,x⟩,hx⟩:∃q,S[j]?=some q:=⟨_,List.getElem?_eq_getElem aK⟩
  have sn:(List.map I s.bL)[((j:Int)).toNat]?=some (I (it:Int)):=by rw [h.bL,List.map_map,List.getElem?_map,Int.toNat_natCast,hx]; rfl
  have h4:it<4:=h.it _ (List.mem_of_getElem? hx)
  have Ig:=h.tk _ (List.mem_of_getElem? hx)
  simp only at Ig
  have YD:=GR (fun p=>p.1 == it) S j _ hx (by simp)
  obtain ⟨⟨f,l⟩,hl⟩:∃q,s.sl[it]?=some q:=⟨_,List.getElem?_eq_getElem (by rw [h.OQ]; exact h4)⟩
  have QA:=h.sl _ _ _ hl
  have hle:l[(S.take j).countP fun p=>p.1 == it]?=some x:=by rw [QA,cl,List.getElem?_map,YD]; rfl
  obtain rfl:f=false:=by
   cases f with
   | false=>rfl
   | true=>rw [h.sf _ _ _ hl rfl] at hle; cases hle
  have iG:(s.sl.map mD)[((it:Int)).toNat]?=some (.ay 5 (l.map bT)):=by rw [List.getElem?_map,Int.toNat_natCast,hl]; rfl
  have hc:=p2 it
  generalize OR:(S.take j).countP (fun p=>p.1 == it)=c at *
  have j9:c<l.length:=(List.getElem?_eq_some_iff.1 hle).1
  have YE:l.length≤S.length:=by rw [QA,cl,List.length_map]; exact List.length_filter_le ..
  have hlen:=h.len
  refine ⟨fun _=>⟨by simp only; omega,by rw [List.length_map]; simp only; omega⟩,I (it:Int),fun _=>sn,?_⟩
  refine ⟨fun _=>⟨by omega,by rw [List.length_map,h.OQ]; omega⟩,.ay 5 (l.map bT),fun _=>iG,?_⟩
  have hg:bH (m.map OP) (I (it:Int))=bif (pC m it).isSome then some (I (iv m it)) else none:=by
   rw [K7]; unfold iv; cases pC m it <;> rfl
  have hz:(pC m it).isSome=false→I (iv m it)=I 0:=by
   intro h9; unfold iv; cases hq:pC m it with
   | none=>rfl
   | some y=>rw [hq] at h9; cases h9
  refine ⟨EZ,I (it:Int),rfl,rfl,I (iv m it),(pC m it).isSome,fun _=>hg,hz,rfl,?_⟩
  have mu:iv m (it:Int)=(c:Int):=hc
  have PI:(l.map bT)[((iv m (it:Int))).toNat]?=some (bT x):=by rw [mu,List.getElem?_map,Int.toNat_natCast,hle]; rfl
  refine ⟨.ay 5 (l.map bT),fun _=>iG,?_⟩
  refine ⟨fun _=>⟨by rw [mu]; omega,by rw [List.length_map,mu]; omega⟩,?_⟩
  refine ⟨.ay 5 (l.map bT),fun _=>iG,?_⟩
  refine ⟨bT x,fun _=>PI,?_⟩
  refine ⟨fun _=>⟨by omega,by omega⟩,?_⟩
  refine ⟨by kernel_rfl,fun qd=>?_,fun hle=>?_⟩
  ·have qd:tick - s.ab<x.tick:=of_decide_eq_true qd
   have hN:du S (tick - s.ab)=j:=K9 p3 (fun y hy=>by rw [hx] at hy; injection hy with hy; subst hy; simp only; omega) p1
   rw [hN]
   exact ⟨_,_,⟨rfl,rfl⟩,by kernel_rfl,⟨rf,tv⟩,⟨rf,rf,rf,rf,rf,rf,rfl,rfl,rfl,rfl,rfl,tv⟩,⟨rfl,rfl⟩,⟨rfl,rfl⟩,⟨rfl,rfl⟩,⟨rfl,rfl⟩,⟨rfl,rfl⟩,tv⟩
  ·have Ml:x.tick≤tick - s.ab:=by have:=of_decide_eq_false hle; omega
   refine ⟨EZ,I (it:Int),rfl,rfl,I (iv m it),(pC m it).isSome,fun _=>hg,hz,rfl,?_⟩
   refine ⟨fun _=>⟨by rw [mu]; omega,by rw [mu]; omega⟩,?_⟩
   refine ⟨EZ,I (it:Int),rfl,rfl,I (iv m it+1),⟨rf,tv⟩,rfl,false,fun _=>⟨?_,?_⟩,?_⟩
   ·intro z Bh d hd
    rw [hg] at Bh
    cases hk:(pC m (it:Int)).isSome with
    | false=>rw [hk] at Bh; cases Bh
    | true=>rw [hk] at Bh; injection Bh with Bh; subst Bh; simp [DV.cells] at hd; subst hd; rfl
   ·intro d hd
    simp [DV.cells] at hd; subst hd; rfl
   ·refine ⟨fun _=>⟨by simp only; omega,by simp only; omega⟩,fun _=>⟨by simp only; omega,by simp only; omega⟩,⟨EY m it (iv m it+1),j+1⟩,⟨⟨rfl,rf,rfl,az (by simp),rfl,rf,az (by simp),tv⟩,⟨⟨rf,rf,rf,rf,rf,rf,rfl,rfl,rfl,rfl,rfl,tv⟩,⟨rfl,rfl⟩,⟨rfl,rfl⟩,⟨rfl,rfl⟩,⟨rfl,rfl⟩,⟨rfl,rfl⟩,⟨rfl,by rw [K8]⟩,tv⟩,rfl,rfl⟩,⟨by simp only; omega,fun k=>?_,fun p hp=>?_⟩,by simp only; omega⟩
    ·simp only
     rw [Nf,yM hx,List.countP_append]
     by_cases hk:(it:Int)=(k:Int)
     ·rw [if_pos hk]
      have ey:it=k:=by omega
      subst ey
      have:=p2 it
      rw [this]
      simp
     ·rw [if_neg hk,p2 k]
      have ey:it ≠ k:=fun h=>hk (by rw [h])
      simp [ey]
    ·simp only [yM hx] at hp
     rcases List.mem_append.1 hp with h1 | h1
     ·exact p3 p h1
     ·simp only [List.mem_singleton] at h1; subst h1; exact Ml
 ·have hj:j=S.length:=by have:=of_decide_eq_false dk; simp only at this; omega
  have hN:du S (tick - s.ab)=j:=K9 p3 (fun y hy=>by rw [hj,List.getElem?_eq_none (Nat.le_refl _)] at hy; cases hy) p1
  rw [hN]
  exact ⟨_,_,⟨rfl,rfl⟩,by kernel_rfl,⟨rf,tv⟩,⟨rf,rf,rf,rf,rf,rf,rfl,rfl,rfl,rfl,rfl,tv⟩,⟨rfl,rfl⟩,⟨rfl,rfl⟩,⟨rfl,rfl⟩,⟨rfl,rfl⟩,⟨rfl,rfl⟩,tv⟩
end Go.Proofs.YtpbdohkbiklflaaGreatDoor
namespace Go.Proofs.YtpbdohkbiklflaaGreatDoor
open Go.TM
variable [de]
set_option maxRecDepth 100000
structure Mv where
 f:Int
 t:Int
 it:Int
 n:Int
def cD (m:Mv):DV:=.agg [I m.f,I m.t,I m.it,I m.n,.aH]
structure St where
 id:Int
 kind:Int
 GS:Int
 tick:Int
 Ng:Int
 times:Int
 mv:List Mv
def AD (l:List Mv):DV:=.sl 5 (l.map cD)
def gL (s:St):DV:=.agg [I s.id,I s.kind,I s.GS,I s.tick,I s.Ng,I s.times,AD s.mv]
def AE (s:St):AV:=.agg [.dv (I s.id),.dv (I s.kind),.dv (I s.GS),.dv (I s.tick),.dv (I s.Ng),.dv (I s.times),.dv (AD s.mv)]
def kN (coin:Int) (a b:Mv):Int × Int × Int × Bool :=
 (a.it,a.n,b.n,bif bif bif bif bif !(decide (a.it=coin)) then decide (b.it=coin) else false then decide (a.f=b.t) else false then decide (a.t=b.f) else false then !(decide (a.f=0)) else false then !(decide (a.t=0)) else false)
def bQ (coin:Int) (s:St):Int × Int × Int × Bool :=
 if s.kind ≠ 2 then (0,0,0,false) else
 match s.mv with
 | [a,b]=>if a.it=coin then kN coin b a else kN coin a b
 | _=>(0,0,0,false)
set_option maxHeartbeats 4000000 in
theorem CA (s:Vs) (st:St):bn Tryz.prog 51 [.ptr 0 0,AE st] 6 (vK false s) 0 [.dv (I (bQ s.coin st).1),.dv (I (bQ s.coin st).2.1),.dv (I (bQ s.coin st).2.2.1),.dv (B (bQ s.coin st).2.2.2)] (vK false s):=by
 refine bl aG mixed (aq _) (ar _) Tryz.func51 rfl rfl (by kernel_rfl) ?_
 repeat first | refine ⟨id,?_⟩ | refine ⟨fun _ h=>cf h,?_⟩ | refine ⟨fun _ h=>ax h,?_⟩ | refine ⟨fun h=>⟨h,fun h2=>aQ h h2⟩,?_⟩ | refine ⟨fun h=>⟨h,fun h2=>aD h h2⟩,?_⟩
 refine ⟨fun hc=>?_,fun hc=>?_⟩
 ·have xl:bQ s.coin st=(0,0,0,false):=by
   unfold bQ
   by_cases hk:st.kind=2
   ·rw [if_neg (by simpa using hk)]
    have h2:¬ st.mv.length=2:=by
     intro h2; rw [List.length_map,h2,hk] at hc; simp at hc
    match hm:st.mv with
    | []=>rfl
    | [_]=>rfl
    | [_,_]=>rw [hm] at h2; exact absurd rfl h2
    | _::_::_::_=>rfl
   ·rw [if_pos hk]
  rw [xl]
  exact ⟨_,_,⟨rfl,rfl⟩,by kernel_rfl,⟨rf,rf,rf,rf,tv⟩,⟨rf,rf,rf,rf,rf,rf,rfl,rfl,rfl,rfl,rfl,tv⟩,⟨rfl,rfl⟩,⟨rfl,rfl⟩,⟨rfl,rfl⟩,⟨rfl,rfl⟩,⟨rfl,rfl⟩,tv⟩
 have hk:st.kind=2:=by
  by_cases hk:st.kind=2
  ·exact hk
  ·exfalso; have:(st.kind != 2)=true:=by simpa using hk
   rw [this] at hc; cases hc
 have hl:st.mv.length=2:=by
  rw [hk,List.length_map] at hc
  have:((st.mv.length:Int) != 2)=false:=hc
  simp at this; omega
 obtain ⟨a,b,hm⟩:∃a b,st.mv=[a,b]:=by
  match hm:st.mv with
  | [a,b]=>exact ⟨a,b,rfl⟩
  | []=>rw [hm] at hl; cases hl
  | [_]=>rw [hm] at hl; cases hl
  | _::_::_::_=>rw [hm] at hl; simp at hl
 have e0:(st.mv.map cD)[0]?=some (cD a):=by rw [hm]; rfl
 have e1:(st.mv.map cD)[1]?=some (cD b):=by rw [hm]; rfl
 refine ⟨cD a,fun _=>⟨by omega,e0⟩,?_⟩
 refine ⟨cD b,fun _=>⟨by omega,e1⟩,?_⟩
 have xl:bQ s.coin st=if a.it=s.coin then kN s.coin b a else kN s.coin a b:=by
  unfold bQ; rw [if_neg (by simpa using hk),hm]
 refine ⟨by kernel_rfl,by kernel_rfl,fun hq=>?_,fun hq=>?_⟩
 ·have hq:a.it=s.coin:=of_decide_eq_true hq
  rw [xl,if_pos hq]
  repeat first | refine ⟨id,?_⟩ | refine ⟨fun _ h=>cf h,?_⟩ | refine ⟨fun _ h=>ax h,?_⟩ | refine ⟨fun h=>⟨h,fun h2=>aQ h h2⟩,?_⟩ | refine ⟨fun h=>⟨h,fun h2=>aD h h2⟩,?_⟩
  exact ⟨by kernel_rfl,by kernel_rfl,_,_,⟨rfl,rfl⟩,by kernel_rfl,⟨rf,rf,rf,rf,tv⟩,⟨rf,rf,rf,rf,rf,rf,rfl,rfl,rfl,rfl,rfl,tv⟩,⟨rfl,rfl⟩,⟨rfl,rfl⟩,⟨rfl,rfl⟩,⟨rfl,rfl⟩,⟨rfl,rfl⟩,tv⟩
 ·have hq:a.it ≠ s.coin:=of_decide_eq_false hq
  rw [xl,if_neg hq]
  repeat first | refine ⟨id,?_⟩ | refine ⟨fun _ h=>cf h,?_⟩ | refine ⟨fun _ h=>ax h,?_⟩ | refine ⟨fun h=>⟨h,fun h2=>aQ h h2⟩,?_⟩ | refine ⟨fun h=>⟨h,fun h2=>aD h h2⟩,?_⟩
  exact ⟨by kernel_rfl,by kernel_rfl,_,_,⟨rfl,rfl⟩,by kernel_rfl,⟨rf,rf,rf,rf,tv⟩,⟨rf,rf,rf,rf,rf,rf,rfl,rfl,rfl,rfl,rfl,tv⟩,⟨rfl,rfl⟩,⟨rfl,rfl⟩,⟨rfl,rfl⟩,⟨rfl,rfl⟩,⟨rfl,rfl⟩,tv⟩
end Go.Proofs.YtpbdohkbiklflaaGreatDoor
namespace Go.Proofs.YtpbdohkbiklflaaGreatDoor
open Go.TM
variable [de]
set_option maxRecDepth 100000
def YF (f h g:Bool) (s:Vs):List AV:=[.dv (I 4),.dv (I s.coin),.dv (I s.ab),.dv (I s.aC),.dv (I s.last),.dv (I s.work),.own 1 0 0 [],.own 2 0 0 [],.own 3 0 (bif f then 1 else 0) [],.own 4 0 (bif h then 1 else 0) [],.own 5 (bif g then 1 else 0) 0 []]
def xm (f h g:Bool) (s:Vs):ah:=[(0,.cells (YF f h g s)),(1,.tree 0 0 (.omap eh (s.H.map pT))),(2,.tree 0 0 (vK.iL s.cS)),(3,.tree 0 (bif f then 1 else 0) (.ay 1 (s.rk.map GO))),(4,.tree 0 (bif h then 1 else 0) (.ay 1 (s.sl.map mD))),(5,.tree (bif g then 1 else 0) 0 (vK.iL s.bL))]
def iY (l:List Sl):Int:=(l.getD (l.length - 1) ⟨0,0,0,0,0⟩).gx
def iZ (l:List Sl):Int:=(l.getD (l.length - 1) ⟨0,0,0,0,0⟩).gy
def qS (s:Vs) (it:Nat) (l:List Sl) (tick n c:Int):Vs :=
 {s with work:=s.work+1,bL:=s.bL++[(it:Int)],sl:=s.sl.set it (false,l++[⟨tick,n,c,n+iY l,c+iZ l⟩]) }
theorem QB:(nth tab (nth tab 88).elem).bytes=40:=rfl
theorem QC:(nth tab (nth tab 30).elem).bytes=8:=rfl
set_option maxHeartbeats 4000000 in
theorem wy (s:Vs) (it:Nat) (hl:s.sl[it]?=some (true,[])) (tick n c:Int) (hw:0≤s.work∧s.work≤4611686018427387904) (hb:s.bL.length≤1000) :
  bn Tryz.prog 54 [.ptr 0 0,.dv (I it),.agg [.dv (I tick),.dv (I n),.dv (I c),.dv (I 0),.dv (I 0)]] 6 (vK false s) 0 [] (xm false true true (qS s it [] tick n c)):=by
 refine bl aG mixed (aq _) (ar _) Tryz.func54 rfl rfl (by kernel_rfl) ?_
 have aK:it<s.sl.length:=(List.getElem?_eq_some_iff.1 hl).1
 have iG:(s.sl.map mD)[((it:Int)).toNat]?=some .aH:=by rw [List.getElem?_map,Int.toNat_natCast,hl]; rfl
 have ek:(0:Int)≤(it:Int)∧(it:Int)<((s.sl.map mD).length:Int):=⟨by omega,by rw [List.length_map]; omega⟩
 refine ⟨fun _=>ek,.aH,fun _=>iG,?_⟩
 repeat first | refine ⟨id,?_⟩ | refine ⟨fun _ h=>cf h,?_⟩ | refine ⟨fun _ h=>ax h,?_⟩ | refine ⟨fun h=>⟨h,fun h2=>aQ h h2⟩,?_⟩ | refine ⟨fun h=>⟨h,fun h2=>aD h h2⟩,?_⟩
 refine ⟨fun h=>by simp at h,fun _=>?_⟩
 refine ⟨fun _=>ek,.aH,fun _=>iG,?_⟩
 refine .inl ⟨[bT ⟨tick,n,c,n,c⟩],rfl,⟨rf,rf,rf,rf,rf,tv⟩,(by simp; rfl),?_⟩
 refine .inr ⟨[bT ⟨tick,n,c,n,c⟩],dX.refl _,(by rw [QB]; simp),(by simp),?_⟩
 refine ⟨fun _=>ek,?_⟩
 refine ⟨[.ay 5 [bT ⟨tick,n,c,n,c⟩]],⟨rfl,tv⟩,.aH,iG,?_⟩
 refine ⟨by kernel_rfl,.inl ⟨[I (it:Int)],rfl,⟨rf,tv⟩,(by simp; rfl),.inr ⟨[I (it:Int)],dX.refl _,(by rw [QC]; simp; omega),(by simp; omega),?_⟩⟩⟩
 refine ⟨fun _=>⟨by omega,by omega⟩,?_⟩
 have b4:DV.ay 1 ((s.sl.map mD).set it (.ay 5 [bT ⟨tick,n,c,n,c⟩]))=.ay 1 ((s.sl.set it (false,[]++[⟨tick,n,c,n+iY [],c+iZ []⟩])).map mD):=by
  rw [List.map_set]; simp [iY,iZ,mD,Uc]
 have b5:DV.ay 1 (s.bL.map I++[I (it:Int)])=vK.iL (s.bL++[(it:Int)]):=by simp [vK.iL]
 exact ⟨_,_,⟨rfl,rfl⟩,by kernel_rfl,tv,⟨rf,rf,rf,rf,rf,rf,rfl,rfl,rfl,rfl,rfl,tv⟩,⟨rfl,rfl⟩,⟨rfl,rfl⟩,⟨rfl,rfl⟩,⟨rfl,b4⟩,⟨rfl,b5⟩,tv⟩
set_option maxHeartbeats 4000000 in
theorem wz (s:Vs) (it:Nat) (l:List Sl) (hl:s.sl[it]?=some (false,l)) (tick n c:Int) (hw:0≤s.work∧s.work≤4611686018427387904) (hb:s.bL.length≤1000) (QA:l.length≤1000) (hu:0≤iY l∧iY l≤1152921504606846976) (hc:0≤iZ l∧iZ l≤1152921504606846976) (WM:0≤n∧n≤1152921504606846976) (iA:0≤c∧c≤1152921504606846976) :
  bn Tryz.prog 54 [.ptr 0 0,.dv (I it),.agg [.dv (I tick),.dv (I n),.dv (I c),.dv (I 0),.dv (I 0)]] 6 (vK false s) 0 [] (xm false true true (qS s it l tick n c)):=by
 refine bl aG mixed (aq _) (ar _) Tryz.func54 rfl rfl (by kernel_rfl) ?_
 have aK:it<s.sl.length:=(List.getElem?_eq_some_iff.1 hl).1
 have iG:(s.sl.map mD)[((it:Int)).toNat]?=some (.ay 5 (l.map bT)):=by rw [List.getElem?_map,Int.toNat_natCast,hl]; rfl
 have ek:(0:Int)≤(it:Int)∧(it:Int)<((s.sl.map mD).length:Int):=⟨by omega,by rw [List.length_map]; omega⟩
 have b5:DV.ay 1 (s.bL.map I++[I (it:Int)])=vK.iL (s.bL++[(it:Int)]):=by simp [vK.iL]
 refine ⟨fun _=>ek,.ay 5 (l.map bT),fun _=>iG,?_⟩
 refine ⟨.ay 5 (l.map bT),fun _=>iG,?_⟩
 repeat first | refine ⟨id,?_⟩ | refine ⟨fun _ h=>cf h,?_⟩ | refine ⟨fun _ h=>ax h,?_⟩ | refine ⟨fun h=>⟨h,fun h2=>aQ h h2⟩,?_⟩ | refine ⟨fun h=>⟨h,fun h2=>aD h h2⟩,?_⟩
 refine ⟨fun hp=>?_,fun hp=>?_⟩
 ·have hp:0<l.length:=by have:=of_decide_eq_true hp; rw [List.length_map] at this; omega
  obtain ⟨z,hz⟩:∃z,l[l.length - 1]?=some z:=⟨_,List.getElem?_eq_getElem (by omega)⟩
  have eZ:iY l=z.gx:=by unfold iY; rw [List.getD_eq_getElem?_getD,hz]; rfl
  have nT:iZ l=z.gy:=by unfold iZ; rw [List.getD_eq_getElem?_getD,hz]; rfl
  rw [eZ] at hu
  rw [nT] at hc
  have YG:(l.map bT)[(((l.map bT).length:Int) - 1).toNat]?=some (bT z):=by rw [List.length_map,show ((l.length:Int) - 1).toNat=l.length - 1 by omega,List.getElem?_map,hz]; rfl
  have WX:(l.map bT).length=l.length:=List.length_map ..
  repeat first | refine ⟨.ay 5 (l.map bT),fun _=>iG,?_⟩ | refine ⟨bT z,fun _=>YG,?_⟩ | refine ⟨by kernel_rfl,?_⟩ | refine ⟨fun _=>⟨by omega,by omega⟩,?_⟩
  refine .inl ⟨[bT ⟨tick,n,c,n+z.gx,c+z.gy⟩],rfl,⟨rf,rf,rf,rf,rf,tv⟩,(by simp; rfl),.inr ⟨.ay 5 (l.map bT),fun _=>iG,?_⟩⟩
  refine ⟨[bT ⟨tick,n,c,n+z.gx,c+z.gy⟩],dX.refl _,(by rw [QB]; simp; omega),(by simp; omega),.ay 5 (l.map bT),iG,?_⟩
  refine ⟨fun _=>by rw [List.length_set]; exact ek,[.ay 5 (l.map bT++[bT ⟨tick,n,c,n+z.gx,c+z.gy⟩])],⟨rfl,tv⟩,.any,List.getElem?_set_self (by rw [List.length_map]; omega),?_⟩
  refine ⟨by kernel_rfl,.inl ⟨[I (it:Int)],rfl,⟨rf,tv⟩,(by simp; rfl),.inr ⟨[I (it:Int)],dX.refl _,(by rw [QC]; simp; omega),(by simp; omega),?_⟩⟩⟩
  refine ⟨fun _=>⟨by omega,by omega⟩,?_⟩
  have b4:DV.ay 1 (((s.sl.map mD).set ((it:Int)).toNat .any).set ((it:Int)).toNat (.ay 5 (l.map bT++[bT ⟨tick,n,c,n+z.gx,c+z.gy⟩])))=.ay 1 ((s.sl.set it (false,l++[⟨tick,n,c,n+iY l,c+iZ l⟩])).map mD):=by
   rw [List.set_set,List.map_set,Int.toNat_natCast]; simp [eZ,nT,mD,Uc]
  exact ⟨_,_,⟨rfl,rfl⟩,by kernel_rfl,tv,⟨rf,rf,rf,rf,rf,rf,rfl,rfl,rfl,rfl,rfl,tv⟩,⟨rfl,rfl⟩,⟨rfl,rfl⟩,⟨rfl,rfl⟩,⟨rfl,b4⟩,⟨rfl,b5⟩,tv⟩
 ·have hp:l=[]:=by have:=of_decide_eq_false hp; rw [List.length_map] at this; cases l with
   | nil=>rfl
   | cons _ _=>simp only [List.length_cons] at this; omega
  subst hp
  refine ⟨fun _=>ek,.ay 5 [],fun _=>iG,?_⟩
  refine .inl ⟨[bT ⟨tick,n,c,n,c⟩],rfl,⟨rf,rf,rf,rf,rf,tv⟩,(by simp; rfl),.inr ⟨.ay 5 [],fun _=>iG,?_⟩⟩
  refine ⟨[bT ⟨tick,n,c,n,c⟩],dX.refl _,(by rw [QB]; simp),(by simp),.ay 5 [],iG,?_⟩
  refine ⟨fun _=>by rw [List.length_set]; exact ek,[.ay 5 ([]++[bT ⟨tick,n,c,n,c⟩])],⟨rfl,tv⟩,.any,List.getElem?_set_self (by rw [List.length_map]; omega),?_⟩
  refine ⟨by kernel_rfl,.inl ⟨[I (it:Int)],rfl,⟨rf,tv⟩,(by simp; rfl),.inr ⟨[I (it:Int)],dX.refl _,(by rw [QC]; simp; omega),(by simp; omega),?_⟩⟩⟩
  refine ⟨fun _=>⟨by omega,by omega⟩,?_⟩
  have b4:DV.ay 1 (((s.sl.map mD).set ((it:Int)).toNat .any).set ((it:Int)).toNat (.ay 5 ([]++[bT ⟨tick,n,c,n,c⟩])))=.ay 1 ((s.sl.set it (false,[]++[⟨tick,n,c,n+iY [],c+iZ []⟩])).map mD):=by
   rw [List.set_set,List.map_set,Int.toNat_natCast]; simp [iY,iZ,mD,Uc]
  exact ⟨_,_,⟨rfl,rfl⟩,by kernel_rfl,tv,⟨rf,rf,rf,rf,rf,rf,rfl,rfl,rfl,rfl,rfl,tv⟩,⟨rfl,rfl⟩,⟨rfl,rfl⟩,⟨rfl,rfl⟩,⟨rfl,b4⟩,⟨rfl,b5⟩,tv⟩
end Go.Proofs.YtpbdohkbiklflaaGreatDoor
namespace Go.Proofs.YtpbdohkbiklflaaGreatDoor
open Go.TM
variable [de]
set_option maxRecDepth 100000
def hold (m h:HM) (k:Ky):Int:=(bm m k).getD (hv h k)
def QD (s:Vs) (m:HM):ah:=vK false s++[(6,.cells [.ptr 0 0]),(7,.tree 0 0 (.omap eh (m.map pT))),(8,.cells [.own 7 0 0 []])]
theorem CB (m:HM) (k:Ky):bH (m.map pT) (ug k)=bif (bm m k).isSome then some (I (hv m k)) else none:=by
 rw [AA]; unfold hv; cases bm m k <;> rfl
theorem GU (m:HM) (k:Ky) (h9:(bm m k).isSome=false):I (hv m k)=I 0:=by
 unfold hv
 cases hq:bm m k with
 | none=>rfl
 | some x=>rw [hq] at h9; cases h9
set_option maxHeartbeats 4000000 in
theorem lM (s:Vs) (m:HM) (k:Ky):bn Tryz.prog 113 [.agg [.dv (I k.1),.dv (I k.2)],.ptr 8 0,.ptr 6 0] 9 (QD s m) 0 [.dv (I (hold m s.H k))] (QD s m):=by
 refine bl aG mixed (aq _) (ar _) Tryz.func113 rfl rfl (by kernel_rfl) ?_
 refine ⟨gz,ug k,rfl,rfl,I (hv m k),(bm m k).isSome,fun _=>CB m k,GU m k,rfl,?_⟩
 refine ⟨fun hs=>?_,fun hn=>?_⟩
 ·have hh:hold m s.H k=hv m k:=by
   unfold hold hv; cases hq:bm m k with
   | none=>rw [hq] at hs; cases hs
   | some x=>rfl
  rw [hh]
  exact ⟨_,_,⟨rfl,rfl⟩,by kernel_rfl,⟨rf,tv⟩,⟨rf,rf,rf,rf,rf,rf,rfl,rfl,rfl,rfl,rfl,tv⟩,⟨rfl,rfl⟩,⟨rfl,rfl⟩,⟨rfl,rfl⟩,⟨rfl,rfl⟩,⟨rfl,rfl⟩,⟨rfl,tv⟩,⟨rfl,rfl⟩,⟨rfl,tv⟩,tv⟩
 ·have hh:hold m s.H k=hv s.H k:=by
   unfold hold; cases hq:bm m k with
   | none=>rfl
   | some x=>rw [hq] at hn; cases hn
  rw [hh]
  refine ⟨gz,ug k,rfl,rfl,I (hv s.H k),(bm s.H k).isSome,fun _=>CB s.H k,GU s.H k,rfl,?_⟩
  exact ⟨by kernel_rfl,_,_,⟨rfl,rfl⟩,by kernel_rfl,⟨rf,tv⟩,⟨rf,rf,rf,rf,rf,rf,rfl,rfl,rfl,rfl,rfl,tv⟩,⟨rfl,rfl⟩,⟨rfl,rfl⟩,⟨rfl,rfl⟩,⟨rfl,rfl⟩,⟨rfl,rfl⟩,⟨rfl,tv⟩,⟨rfl,rfl⟩,⟨rfl,tv⟩,tv⟩
def iN (v:Mv):Bool:=bif bif bif bif bif bif decide (v.it<0) then true else decide (4≤v.it) then true else decide (v.n<1) then true else decide (1099511627776<v.n) then true else !qR v.f then true else !qR v.t then true else decide (v.f=v.t)
theorem oR {v:Mv} (h:iN v=false):0≤v.it∧v.it<4∧1≤v.n∧v.n≤1099511627776∧qR v.f=true∧qR v.t=true∧v.f ≠ v.t:=by
 unfold iN at h
 simp only [Bool.cond_true_left,Bool.or_eq_false_iff,decide_eq_false_iff_not,Bool.not_eq_false'] at h
 obtain ⟨⟨⟨⟨⟨⟨h1,h2⟩,h3⟩,h4⟩,h5⟩,h6⟩,h7⟩:=h
 exact ⟨by omega,by omega,by omega,by omega,h5,h6,h7⟩
inductive SQ where
 | err (e:Int)
 | ok (m:HM)
def ko (H:HM):HM→List Mv→SQ
 | m,[]=>.ok m
 | m,v::r =>
  if iN v=true then .err 1 else
  if v.f ≠ 0 then
   if hold m H (v.f,v.it)<v.n then .err 10 else
   let m1:=bO m (v.f,v.it) (hold m H (v.f,v.it) - v.n)
   ko H (if v.t ≠ 0 then bO m1 (v.t,v.it) (hold m1 H (v.t,v.it)+v.n) else m1) r
  else ko H (if v.t ≠ 0 then bO m (v.t,v.it) (hold m H (v.t,v.it)+v.n) else m) r
def SQ.rs:SQ→List AV
 | .err e=>[.dv .iB,.dv (I e)]
 | .ok _=>[.own 7 0 0 [],.dv (I 0)]
def SQ.K:SQ→ah
 | .err _=>[]
 | .ok m=>[(7,.tree 0 0 (.omap eh (m.map pT)))]
theorem yN (m:HM) (k:Ky) (x:Int) (j:Ky):bm (bO m k x) j=if k=j then some x else bm m j:=by
 induction m with
 | nil=>simp only [bO,bm]
 | cons p r ih =>
  simp only [bO]
  by_cases h:p.1=k
  ·simp only [h,if_true,bm]
   by_cases h2:k=j
   ·simp [h2]
   ·simp [h2]
  ·simp only [h,if_false,bm]
   by_cases h2:p.1=j
   ·have:k ≠ j:=fun h3=>h (h2.trans h3.symm)
    simp [h2,this]
   ·simp only [h2,if_false]
    exact ih
theorem kO (m h:HM) (k:Ky) (x:Int) (j:Ky):hold (bO m k x) h j=if k=j then x else hold m h j:=by
 unfold hold; rw [yN]; split <;> rfl
theorem E0 (m:HM) (k:Ky) (x:Int):(∀z,bH (m.map pT) (ug k)=some z→z.bE)∧(I x).bE:=by
 constructor
 ·intro z Bh d hd
  rw [CB] at Bh
  cases hk:(bm m k).isSome with
  | false=>rw [hk] at Bh; cases Bh
  | true=>rw [hk] at Bh; injection Bh with Bh; subst Bh; simp [DV.cells] at hd; subst hd; rfl
 ·intro d hd
  simp [DV.cells] at hd; subst hd; rfl
theorem AF {m h:HM} {k:Ky} {x B C:Int} (hB:∀k,0≤hold m h k∧hold m h k≤B) (hx:0≤x∧x≤C) (ZB:B≤C) (j:Ky):0≤hold (bO m k x) h j∧hold (bO m k x) h j≤C:=by
 rw [kO]; have:=hB j; split <;> omega
structure WY where
 m:HM
 j:Nat
def SR (s:Vs) (l:List Mv) (x:WY):bh:=⟨9,[(0,.ptr 0 0),(1,.dv (AD l)),(2,.ptr 6 0),(4,.dv .iB),(5,.dv (I 0)),(6,.ptr 8 0),(7,.fn 113 [.ptr 8 0,.ptr 6 0]),(14,.dv (AD l)),(15,.dv (I l.length)),(16,.dv (I x.j))],QD s x.m⟩
set_option maxHeartbeats 4000000 in
theorem Nh (s:Vs) (l:List Mv) (hl:l.length≤1000) (hH:∀k,0≤hv s.H k∧hv s.H k≤1152921504606846976):bn Tryz.prog 50 [.ptr 0 0,.dv (AD l)] 6 (vK false s) 2 (ko s.H [] l).rs (vK false s++(ko s.H [] l).K):=by
 refine vz aG mixed (aq _) (ar _) Tryz.func50 rfl rfl (by kernel_rfl) ?_
 refine ⟨eh,WY,SR s l,fun x=>x.j≤l.length∧ko s.H [] l=ko s.H x.m (l.drop x.j)∧∀k,0≤hold x.m s.H k∧hold x.m s.H k≤1152921504606846976+x.j * 1099511627776,fun x=>l.length - x.j,⟨[],0⟩,fun _=>rfl,⟨⟨rfl,rf,rfl,rf,rf,rfl,⟨rfl,rfl,rfl,tv⟩,rf,az (by rw [List.length_map]),rf,tv⟩,⟨⟨rf,rf,rf,rf,rf,rf,rfl,rfl,rfl,rfl,rfl,tv⟩,⟨rfl,rfl⟩,⟨rfl,rfl⟩,⟨rfl,rfl⟩,⟨rfl,rfl⟩,⟨rfl,rfl⟩,⟨rfl,tv⟩,⟨rfl,rfl⟩,⟨rfl,tv⟩,tv⟩,rfl,rfl⟩,⟨Nat.zero_le _,rfl,fun k=>?_⟩,?_⟩
 ·have:=hH k
  show 0≤hv s.H k∧hv s.H k≤_
  simp only; omega
 rintro ⟨m,j⟩ ⟨p1,p2,p3⟩
 simp only at p1 p2 p3
 refine ⟨fun aK=>?_,fun dk=>?_⟩
 ·have aK:j<l.length:=by have:=of_decide_eq_true aK; simp only [Int.ofNat_lt] at this; omega
  obtain ⟨v,ja⟩:∃v,l[j]?=some v:=⟨_,List.getElem?_eq_getElem aK⟩
  have Bi:(l.map cD)[((j:Int)).toNat]?=some (cD v):=by rw [List.getElem?_map,Int.toNat_natCast,ja]; rfl
  have aB:l.drop j=v::l.drop (j+1):=by rw [List.drop_eq_getElem_cons aK]; congr 1; rw [List.getElem?_eq_getElem aK] at ja; injection ja
  refine ⟨cD v,fun _=>⟨by simp only; omega,Bi⟩,?_⟩
  repeat first | refine ⟨id,?_⟩ | refine ⟨fun _ h=>cf h,?_⟩ | refine ⟨fun _ h=>ax h,?_⟩ | refine ⟨fun h=>⟨h,fun h2=>aQ h h2⟩,?_⟩ | refine ⟨fun h=>⟨h,fun h2=>aD h h2⟩,?_⟩
  refine (.inl ⟨_,fun _=>(wx v.f).ok,?_⟩)
  repeat first | refine ⟨id,?_⟩ | refine ⟨fun _ h=>cf h,?_⟩ | refine ⟨fun _ h=>ax h,?_⟩ | refine ⟨fun h=>⟨h,fun h2=>aQ h h2⟩,?_⟩ | refine ⟨fun h=>⟨h,fun h2=>aD h h2⟩,?_⟩
  refine (.inl ⟨_,fun _=>(wx v.t).ok,?_⟩)
  repeat first | refine ⟨id,?_⟩ | refine ⟨fun _ h=>cf h,?_⟩ | refine ⟨fun _ h=>ax h,?_⟩ | refine ⟨fun h=>⟨h,fun h2=>aQ h h2⟩,?_⟩ | refine ⟨fun h=>⟨h,fun h2=>aD h h2⟩,?_⟩
  refine .inl ⟨by kernel_rfl,fun hc=>?_,fun hc=>?_⟩
  ·have Ih:iN v=true:=hc
   have hr:ko s.H [] l=.err 1:=by rw [p2,aB]; simp only [ko,Ih,if_true]
   rw [hr]
   exact ⟨_,_,⟨rfl,rfl⟩,by kernel_rfl,⟨rf,rf,tv⟩,⟨rf,rf,rf,rf,rf,rf,rfl,rfl,rfl,rfl,rfl,tv⟩,⟨rfl,rfl⟩,⟨rfl,rfl⟩,⟨rfl,rfl⟩,⟨rfl,rfl⟩,⟨rfl,rfl⟩,tv⟩
  have Ih:iN v=false:=hc
  have cw:1≤v.n∧v.n≤1099511627776∧v.f ≠ v.t:=by
   have:=oR Ih; exact ⟨this.2.2.1,this.2.2.2.1,this.2.2.2.2.2.2⟩
  refine ⟨fun hf=>?_,fun hf=>?_⟩
  ·have hf:v.f ≠ 0:=by simpa using hf
   refine .inr ⟨[0,1,2,3,4,5,6,7,8],[.agg [.dv (I v.f),.dv (I v.it)],.ptr 8 0,.ptr 6 0],QD s m,0,_,_,lM s m (v.f,v.it),by kernel_rfl,by kernel_rfl,⟨⟨rf,rf,tv⟩,rfl,rfl,tv⟩,⟨⟨rf,rf,rf,rf,rf,rf,rfl,rfl,rfl,rfl,rfl,tv⟩,⟨rfl,rfl⟩,⟨rfl,rfl⟩,⟨rfl,rfl⟩,⟨rfl,rfl⟩,⟨rfl,rfl⟩,⟨rfl,tv⟩,⟨rfl,rfl⟩,⟨rfl,tv⟩,tv⟩,?_⟩
   refine .inl ⟨by kernel_rfl,fun hs=>?_,fun hs=>?_⟩
   ·have hs:hold m s.H (v.f,v.it)<v.n:=of_decide_eq_true hs
    have hr:ko s.H [] l=.err 10:=by rw [p2,aB]; simp only [ko,Ih]; simp [hf,hs]
    rw [hr]
    exact ⟨_,_,⟨rfl,rfl⟩,by kernel_rfl,⟨rf,rf,tv⟩,⟨rf,rf,rf,rf,rf,rf,rfl,rfl,rfl,rfl,rfl,tv⟩,⟨rfl,rfl⟩,⟨rfl,rfl⟩,⟨rfl,rfl⟩,⟨rfl,rfl⟩,⟨rfl,rfl⟩,tv⟩
   have hs:¬ hold m s.H (v.f,v.it)<v.n:=of_decide_eq_false hs
   have ZC:=p3 (v.f,v.it)
   refine .inr ⟨[0,1,2,3,4,5,6,7,8],[.agg [.dv (I v.f),.dv (I v.it)],.ptr 8 0,.ptr 6 0],QD s (m),0,_,_,lM s (m) (v.f,v.it),by kernel_rfl,by kernel_rfl,⟨⟨rf,rf,tv⟩,rfl,rfl,tv⟩,⟨⟨rf,rf,rf,rf,rf,rf,rfl,rfl,rfl,rfl,rfl,tv⟩,⟨rfl,rfl⟩,⟨rfl,rfl⟩,⟨rfl,rfl⟩,⟨rfl,rfl⟩,⟨rfl,rfl⟩,⟨rfl,tv⟩,⟨rfl,rfl⟩,⟨rfl,tv⟩,tv⟩,?_⟩
   refine ⟨fun _=>⟨by omega,by omega⟩,?_⟩
   refine ⟨gz,ug (v.f,v.it),rfl,rfl,I (hold m s.H (v.f,v.it) - v.n),⟨rf,tv⟩,rfl,false,fun _=>E0 m (v.f,v.it) _,.inr ⟨[(0,4)],by kernel_rfl,qO (pol:=ER) (by kernel_rfl) (by kernel_rfl),?_⟩⟩
   have hM:ko s.H [] l=ko s.H (if v.t ≠ 0 then bO (bO m (v.f,v.it) (hold m s.H (v.f,v.it) - v.n)) (v.t,v.it) (hold (bO m (v.f,v.it) (hold m s.H (v.f,v.it) - v.n)) s.H (v.t,v.it)+v.n) else bO m (v.f,v.it) (hold m s.H (v.f,v.it) - v.n)) (l.drop (j+1)):=by
    rw [p2,aB]; simp only [ko,Ih]; simp [hf,hs]
   have hB:∀k,0≤hold (bO m (v.f,v.it) (hold m s.H (v.f,v.it) - v.n)) s.H k∧hold (bO m (v.f,v.it) (hold m s.H (v.f,v.it) - v.n)) s.H k≤1152921504606846976+(j:Int) * 1099511627776:=by
    intro k
    rw [kO]; have:=p3 k; split <;> omega
   refine ⟨fun ht=>?_,fun ht=>?_⟩
   ·have ht:v.t ≠ 0:=by simpa using ht
    have La:=hM
    rw [if_pos ht] at La
    have YH:=hB (v.t,v.it)
    refine .inr ⟨[0,1,2,3,4,5,6,7,8],[.agg [.dv (I v.t),.dv (I v.it)],.ptr 8 0,.ptr 6 0],QD s (bO m (v.f,v.it) (hold m s.H (v.f,v.it) - v.n)),0,_,_,lM s (bO m (v.f,v.it) (hold m s.H (v.f,v.it) - v.n)) (v.t,v.it),by kernel_rfl,by kernel_rfl,⟨⟨rf,rf,tv⟩,rfl,rfl,tv⟩,⟨⟨rf,rf,rf,rf,rf,rf,rfl,rfl,rfl,rfl,rfl,tv⟩,⟨rfl,rfl⟩,⟨rfl,rfl⟩,⟨rfl,rfl⟩,⟨rfl,rfl⟩,⟨rfl,rfl⟩,⟨rfl,tv⟩,⟨rfl,by rw [sj]⟩,⟨rfl,tv⟩,tv⟩,?_⟩
    refine ⟨fun _=>⟨by omega,by omega⟩,?_⟩
    refine ⟨gz,ug (v.t,v.it),rfl,rfl,I (hold (bO m (v.f,v.it) (hold m s.H (v.f,v.it) - v.n)) s.H (v.t,v.it)+v.n),⟨rf,tv⟩,rfl,false,fun _=>?_,.inr ⟨[(0,4)],by kernel_rfl,qO (pol:=ER) (by kernel_rfl) (by kernel_rfl),?_⟩⟩
    ·exact E0 (bO m (v.f,v.it) (hold m s.H (v.f,v.it) - v.n)) (v.t,v.it) _
    refine ⟨fun _=>⟨by simp only; omega,by simp only; omega⟩,⟨bO (bO m (v.f,v.it) (hold m s.H (v.f,v.it) - v.n)) (v.t,v.it) (hold (bO m (v.f,v.it) (hold m s.H (v.f,v.it) - v.n)) s.H (v.t,v.it)+v.n),j+1⟩,⟨⟨rfl,rf,rfl,rf,rf,rfl,⟨rfl,rfl,rfl,tv⟩,rf,rf,az (by simp),tv⟩,⟨⟨rf,rf,rf,rf,rf,rf,rfl,rfl,rfl,rfl,rfl,tv⟩,⟨rfl,rfl⟩,⟨rfl,rfl⟩,⟨rfl,rfl⟩,⟨rfl,rfl⟩,⟨rfl,rfl⟩,⟨rfl,tv⟩,⟨rfl,by rw [sj]⟩,⟨rfl,tv⟩,tv⟩,rfl,rfl⟩,⟨by simp only; omega,La,fun k=>?_⟩,by simp only; omega⟩
    ·exact AF hB ⟨by omega,by simp only; omega⟩ (by simp only; omega) k
   ·have ht:¬ v.t ≠ 0:=by simpa using ht
    have La:=hM
    rw [if_neg ht] at La
    refine ⟨fun _=>⟨by simp only; omega,by simp only; omega⟩,⟨bO m (v.f,v.it) (hold m s.H (v.f,v.it) - v.n),j+1⟩,⟨⟨rfl,rf,rfl,rf,rf,rfl,⟨rfl,rfl,rfl,tv⟩,rf,rf,az (by simp),tv⟩,⟨⟨rf,rf,rf,rf,rf,rf,rfl,rfl,rfl,rfl,rfl,tv⟩,⟨rfl,rfl⟩,⟨rfl,rfl⟩,⟨rfl,rfl⟩,⟨rfl,rfl⟩,⟨rfl,rfl⟩,⟨rfl,tv⟩,⟨rfl,by rw [sj]⟩,⟨rfl,tv⟩,tv⟩,rfl,rfl⟩,⟨by simp only; omega,La,fun k=>?_⟩,by simp only; omega⟩
    ·have:=hB k; simp only; omega
  ·have hf:¬ v.f ≠ 0:=by simpa using hf
   have hM:ko s.H [] l=ko s.H (if v.t ≠ 0 then bO (m) (v.t,v.it) (hold (m) s.H (v.t,v.it)+v.n) else m) (l.drop (j+1)):=by
    rw [p2,aB]; simp only [ko,Ih]; simp only [hf,if_false]; rfl
   have hB:=p3
   refine ⟨fun ht=>?_,fun ht=>?_⟩
   ·have ht:v.t ≠ 0:=by simpa using ht
    have La:=hM
    rw [if_pos ht] at La
    have YH:=hB (v.t,v.it)
    refine .inr ⟨[0,1,2,3,4,5,6,7,8],[.agg [.dv (I v.t),.dv (I v.it)],.ptr 8 0,.ptr 6 0],QD s (m),0,_,_,lM s (m) (v.t,v.it),by kernel_rfl,by kernel_rfl,⟨⟨rf,rf,tv⟩,rfl,rfl,tv⟩,⟨⟨rf,rf,rf,rf,rf,rf,rfl,rfl,rfl,rfl,rfl,tv⟩,⟨rfl,rfl⟩,⟨rfl,rfl⟩,⟨rfl,rfl⟩,⟨rfl,rfl⟩,⟨rfl,rfl⟩,⟨rfl,tv⟩,⟨rfl,rfl⟩,⟨rfl,tv⟩,tv⟩,?_⟩
    refine ⟨fun _=>⟨by omega,by omega⟩,?_⟩
    refine ⟨gz,ug (v.t,v.it),rfl,rfl,I (hold (m) s.H (v.t,v.it)+v.n),⟨rf,tv⟩,rfl,false,fun _=>?_,.inr ⟨[(0,4)],by kernel_rfl,qO (pol:=ER) (by kernel_rfl) (by kernel_rfl),?_⟩⟩
    ·exact E0 (m) (v.t,v.it) _
    refine ⟨fun _=>⟨by simp only; omega,by simp only; omega⟩,⟨bO (m) (v.t,v.it) (hold (m) s.H (v.t,v.it)+v.n),j+1⟩,⟨⟨rfl,rf,rfl,rf,rf,rfl,⟨rfl,rfl,rfl,tv⟩,rf,rf,az (by simp),tv⟩,⟨⟨rf,rf,rf,rf,rf,rf,rfl,rfl,rfl,rfl,rfl,tv⟩,⟨rfl,rfl⟩,⟨rfl,rfl⟩,⟨rfl,rfl⟩,⟨rfl,rfl⟩,⟨rfl,rfl⟩,⟨rfl,tv⟩,⟨rfl,by rw [sj]⟩,⟨rfl,tv⟩,tv⟩,rfl,rfl⟩,⟨by simp only; omega,La,fun k=>?_⟩,by simp only; omega⟩
    ·exact AF hB ⟨by omega,by simp only; omega⟩ (by simp only; omega) k
   ·have ht:¬ v.t ≠ 0:=by simpa using ht
    have La:=hM
    rw [if_neg ht] at La
    refine ⟨fun _=>⟨by simp only; omega,by simp only; omega⟩,⟨m,j+1⟩,⟨⟨rfl,rf,rfl,rf,rf,rfl,⟨rfl,rfl,rfl,tv⟩,rf,rf,az (by simp),tv⟩,⟨⟨rf,rf,rf,rf,rf,rf,rfl,rfl,rfl,rfl,rfl,tv⟩,⟨rfl,rfl⟩,⟨rfl,rfl⟩,⟨rfl,rfl⟩,⟨rfl,rfl⟩,⟨rfl,rfl⟩,⟨rfl,tv⟩,⟨rfl,rfl⟩,⟨rfl,tv⟩,tv⟩,rfl,rfl⟩,⟨by simp only; omega,La,fun k=>?_⟩,by simp only; omega⟩
    ·have:=hB k; simp only; omega
 ·have hj:j=l.length:=by have:=of_decide_eq_false dk; simp only at this; omega
  have hr:ko s.H [] l=.ok m:=by rw [p2,hj,List.drop_length]; rfl
  rw [hr]
  exact ⟨_,_,⟨rfl,rfl⟩,by kernel_rfl,⟨rfl,rf,tv⟩,⟨rf,rf,rf,rf,rf,rf,rfl,rfl,rfl,rfl,rfl,tv⟩,⟨rfl,rfl⟩,⟨rfl,rfl⟩,⟨rfl,rfl⟩,⟨rfl,rfl⟩,⟨rfl,rfl⟩,⟨rfl,rfl⟩,tv⟩
end Go.Proofs.YtpbdohkbiklflaaGreatDoor
namespace Go.Proofs.YtpbdohkbiklflaaGreatDoor
open Go.TM
def CC (a it n:Int) (m:Mv):Int :=
 if m.it=it∧m.f=a then (if m.it=it∧m.t=a then n+m.n else n) - m.n else (if m.it=it∧m.t=a then n+m.n else n)
def gH (a it n:Int) (l:List Mv):Int:=l.foldl (CC a it) n
def aL (a it:Int) (l:List St):Int:=l.foldl (fun n s=>gH a it n s.mv) 0
def kQ (l:List Int) (n:Int):List Int:=if n≤0 ∨ n∈l then l else l.takeWhile (fun x=>decide (x<n))++n::l.dropWhile (fun x=>decide (x<n))
def fm (o:List Int) (m:Mv):List Int:=kQ (kQ o m.f) m.t
def bk (l:List St):List Int:=l.foldl (fun o s=>s.mv.foldl fm o) []
def bC (coin:Int) (s:St):Bool:=(bQ coin s).2.2.2
def SU (coin ab tick:Int) (s:St):Bool:=bif bif bC coin s then decide (tick - ab<s.tick) else false then decide (s.tick≤tick) else false
def bq (coin ab:Int) (l:List St) (tick:Int):Nat:=l.countP (SU coin ab tick)
def Ni (a:Int) (l:List St):Nat:=(List.range 4).countP fun k=>!decide (aL a (k:Nat) l=0)
def nv (l:List St) (xs:List Int):Nat:=(xs.map fun a=>Ni a l).sum
def qT (coin ab:Int) (l:List St) (tick:Int):Nat:=bq coin ab l tick+nv l (bk l)
def Rn:St:=⟨0,0,0,0,0,0,[]⟩
def bZ (l:List St):Int:=(l.getD (l.length - 1) Rn).tick
def oD (steps:List St):List Mv→List Mv→Int
 | _,[]=>0
 | b,m::r=>if iN m=true then 1 else if m.f ≠ 0∧aL m.f m.it (steps++[⟨0,0,0,0,0,0,b⟩])<m.n then 10 else oD steps (b++[m]) r
structure RV where
 coin:Int
 ab:Int
 aC:Int
 steps:List St
 work:Int
def Rv (a:Int) (l r:List St):Nat:=(List.range 4).countP fun k=>!decide (aL a (k:Nat) l=aL a (k:Nat) r)
def pD (l r:List St) (xs:List Int):Nat:=(xs.map fun a=>Rv a l r).sum
def gI (b:Bool):Int:=bif b then 1 else 0
def kn (v:RV) (st:St):Int :=
 if st.tick<bZ v.steps ∨ 1099511627776<st.tick then 1 else
 if oD v.steps [] st.mv ≠ 0 then oD v.steps [] st.mv else
 if v.aC<(qT v.coin v.ab (v.steps++[st]) st.tick:Int) then 22 else 0
def pE (v:RV) (st:St):RV:={ v with steps:=v.steps++[st],work:=v.work+(pD (v.steps++[st]) v.steps (bk (v.steps++[st])):Int)+gI (bC v.coin st)+(bq v.coin v.ab v.steps (bZ v.steps):Int) - ((bq v.coin v.ab (v.steps++[st]) st.tick:Int) - gI (bC v.coin st)) }
def E1 (l:List St) (it:Int):Int:=((bk l).map fun a=>aL a it l).sum
def il (o:List Rk) (n:Int):Nat→Nat
 | 0=>0
 | k+1=>if (o.getD k (0,0)).2<n then il o n k else k+1
def jI (o:List Rk) (x:Rk):List Rk:=o.take (il o x.2 o.length)++x::o.drop (il o x.2 o.length)
def kR (l:List St) (it:Int) (o:List Rk) (a:Int):List Rk:=if aL a it l=0 ∨ 1048576≤a then o else jI o (a,aL a it l)
def CD (l:List St) (it:Int):List Rk:=(bk l).foldl (kR l it) []
def Nj (l:List St) (it n:Int):List Rk:=(CD l it).take n.toNat
def ai (k:Int):Int:=[(1:Int),2,3,4,1048577,9].getD (k.tmod 6).toNat 0
def VC (s:St):Prop:=s.mv.length≤4∧(∀m∈s.mv,-1099511627776≤m.n∧m.n≤1099511627776)
def nw (l:List St):Prop:=l.length≤100∧∀s∈l,VC s
theorem pF (a it:Int) (l:List St) (s:St):aL a it (l++[s])=gH a it (aL a it l) s.mv:=by simp [aL,List.foldl_append]
theorem yO (a it n:Int) (l:List Mv) (m:Mv):gH a it n (l++[m])=CC a it (gH a it n l) m:=by simp [gH,List.foldl_append]
theorem SV (a it n:Int) (m:Mv) (hm:-1099511627776≤m.n∧m.n≤1099511627776):n - 2199023255552≤CC a it n m∧CC a it n m≤n+2199023255552:=by
 unfold CC; split <;> split <;> omega
theorem E2 (a it:Int):∀(l:List Mv) (n:Int),(∀m∈l,-1099511627776≤m.n∧m.n≤1099511627776)→n - 2199023255552 * l.length≤gH a it n l∧gH a it n l≤n+2199023255552 * l.length
 | [],n,_=>by simp [gH]
 | m::r,n,h=>by
  have h1:=E2 a it r (CC a it n m) fun x hx=>h x (List.mem_cons_of_mem _ hx)
  have h2:=SV a it n m (h m List.mem_cons_self)
  show _≤gH a it (CC a it n m) r∧gH a it (CC a it n m) r≤_
  simp only [List.length_cons]
  omega
theorem qU (a it:Int):∀(l:List St) (n:Int),(∀s∈l,VC s)→n - 8796093022208 * l.length≤l.foldl (fun n s=>gH a it n s.mv) n∧l.foldl (fun n s=>gH a it n s.mv) n≤n+8796093022208 * l.length
 | [],n,_=>by simp
 | s::r,n,h=>by
  have h1:=qU a it r (gH a it n s.mv) fun x hx=>h x (List.mem_cons_of_mem _ hx)
  have hs:=h s List.mem_cons_self
  have h2:=E2 a it s.mv n hs.2
  have h3:=hs.1
  simp only [List.length_cons,List.foldl_cons]
  omega
theorem um (a it:Int) {l:List St} (h:nw l):-879609302220800≤aL a it l∧aL a it l≤879609302220800:=by
 have h1:=qU a it l 0 h.2
 have h2:=h.1
 unfold aL
 omega
theorem nw.take {l:List St} (h:nw l) (i:Nat):nw (l.take i):=⟨by rw [List.length_take]; have:=h.1; omega,fun s hs=>h.2 s (List.mem_of_mem_take hs)⟩
end Go.Proofs.YtpbdohkbiklflaaGreatDoor
