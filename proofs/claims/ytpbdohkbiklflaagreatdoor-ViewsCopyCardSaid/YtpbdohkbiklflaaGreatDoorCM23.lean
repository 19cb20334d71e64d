import Derived.Test.YtpbdohkbiklflaaGreatDoorCM22
import Derived.Test.YtpbdohkbiklflaaGreatDoorCM20
set_option linter.unusedVariables false
set_option linter.unusedSimpArgs false
set_option linter.unusedSectionVars false
namespace Go.Proofs.YtpbdohkbiklflaaGreatDoor
open Go.TM
variable [cG]
set_option maxRecDepth 100000
theorem s6 (s:Vs) (h:s.H.length+s.bH.length≤1000000):aO Tryz.prog 25 [.ptr 0 0] 6 (vK false s) 0 [.dv (I ((s.H.length:Int)+(s.bH.length:Int)))] (vK false s):=by
 refine aJ aD mixed (af _) (ai _) Tryz.func25 rfl rfl (by kernel_rfl) ?_
 refine ⟨fun _=>⟨by rw [List.length_map,List.length_map]; omega,by rw [List.length_map,List.length_map]; omega⟩,by kernel_rfl,?_⟩
 exact ⟨_,_,⟨rfl,rfl⟩,by kernel_rfl,⟨au (by rw [List.length_map,List.length_map]),tv⟩,⟨rf,rf,rf,rf,rf,rf,rfl,rfl,rfl,rfl,rfl,tv⟩,⟨rfl,rfl⟩,⟨rfl,rfl⟩,⟨rfl,rfl⟩,⟨rfl,rfl⟩,⟨rfl,rfl⟩,tv⟩
theorem Sr (s:Vs) (k:Ky):bn (s.H.map ni) (u4 k)=bif (bt s.H k).isSome then some (I (hv s.H k)) else none:=by
 rw [Bs]
 unfold hv
 cases bt s.H k <;> rfl
theorem OY {s:Vs} {k:Ky} (h:(bt s.H k).isSome=false):hv s.H k=0:=by
 unfold hv
 cases hq:bt s.H k with
 | none=>rfl
 | some x=>rw [hq] at h; cases h
theorem JF (s:Vs) (a it:Int):aO Tryz.prog 58 [.ptr 0 0,.dv (I a),.dv (I it)] 6 (vK false s) 0 [.dv (I (hv s.H (a,it)))] (vK false s):=by
 refine aJ aD mixed (af _) (ai _) Tryz.func58 rfl rfl (by kernel_rfl) ?_
 refine ⟨gM,u4 (a,it),rfl,rfl,I (hv s.H (a,it)),(bt s.H (a,it)).isSome,fun _=>Sr s _,fun h=>by rw [OY h]; rfl,rfl,?_⟩
 exact ⟨_,_,⟨rfl,rfl⟩,by kernel_rfl,⟨rf,tv⟩,⟨rf,rf,rf,rf,rf,rf,rfl,rfl,rfl,rfl,rfl,tv⟩,⟨rfl,rfl⟩,⟨rfl,rfl⟩,⟨rfl,rfl⟩,⟨rfl,rfl⟩,⟨rfl,rfl⟩,tv⟩
theorem F5 (s:Vs) (hl:s.cI.length=4) (it:Int):aO Tryz.prog 26 [.ptr 0 0,.dv (I it)] 6 (vK false s) 0 [.dv (I (if it<0 ∨ 4≤it then 0 else s.cI.getD it.toNat 0))] (vK false s):=by
 refine aJ aD mixed (af _) (ai _) Tryz.func26 rfl rfl (by kernel_rfl) ?_
 repeat first | refine ⟨id,?_⟩ | refine ⟨fun _ h=>bW h,?_⟩ | refine ⟨fun _ h=>ay h,?_⟩ | refine ⟨fun h=>⟨h,fun h2=>aF h h2⟩,?_⟩ | refine ⟨fun h=>⟨h,fun h2=>aA h h2⟩,?_⟩
 have e:(bif decide (it<0) then true else decide (4≤it))=decide (it<0 ∨ 4≤it):=by by_cases h1:it<0 <;> simp [h1]
 refine ⟨fun h=>?_,fun h=>?_⟩
 ·have h:=of_decide_eq_true (e.symm.trans h)
  rw [if_pos h]
  exact ⟨_,_,⟨rfl,rfl⟩,by kernel_rfl,⟨rf,tv⟩,⟨rf,rf,rf,rf,rf,rf,rfl,rfl,rfl,rfl,rfl,tv⟩,⟨rfl,rfl⟩,⟨rfl,rfl⟩,⟨rfl,rfl⟩,⟨rfl,rfl⟩,⟨rfl,rfl⟩,tv⟩
 ·have h:=of_decide_eq_false (e.symm.trans h)
  rw [if_neg h]
  refine ⟨fun _=>⟨by omega,by rw [List.length_map]; omega⟩,I (s.cI.getD it.toNat 0),fun _=>?_,?_⟩
  ·rw [List.getElem?_map,List.getElem?_eq_getElem (by omega:it.toNat<s.cI.length),List.getD_eq_getElem?_getD,List.getElem?_eq_getElem (by omega:it.toNat<s.cI.length)]; rfl
  ·exact ⟨_,_,⟨rfl,rfl⟩,by kernel_rfl,⟨rf,tv⟩,⟨rf,rf,rf,rf,rf,rf,rfl,rfl,rfl,rfl,rfl,tv⟩,⟨rfl,rfl⟩,⟨rfl,rfl⟩,⟨rfl,rfl⟩,⟨rfl,rfl⟩,⟨rfl,rfl⟩,tv⟩
theorem zA (s:Vs):aO Tryz.prog 23 [.ptr 0 0] 6 (vK false s) 0 [.dv (I s.work)] (vK false { s with work:=0 }):=by
 refine aJ aD mixed (af _) (ai _) Tryz.func23 rfl rfl (by kernel_rfl) ?_
 exact ⟨_,_,⟨rfl,rfl⟩,by kernel_rfl,⟨rf,tv⟩,⟨rf,rf,rf,rf,rf,rf,rfl,rfl,rfl,rfl,rfl,tv⟩,⟨rfl,rfl⟩,⟨rfl,rfl⟩,⟨rfl,rfl⟩,⟨rfl,rfl⟩,⟨rfl,rfl⟩,tv⟩
def Dv (s:Vs) (it n:Int):List Rk:=if it<0 ∨ 4≤it ∨ n≤0 then [] else (s.rk.getD it.toNat (true,[])).2.take n.toNat
theorem Dw {L:List DV} {i:Nat} {f:Bool} {l:List Rk} (h:L[i]?=some (cz f l)) (hf:f=true→l=[]) (n:Nat) (hn:1≤n) (Mr:n≤9223372036854775807) (hl:l.length≤1000) :
  aO Tryz.prog 55 [.own 0 0 0 [.el i 0],.dv (I n)] 1 [(0,.tree 0 0 (.aw 1 L))] 0 [.dv (.sl 2 ((l.take n).map eR))] [(0,.tree 0 0 (.aw 1 L))]:=by
 have hs:bP (.aw 1 L) [.el i 0] (cz f l)=.aw 1 L:=by
  rw [oR h rfl rfl]
  congr 1
  obtain ⟨aK,he⟩:=List.getElem?_eq_some_iff.1 h
  rw [←he]; exact List.set_getElem_self aK
 cases l with
 | nil =>
  have:=gi (p:=[.el i 0]) (D:=.aw 1 L) (Ds f n) hs (nX h rfl) (by simp) rfl rfl rfl rfl
  simpa using this
 | cons r l' =>
  cases f with
  | true=>have:=hf rfl; cases this
  | false=>exact gi (p:=[.el i 0]) (D:=.aw 1 L) (Dt n hn Mr r l' hl) hs (nX h rfl) (by simp) rfl rfl rfl rfl
theorem w9 (s:Vs) (hl:s.rk.length=4) (hr:∀x,x∈s.rk→x.2.length≤1000∧(x.1=true→x.2=[])) (it n:Int) (hn:n≤9223372036854775807) :
  aO Tryz.prog 29 [.ptr 0 0,.dv (I it),.dv (I n)] 6 (vK false s) 0 [.dv (.sl 2 ((Dv s it n).map eR))] (vK false s):=by
 refine aJ aD mixed (af _) (ai _) Tryz.func29 rfl rfl (by kernel_rfl) ?_
 repeat first | refine ⟨id,?_⟩ | refine ⟨fun _ h=>bW h,?_⟩ | refine ⟨fun _ h=>ay h,?_⟩ | refine ⟨fun h=>⟨h,fun h2=>aF h h2⟩,?_⟩ | refine ⟨fun h=>⟨h,fun h2=>aA h h2⟩,?_⟩
 have e:(bif bif decide (it<0) then true else decide (4≤it) then true else decide (n≤0))=decide (it<0 ∨ 4≤it ∨ n≤0):=by by_cases h1:it<0 <;> by_cases h2:4≤it <;> simp [h1,h2]
 refine ⟨fun h=>?_,fun h=>?_⟩
 ·have h:=of_decide_eq_true (e.symm.trans h)
  rw [show Dv s it n=[] from if_pos h]
  exact ⟨_,_,⟨rfl,rfl⟩,by kernel_rfl,⟨oQ _,tv⟩,⟨rf,rf,rf,rf,rf,rf,rfl,rfl,rfl,rfl,rfl,tv⟩,⟨rfl,rfl⟩,⟨rfl,rfl⟩,⟨rfl,rfl⟩,⟨rfl,rfl⟩,⟨rfl,rfl⟩,tv⟩
 ·have h:=of_decide_eq_false (e.symm.trans h)
  obtain ⟨i,rfl⟩:=Int.eq_ofNat_of_zero_le (show 0≤it by omega)
  obtain ⟨m,rfl⟩:=Int.eq_ofNat_of_zero_le (show 0≤n by omega)
  have hi:i<s.rk.length:=by omega
  have JE:s.rk[i]?=some (s.rk.getD i (true,[])):=by rw [List.getD_eq_getElem?_getD,List.getElem?_eq_getElem hi]; rfl
  rw [show Dv s (i:Int) (m:Int)=(s.rk.getD i (true,[])).2.take m from if_neg h]
  obtain ⟨q1,q2⟩:=hr _ (List.mem_of_getElem? JE)
  generalize s.rk.getD i (true,[])=q0 at *
  obtain ⟨f0,l0⟩:=q0
  have H4:(s.rk.map Cc)[i]?=some (cz f0 l0):=by rw [List.getElem?_map,JE]; rfl
  have uK:=Dw H4 q2 m (by omega) (by omega) q1
  refine ⟨fun _=>⟨by omega,by rw [List.length_map]; omega⟩,cz f0 l0,fun _=>H4,?_⟩
  refine .inr ⟨[3],[.own 0 0 0 [.el i 0],.dv (I m)],[(0,.tree 0 0 (.aw 1 (s.rk.map Cc)))],0,_,_,uK,by kernel_rfl,by kernel_rfl,⟨rfl,rf,tv⟩,⟨⟨rfl,rfl⟩,tv⟩,?_⟩
  exact ⟨_,_,⟨rfl,rfl⟩,by kernel_rfl,⟨rf,tv⟩,⟨rf,rf,rf,rf,rf,rf,rfl,rfl,rfl,rfl,rfl,tv⟩,⟨rfl,rfl⟩,⟨rfl,rfl⟩,⟨rfl,rfl⟩,⟨rfl,rfl⟩,⟨rfl,rfl⟩,tv⟩
end Go.Proofs.YtpbdohkbiklflaaGreatDoor
namespace Go.Proofs.YtpbdohkbiklflaaGreatDoor
open Go.TM
def rM (n:Int):Bool:=decide (0≤n) && decide (n≤1073741824)
abbrev IM:=List (Int × Int)
def QC (p:Int × Int):DV:=.eW (I p.1) (I p.2)
def qm:IM→Int→Option Int
 | [],_=>none
 | p::r,k=>if p.1=k then some p.2 else qm r k
def F6:IM→Int→Int→IM
 | [],k,x=>[(k,x)]
 | p::r,k,x=>if p.1=k then (k,x)::r else p::F6 r k x
def iv (m:IM) (k:Int):Int:=(qm m k).getD 0
theorem Ih (a b:Int):uz (I a) (I b)=decide (a=b):=by
 simp only [uz,Ci]
 try rw [Bool.eq_iff_iff]; simp
theorem MC (k:Int):∀m:IM,bn (m.map QC) (I k)=(qm m k).map I
 | []=>rfl
 | p::r=>by
  simp only [List.map_cons,QC,bn,Ih,qm]
  by_cases h:p.1=k
  ·simp [h]
  ·simp only [h,decide_false,cond_false,if_false]
   exact MC k r
theorem MD (k x:Int):∀m:IM,eH (m.map QC) (I k) (I x)=(F6 m k x).map QC
 | []=>rfl
 | p::r=>by
  simp only [List.map_cons,QC,eH,Ih,F6]
  by_cases h:p.1=k
  ·simp [h,QC]
  ·simp only [h,decide_false,cond_false,if_false,List.map_cons]
   have:=MD k x r
   rw [this]
   rfl
theorem OZ (m:IM) (k x j:Int):iv (F6 m k x) j=if k=j then x else iv m j:=by
 unfold iv
 induction m with
 | nil=>simp only [F6,qm]; split <;> rfl
 | cons p r ih =>
  simp only [F6]
  by_cases h:p.1=k
  ·simp only [h,if_true,qm]
   by_cases h2:k=j
   ·simp [h2]
   ·simp [h2]
  ·simp only [h,if_false,qm]
   by_cases h2:p.1=j
   ·have:k ≠ j:=fun h3=>h (h2.trans h3.symm)
    simp [h2,this]
   ·simp only [h2,if_false]
    exact ih
variable [cG]
set_option maxRecDepth 100000
theorem xa (n:Int):cr Tryz.prog 114 [I n] [B (rM n)]:=by
 refine bq aD mixed (af _) (ai _) Tryz.func114 rfl (by kernel_rfl) rfl ?_
 repeat first | refine ⟨id,?_⟩ | refine ⟨fun _ h=>bW h,?_⟩ | refine ⟨fun _ h=>ay h,?_⟩ | refine ⟨fun h=>⟨h,fun h2=>aF h h2⟩,?_⟩ | refine ⟨fun h=>⟨h,fun h2=>aA h h2⟩,?_⟩
 refine ⟨DV.Le.of_eq ?_,tv⟩
 unfold rM
 cases decide (0≤n) <;> rfl
theorem F7:sG Tryz.prog (nth tab 167).key I8:=CR aD (by kernel_rfl)
abbrev SS:=List (Nat × Sl)
def bI (S:SS) (i:Nat):List Sl:=(S.filter (fun p=>p.1 == i)).map (·.2)
structure oS (s:Vs) (S:SS):Prop where
 bH:s.bH=S.map fun p=>(p.1:Int)
 Kp:s.sl.length=4
 it:∀p∈S,p.1<4
 sl:∀(i:Nat) (f:Bool) (l:List Sl),s.sl[i]?=some (f,l)→l=bI S i
 sf:∀(i:Nat) (f:Bool) (l:List Sl),s.sl[i]?=some (f,l)→f=true→l=[]
 len:S.length≤1000
 tk:∀p∈S,0≤p.2.tick∧p.2.tick≤1099511627776
def dC (S:SS) (lim:Int):Nat:=(S.takeWhile fun p=>decide (p.2.tick≤lim)).length
theorem Ii {α:Type} (q:α→Bool):∀(S:List α) (j:Nat) (x:α),S[j]?=some x→q x=true→(S.filter q)[(S.take j).countP q]?=some x
 | [],j,x,h,_=>by simp at h
 | y::r,0,x,h,hq=>by
  simp only [List.getElem?_cons_zero,Option.some.injEq] at h
  subst h
  simp [hq]
 | y::r,j+1,x,h,hq=>by
  simp only [List.getElem?_cons_succ] at h
  have ih:=Ii q r j x h hq
  by_cases hy:q y=true
  ·simp only [List.filter_cons_of_pos hy,List.take_succ_cons,List.countP_cons_of_pos hy,List.getElem?_cons_succ]
   exact ih
  ·simp only [List.filter_cons_of_neg hy,List.take_succ_cons,List.countP_cons_of_neg hy]
   exact ih
theorem zB {α:Type} {S:List α} {j:Nat} {x:α} (h:S[j]?=some x):S.take (j+1)=S.take j++[x]:=by
 rw [List.take_add_one,h]; rfl
theorem ME {S:SS} {lim:Int} {j:Nat} (h1:∀p∈S.take j,p.2.tick≤lim) (h2:∀x,S[j]?=some x→¬ x.2.tick≤lim) (hj:j≤S.length):dC S lim=j:=by
 induction S generalizing j with
 | nil=>simp at hj; subst hj; rfl
 | cons y r ih =>
  unfold dC
  cases j with
  | zero =>
   have:=h2 y rfl
   rw [List.takeWhile_cons_of_neg (by simpa using this)]; rfl
  | succ j =>
   have hy:y.2.tick≤lim:=h1 y (by simp)
   rw [List.takeWhile_cons_of_pos (by simpa using hy),List.length_cons]
   have:=ih (j:=j) (fun p hp=>h1 p (by rw [List.take_succ_cons]; exact List.mem_cons_of_mem _ hp)) (fun x hx=>h2 x (by simpa using hx)) (by simpa using hj)
   unfold dC at this
   rw [this]
structure Y2 where
 m:IM
 j:Nat
def UI (s:Vs) (tick:Int) (x:Y2):aY:=⟨7,[(0,.ptr 0 0),(1,.dv (I tick)),(5,.own 6 0 0 []),(6,.dv (I x.j)),(13,.own 5 0 0 []),(14,.dv (I s.bH.length)),(15,.dv (I x.j))],vK false s++[(6,.tree 0 0 (.omap I8 (x.m.map QC)))]⟩
set_option maxHeartbeats 4000000 in
theorem Bt (s:Vs) (S:SS) (h:oS s S) (tick:Int) (hb:-4611686018427387904≤tick - s.ab∧tick - s.ab≤4611686018427387904):aO Tryz.prog 52 [.ptr 0 0,.dv (I tick)] 6 (vK false s) 0 [.dv (I (dC S (tick - s.ab)))] (vK false s):=by
 refine aJ aD mixed (af _) (ai _) Tryz.func52 rfl rfl (by kernel_rfl) ?_
 refine ⟨I8,Y2,UI s tick,fun x=>x.j≤S.length∧(∀k:Nat,iv x.m k=((S.take x.j).countP fun p=>p.1 == k:Nat))∧∀p∈S.take x.j,p.2.tick≤tick - s.ab,fun x=>S.length - x.j,⟨[],0⟩,fun _=>rfl,⟨⟨rfl,rf,rfl,rf,rfl,au (by rw [List.length_map]),rf,tv⟩,⟨⟨rf,rf,rf,rf,rf,rf,rfl,rfl,rfl,rfl,rfl,tv⟩,⟨rfl,rfl⟩,⟨rfl,rfl⟩,⟨rfl,rfl⟩,⟨rfl,rfl⟩,⟨rfl,rfl⟩,⟨rfl,rfl⟩,tv⟩,rfl,rfl⟩,⟨Nat.zero_le _,fun _=>by simp [iv,qm],by simp⟩,?_⟩
 rintro ⟨m,j⟩ ⟨p1,p2,p3⟩
 simp only at p1 p2 p3
 have gX:s.bH.length=S.length:=by rw [h.bH,List.length_map]
 refine ⟨fun aK=>?_,fun dy=>?_⟩
 ·have aK:j<S.length:=by have:=of_decide_eq_true aK; simp only [Int.ofNat_lt] at this; omega
  obtain ⟨⟨it,x⟩,hx⟩:∃q,S[j]?=some q:=⟨_,List.getElem?_eq_getElem aK⟩
  have oT:(List.map I s.bH)[((j:Int)).toNat]?=some (I (it:Int)):=by rw [h.bH,List.map_map,List.getElem?_map,Int.toNat_natCast,hx]; rfl
  have h4:it<4:=h.it _ (List.mem_of_getElem? hx)
  have JG:=h.tk _ (List.mem_of_getElem? hx)
  simp only at JG
  have hfe:=Ii (fun p=>p.1 == it) S j _ hx (by simp)
  obtain ⟨⟨f,l⟩,hl⟩:∃q,s.sl[it]?=some q:=⟨_,List.getElem?_eq_getElem (by rw [h.Kp]; exact h4)⟩
  have Ss:=h.sl _ _ _ hl
  have hle:l[(S.take j).countP fun p=>p.1 == it]?=some x:=by rw [Ss,bI,List.getElem?_map,hfe]; rfl
  obtain rfl:f=false:=by
   cases f with
   | false=>rfl
   | true=>rw [h.sf _ _ _ hl rfl] at hle; cases hle
  have gS:(s.sl.map kj)[((it:Int)).toNat]?=some (.aw 5 (l.map bQ)):=by rw [List.getElem?_map,Int.toNat_natCast,hl]; rfl
  have hc:=p2 it
  generalize QD:(S.take j).countP (fun p=>p.1 == it)=c at *
  have fM:c<l.length:=(List.getElem?_eq_some_iff.1 hle).1
  have aad:l.length≤S.length:=by rw [Ss,bI,List.length_map]; exact List.length_filter_le ..
  have hlen:=h.len
  refine ⟨fun _=>⟨by simp only; omega,by rw [List.length_map]; simp only; omega⟩,I (it:Int),fun _=>oT,?_⟩
  refine ⟨fun _=>⟨by omega,by rw [List.length_map,h.Kp]; omega⟩,.aw 5 (l.map bQ),fun _=>gS,?_⟩
  have hg:bn (m.map QC) (I (it:Int))=bif (qm m it).isSome then some (I (iv m it)) else none:=by
   rw [MC]; unfold iv; cases qm m it <;> rfl
  have hz:(qm m it).isSome=false→I (iv m it)=I 0:=by
   intro h9; unfold iv; cases hq:qm m it with
   | none=>rfl
   | some y=>rw [hq] at h9; cases h9
  refine ⟨F7,I (it:Int),rfl,rfl,I (iv m it),(qm m it).isSome,fun _=>hg,hz,rfl,?_⟩
  have mV:iv m (it:Int)=(c:Int):=hc
  have Rx:(l.map bQ)[((iv m (it:Int))).toNat]?=some (bQ x):=by rw [mV,List.getElem?_map,Int.toNat_natCast,hle]; rfl
  refine ⟨.aw 5 (l.map bQ),fun _=>gS,?_⟩
  refine ⟨fun _=>⟨by rw [mV]; omega,by rw [List.length_map,mV]; omega⟩,?_⟩
  refine ⟨.aw 5 (l.map bQ),fun _=>gS,?_⟩
  refine ⟨bQ x,fun _=>Rx,?_⟩
  refine ⟨fun _=>⟨by omega,by omega⟩,?_⟩
  refine ⟨by kernel_rfl,fun qP=>?_,fun hle=>?_⟩
  ·have qP:tick - s.ab<x.tick:=of_decide_eq_true qP
   have hN:dC S (tick - s.ab)=j:=ME p3 (fun y hy=>by rw [hx] at hy; injection hy with hy; subst hy; simp only; omega) p1
   rw [hN]
   exact ⟨_,_,⟨rfl,rfl⟩,by kernel_rfl,⟨rf,tv⟩,⟨rf,rf,rf,rf,rf,rf,rfl,rfl,rfl,rfl,rfl,tv⟩,⟨rfl,rfl⟩,⟨rfl,rfl⟩,⟨rfl,rfl⟩,⟨rfl,rfl⟩,⟨rfl,rfl⟩,tv⟩
  ·have N5:x.tick≤tick - s.ab:=by have:=of_decide_eq_false hle; omega
   refine ⟨F7,I (it:Int),rfl,rfl,I (iv m it),(qm m it).isSome,fun _=>hg,hz,rfl,?_⟩
   refine ⟨fun _=>⟨by rw [mV]; omega,by rw [mV]; omega⟩,?_⟩
   refine ⟨F7,I (it:Int),rfl,rfl,I (iv m it+1),⟨rf,tv⟩,rfl,false,fun _=>⟨?_,?_⟩,?_⟩
   ·intro z Cd d hd
    rw [hg] at Cd
    cases hk:(qm m (it:Int)).isSome with
    | false=>rw [hk] at Cd; cases Cd
    | true=>rw [hk] at Cd; injection Cd with Cd; subst Cd; simp [DV.cells] at hd; subst hd; rfl
   ·intro d hd
    simp [DV.cells] at hd; subst hd; rfl
   ·refine ⟨fun _=>⟨by simp only; omega,by simp only; omega⟩,fun _=>⟨by simp only; omega,by simp only; omega⟩,⟨F6 m it (iv m it+1),j+1⟩,⟨⟨rfl,rf,rfl,au (by simp),rfl,rf,au (by simp),tv⟩,⟨⟨rf,rf,rf,rf,rf,rf,rfl,rfl,rfl,rfl,rfl,tv⟩,⟨rfl,rfl⟩,⟨rfl,rfl⟩,⟨rfl,rfl⟩,⟨rfl,rfl⟩,⟨rfl,rfl⟩,⟨rfl,by rw [MD]⟩,tv⟩,rfl,rfl⟩,⟨by simp only; omega,fun k=>?_,fun p hp=>?_⟩,by simp only; omega⟩
    ·simp only
     rw [OZ,zB hx,List.countP_append]
     by_cases hk:(it:Int)=(k:Int)
     ·rw [if_pos hk]
      have eG:it=k:=by omega
      subst eG
      have:=p2 it
      rw [this]
      simp
     ·rw [if_neg hk,p2 k]
      have eG:it ≠ k:=fun h=>hk (by rw [h])
      simp [eG]
    ·simp only [zB hx] at hp
     rcases List.mem_append.1 hp with h1 | h1
     ·exact p3 p h1
     ·simp only [List.mem_singleton] at h1; subst h1; exact N5
 ·have hj:j=S.length:=by have:=of_decide_eq_false dy; simp only at this; omega
  have hN:dC S (tick - s.ab)=j:=ME p3 (fun y hy=>by rw [hj,List.getElem?_eq_none (Nat.le_refl _)] at hy; cases hy) p1
  rw [hN]
  exact ⟨_,_,⟨rfl,rfl⟩,by kernel_rfl,⟨rf,tv⟩,⟨rf,rf,rf,rf,rf,rf,rfl,rfl,rfl,rfl,rfl,tv⟩,⟨rfl,rfl⟩,⟨rfl,rfl⟩,⟨rfl,rfl⟩,⟨rfl,rfl⟩,⟨rfl,rfl⟩,tv⟩
end Go.Proofs.YtpbdohkbiklflaaGreatDoor
namespace Go.Proofs.YtpbdohkbiklflaaGreatDoor
open Go.TM
variable [cG]
set_option maxRecDepth 100000
structure Mv where
 f:Int
 t:Int
 it:Int
 n:Int
def cM (m:Mv):DV:=.agg [I m.f,I m.t,I m.it,I m.n,.aG]
structure St where
 id:Int
 kind:Int
 Ij:Int
 tick:Int
 O0:Int
 times:Int
 mv:List Mv
def Bu (l:List Mv):DV:=.sl 5 (l.map cM)
def fT (s:St):DV:=.agg [I s.id,I s.kind,I s.Ij,I s.tick,I s.O0,I s.times,Bu s.mv]
def zC (s:St):AV:=.agg [.dv (I s.id),.dv (I s.kind),.dv (I s.Ij),.dv (I s.tick),.dv (I s.O0),.dv (I s.times),.dv (Bu s.mv)]
def lu (coin:Int) (a b:Mv):Int × Int × Int × Bool :=
 (a.it,a.n,b.n,bif bif bif bif bif !(decide (a.it=coin)) then decide (b.it=coin) else false then decide (a.f=b.t) else false then decide (a.t=b.f) else false then !(decide (a.f=0)) else false then !(decide (a.t=0)) else false)
def bh (coin:Int) (s:St):Int × Int × Int × Bool :=
 if s.kind ≠ 2 then (0,0,0,false) else
 match s.mv with
 | [a,b]=>if a.it=coin then lu coin b a else lu coin a b
 | _=>(0,0,0,false)
set_option maxHeartbeats 4000000 in
theorem Dx (s:Vs) (st:St):aO Tryz.prog 51 [.ptr 0 0,zC st] 6 (vK false s) 0 [.dv (I (bh s.coin st).1),.dv (I (bh s.coin st).2.1),.dv (I (bh s.coin st).2.2.1),.dv (B (bh s.coin st).2.2.2)] (vK false s):=by
 refine aJ aD mixed (af _) (ai _) Tryz.func51 rfl rfl (by kernel_rfl) ?_
 repeat first | refine ⟨id,?_⟩ | refine ⟨fun _ h=>bW h,?_⟩ | refine ⟨fun _ h=>ay h,?_⟩ | refine ⟨fun h=>⟨h,fun h2=>aF h h2⟩,?_⟩ | refine ⟨fun h=>⟨h,fun h2=>aA h h2⟩,?_⟩
 refine ⟨fun hc=>?_,fun hc=>?_⟩
 ·have EP:bh s.coin st=(0,0,0,false):=by
   unfold bh
   by_cases hk:st.kind=2
   ·rw [if_neg (by simpa using hk)]
    have h2:¬ st.mv.length=2:=by
     intro h2; rw [List.length_map,h2,hk] at hc; simp at hc
    match hm:st.mv with
    | []=>rfl
    | [_]=>rfl
    | [_,_]=>rw [hm] at h2; exact absurd rfl h2
    | _::_::_::_=>rfl
   ·rw [if_pos hk]
  rw [EP]
  exact ⟨_,_,⟨rfl,rfl⟩,by kernel_rfl,⟨rf,rf,rf,rf,tv⟩,⟨rf,rf,rf,rf,rf,rf,rfl,rfl,rfl,rfl,rfl,tv⟩,⟨rfl,rfl⟩,⟨rfl,rfl⟩,⟨rfl,rfl⟩,⟨rfl,rfl⟩,⟨rfl,rfl⟩,tv⟩
 have hk:st.kind=2:=by
  by_cases hk:st.kind=2
  ·exact hk
  ·exfalso; have:(st.kind != 2)=true:=by simpa using hk
   rw [this] at hc; cases hc
 have hl:st.mv.length=2:=by
  rw [hk,List.length_map] at hc
  have:((st.mv.length:Int) != 2)=false:=hc
  simp at this; omega
 obtain ⟨a,b,hm⟩:∃a b,st.mv=[a,b]:=by
  match hm:st.mv with
  | [a,b]=>exact ⟨a,b,rfl⟩
  | []=>rw [hm] at hl; cases hl
  | [_]=>rw [hm] at hl; cases hl
  | _::_::_::_=>rw [hm] at hl; simp at hl
 have e0:(st.mv.map cM)[0]?=some (cM a):=by rw [hm]; rfl
 have e1:(st.mv.map cM)[1]?=some (cM b):=by rw [hm]; rfl
 refine ⟨cM a,fun _=>⟨by omega,e0⟩,?_⟩
 refine ⟨cM b,fun _=>⟨by omega,e1⟩,?_⟩
 have EP:bh s.coin st=if a.it=s.coin then lu s.coin b a else lu s.coin a b:=by
  unfold bh; rw [if_neg (by simpa using hk),hm]
 refine ⟨by kernel_rfl,by kernel_rfl,fun hq=>?_,fun hq=>?_⟩
 ·have hq:a.it=s.coin:=of_decide_eq_true hq
  rw [EP,if_pos hq]
  repeat first | refine ⟨id,?_⟩ | refine ⟨fun _ h=>bW h,?_⟩ | refine ⟨fun _ h=>ay h,?_⟩ | refine ⟨fun h=>⟨h,fun h2=>aF h h2⟩,?_⟩ | refine ⟨fun h=>⟨h,fun h2=>aA h h2⟩,?_⟩
  exact ⟨by kernel_rfl,by kernel_rfl,_,_,⟨rfl,rfl⟩,by kernel_rfl,⟨rf,rf,rf,rf,tv⟩,⟨rf,rf,rf,rf,rf,rf,rfl,rfl,rfl,rfl,rfl,tv⟩,⟨rfl,rfl⟩,⟨rfl,rfl⟩,⟨rfl,rfl⟩,⟨rfl,rfl⟩,⟨rfl,rfl⟩,tv⟩
 ·have hq:a.it ≠ s.coin:=of_decide_eq_false hq
  rw [EP,if_neg hq]
  repeat first | refine ⟨id,?_⟩ | refine ⟨fun _ h=>bW h,?_⟩ | refine ⟨fun _ h=>ay h,?_⟩ | refine ⟨fun h=>⟨h,fun h2=>aF h h2⟩,?_⟩ | refine ⟨fun h=>⟨h,fun h2=>aA h h2⟩,?_⟩
  exact ⟨by kernel_rfl,by kernel_rfl,_,_,⟨rfl,rfl⟩,by kernel_rfl,⟨rf,rf,rf,rf,tv⟩,⟨rf,rf,rf,rf,rf,rf,rfl,rfl,rfl,rfl,rfl,tv⟩,⟨rfl,rfl⟩,⟨rfl,rfl⟩,⟨rfl,rfl⟩,⟨rfl,rfl⟩,⟨rfl,rfl⟩,tv⟩
end Go.Proofs.YtpbdohkbiklflaaGreatDoor
namespace Go.Proofs.YtpbdohkbiklflaaGreatDoor
open Go.TM
variable [cG]
set_option maxRecDepth 100000
def vCg (f h g:Bool) (s:Vs):List AV:=[.dv (I 4),.dv (I s.coin),.dv (I s.ab),.dv (I s.aE),.dv (I s.last),.dv (I s.work),.own 1 0 0 [],.own 2 0 0 [],.own 3 0 (bif f then 1 else 0) [],.own 4 0 (bif h then 1 else 0) [],.own 5 (bif g then 1 else 0) 0 []]
def x9 (f h g:Bool) (s:Vs):aj:=[(0,.cells (vCg f h g s)),(1,.tree 0 0 (.omap dw (s.H.map ni))),(2,.tree 0 0 (vK.gk s.cI)),(3,.tree 0 (bif f then 1 else 0) (.aw 1 (s.rk.map Cc))),(4,.tree 0 (bif h then 1 else 0) (.aw 1 (s.sl.map kj))),(5,.tree (bif g then 1 else 0) 0 (vK.gk s.bH))]
def js (l:List Sl):Int:=(l.getD (l.length - 1) ⟨0,0,0,0,0⟩).bS
def jt (l:List Sl):Int:=(l.getD (l.length - 1) ⟨0,0,0,0,0⟩).cH
def rN (s:Vs) (it:Nat) (l:List Sl) (tick n c:Int):Vs :=
 {s with work:=s.work+1,bH:=s.bH++[(it:Int)],sl:=s.sl.set it (false,l++[⟨tick,n,c,n+js l,c+jt l⟩]) }
theorem Su:(nth tab (nth tab 88).elem).bytes=40:=rfl
theorem Sv:(nth tab (nth tab 30).elem).bytes=8:=rfl
set_option maxHeartbeats 4000000 in
theorem xb (s:Vs) (it:Nat) (hl:s.sl[it]?=some (true,[])) (tick n c:Int) (hw:0≤s.work∧s.work≤4611686018427387904) (hb:s.bH.length≤1000) :
  aO Tryz.prog 54 [.ptr 0 0,.dv (I it),.agg [.dv (I tick),.dv (I n),.dv (I c),.dv (I 0),.dv (I 0)]] 6 (vK false s) 0 [] (x9 false true true (rN s it [] tick n c)):=by
 refine aJ aD mixed (af _) (ai _) Tryz.func54 rfl rfl (by kernel_rfl) ?_
 have aK:it<s.sl.length:=(List.getElem?_eq_some_iff.1 hl).1
 have gS:(s.sl.map kj)[((it:Int)).toNat]?=some .aG:=by rw [List.getElem?_map,Int.toNat_natCast,hl]; rfl
 have eB:(0:Int)≤(it:Int)∧(it:Int)<((s.sl.map kj).length:Int):=⟨by omega,by rw [List.length_map]; omega⟩
 refine ⟨fun _=>eB,.aG,fun _=>gS,?_⟩
 repeat first | refine ⟨id,?_⟩ | refine ⟨fun _ h=>bW h,?_⟩ | refine ⟨fun _ h=>ay h,?_⟩ | refine ⟨fun h=>⟨h,fun h2=>aF h h2⟩,?_⟩ | refine ⟨fun h=>⟨h,fun h2=>aA h h2⟩,?_⟩
 refine ⟨fun h=>by simp at h,fun _=>?_⟩
 refine ⟨fun _=>eB,.aG,fun _=>gS,?_⟩
 refine .inl ⟨[bQ ⟨tick,n,c,n,c⟩],rfl,⟨rf,rf,rf,rf,rf,tv⟩,(by simp; rfl),?_⟩
 refine .inr ⟨[bQ ⟨tick,n,c,n,c⟩],dm.refl _,(by rw [Su]; simp),(by simp),?_⟩
 refine ⟨fun _=>eB,?_⟩
 refine ⟨[.aw 5 [bQ ⟨tick,n,c,n,c⟩]],⟨rfl,tv⟩,.aG,gS,?_⟩
 refine ⟨by kernel_rfl,.inl ⟨[I (it:Int)],rfl,⟨rf,tv⟩,(by simp; rfl),.inr ⟨[I (it:Int)],dm.refl _,(by rw [Sv]; simp; omega),(by simp; omega),?_⟩⟩⟩
 refine ⟨fun _=>⟨by omega,by omega⟩,?_⟩
 have b4:DV.aw 1 ((s.sl.map kj).set it (.aw 5 [bQ ⟨tick,n,c,n,c⟩]))=.aw 1 ((s.sl.set it (false,[]++[⟨tick,n,c,n+js [],c+jt []⟩])).map kj):=by
  rw [List.map_set]; simp [js,jt,kj,Sn]
 have b5:DV.aw 1 (s.bH.map I++[I (it:Int)])=vK.gk (s.bH++[(it:Int)]):=by simp [vK.gk]
 exact ⟨_,_,⟨rfl,rfl⟩,by kernel_rfl,tv,⟨rf,rf,rf,rf,rf,rf,rfl,rfl,rfl,rfl,rfl,tv⟩,⟨rfl,rfl⟩,⟨rfl,rfl⟩,⟨rfl,rfl⟩,⟨rfl,b4⟩,⟨rfl,b5⟩,tv⟩
set_option maxHeartbeats 4000000 in
theorem xc (s:Vs) (it:Nat) (l:List Sl) (hl:s.sl[it]?=some (false,l)) (tick n c:Int) (hw:0≤s.work∧s.work≤4611686018427387904) (hb:s.bH.length≤1000) (Ss:l.length≤1000) (hu:0≤js l∧js l≤1152921504606846976) (hc:0≤jt l∧jt l≤1152921504606846976) (YT:0≤n∧n≤1152921504606846976) (il:0≤c∧c≤1152921504606846976) :
  aO Tryz.prog 54 [.ptr 0 0,.dv (I it),.agg [.dv (I tick),.dv (I n),.dv (I c),.dv (I 0),.dv (I 0)]] 6 (vK false s) 0 [] (x9 false true true (rN s it l tick n c)):=by
 refine aJ aD mixed (af _) (ai _) Tryz.func54 rfl rfl (by kernel_rfl) ?_
 have aK:it<s.sl.length:=(List.getElem?_eq_some_iff.1 hl).1
 have gS:(s.sl.map kj)[((it:Int)).toNat]?=some (.aw 5 (l.map bQ)):=by rw [List.getElem?_map,Int.toNat_natCast,hl]; rfl
 have eB:(0:Int)≤(it:Int)∧(it:Int)<((s.sl.map kj).length:Int):=⟨by omega,by rw [List.length_map]; omega⟩
 have b5:DV.aw 1 (s.bH.map I++[I (it:Int)])=vK.gk (s.bH++[(it:Int)]):=by simp [vK.gk]
 refine ⟨fun _=>eB,.aw 5 (l.map bQ),fun _=>gS,?_⟩
 refine ⟨.aw 5 (l.map bQ),fun _=>gS,?_⟩
 repeat first | refine ⟨id,?_⟩ | refine ⟨fun _ h=>bW h,?_⟩ | refine ⟨fun _ h=>ay h,?_⟩ | refine ⟨fun h=>⟨h,fun h2=>aF h h2⟩,?_⟩ | refine ⟨fun h=>⟨h,fun h2=>aA h h2⟩,?_⟩
 refine ⟨fun hp=>?_,fun hp=>?_⟩
 ·have hp:0<l.length:=by have:=of_decide_eq_true hp; rw [List.length_map] at this; omega
  obtain ⟨z,hz⟩:∃z,l[l.length - 1]?=some z:=⟨_,List.getElem?_eq_getElem (by omega)⟩
  have fh:js l=z.bS:=by unfold js; rw [List.getD_eq_getElem?_getD,hz]; rfl
  have ph:jt l=z.cH:=by unfold jt; rw [List.getD_eq_getElem?_getD,hz]; rfl
  rw [fh] at hu
  rw [ph] at hc
  have hze:(l.map bQ)[(((l.map bQ).length:Int) - 1).toNat]?=some (bQ z):=by rw [List.length_map,show ((l.length:Int) - 1).toNat=l.length - 1 by omega,List.getElem?_map,hz]; rfl
  have Y3:(l.map bQ).length=l.length:=List.length_map ..
  repeat first | refine ⟨.aw 5 (l.map bQ),fun _=>gS,?_⟩ | refine ⟨bQ z,fun _=>hze,?_⟩ | refine ⟨by kernel_rfl,?_⟩ | refine ⟨fun _=>⟨by omega,by omega⟩,?_⟩
  refine .inl ⟨[bQ ⟨tick,n,c,n+z.bS,c+z.cH⟩],rfl,⟨rf,rf,rf,rf,rf,tv⟩,(by simp; rfl),.inr ⟨.aw 5 (l.map bQ),fun _=>gS,?_⟩⟩
  refine ⟨[bQ ⟨tick,n,c,n+z.bS,c+z.cH⟩],dm.refl _,(by rw [Su]; simp; omega),(by simp; omega),.aw 5 (l.map bQ),gS,?_⟩
  refine ⟨fun _=>by rw [List.length_set]; exact eB,[.aw 5 (l.map bQ++[bQ ⟨tick,n,c,n+z.bS,c+z.cH⟩])],⟨rfl,tv⟩,.any,List.getElem?_set_self (by rw [List.length_map]; omega),?_⟩
  refine ⟨by kernel_rfl,.inl ⟨[I (it:Int)],rfl,⟨rf,tv⟩,(by simp; rfl),.inr ⟨[I (it:Int)],dm.refl _,(by rw [Sv]; simp; omega),(by simp; omega),?_⟩⟩⟩
  refine ⟨fun _=>⟨by omega,by omega⟩,?_⟩
  have b4:DV.aw 1 (((s.sl.map kj).set ((it:Int)).toNat .any).set ((it:Int)).toNat (.aw 5 (l.map bQ++[bQ ⟨tick,n,c,n+z.bS,c+z.cH⟩])))=.aw 1 ((s.sl.set it (false,l++[⟨tick,n,c,n+js l,c+jt l⟩])).map kj):=by
   rw [List.set_set,List.map_set,Int.toNat_natCast]; simp [fh,ph,kj,Sn]
  exact ⟨_,_,⟨rfl,rfl⟩,by kernel_rfl,tv,⟨rf,rf,rf,rf,rf,rf,rfl,rfl,rfl,rfl,rfl,tv⟩,⟨rfl,rfl⟩,⟨rfl,rfl⟩,⟨rfl,rfl⟩,⟨rfl,b4⟩,⟨rfl,b5⟩,tv⟩
 ·have hp:l=[]:=by have:=of_decide_eq_false hp; rw [List.length_map] at this; cases l with
   | nil=>rfl
   | cons _ _=>simp only [List.length_cons] at this; omega
  subst hp
  refine ⟨fun _=>eB,.aw 5 [],fun _=>gS,?_⟩
  refine .inl ⟨[bQ ⟨tick,n,c,n,c⟩],rfl,⟨rf,rf,rf,rf,rf,tv⟩,(by simp; rfl),.inr ⟨.aw 5 [],fun _=>gS,?_⟩⟩
  refine ⟨[bQ ⟨tick,n,c,n,c⟩],dm.refl _,(by rw [Su]; simp),(by simp),.aw 5 [],gS,?_⟩
  refine ⟨fun _=>by rw [List.length_set]; exact eB,[.aw 5 ([]++[bQ ⟨tick,n,c,n,c⟩])],⟨rfl,tv⟩,.any,List.getElem?_set_self (by rw [List.length_map]; omega),?_⟩
  refine ⟨by kernel_rfl,.inl ⟨[I (it:Int)],rfl,⟨rf,tv⟩,(by simp; rfl),.inr ⟨[I (it:Int)],dm.refl _,(by rw [Sv]; simp; omega),(by simp; omega),?_⟩⟩⟩
  refine ⟨fun _=>⟨by omega,by omega⟩,?_⟩
  have b4:DV.aw 1 (((s.sl.map kj).set ((it:Int)).toNat .any).set ((it:Int)).toNat (.aw 5 ([]++[bQ ⟨tick,n,c,n,c⟩])))=.aw 1 ((s.sl.set it (false,[]++[⟨tick,n,c,n+js [],c+jt []⟩])).map kj):=by
   rw [List.set_set,List.map_set,Int.toNat_natCast]; simp [js,jt,kj,Sn]
  exact ⟨_,_,⟨rfl,rfl⟩,by kernel_rfl,tv,⟨rf,rf,rf,rf,rf,rf,rfl,rfl,rfl,rfl,rfl,tv⟩,⟨rfl,rfl⟩,⟨rfl,rfl⟩,⟨rfl,rfl⟩,⟨rfl,b4⟩,⟨rfl,b5⟩,tv⟩
end Go.Proofs.YtpbdohkbiklflaaGreatDoor
namespace Go.Proofs.YtpbdohkbiklflaaGreatDoor
open Go.TM
variable [cG]
set_option maxRecDepth 100000
def hold (m h:HM) (k:Ky):Int:=(bt m k).getD (hv h k)
def Sw (s:Vs) (m:HM):aj:=vK false s++[(6,.cells [.ptr 0 0]),(7,.tree 0 0 (.omap dw (m.map ni))),(8,.cells [.own 7 0 0 []])]
theorem Dy (m:HM) (k:Ky):bn (m.map ni) (u4 k)=bif (bt m k).isSome then some (I (hv m k)) else none:=by
 rw [Bs]; unfold hv; cases bt m k <;> rfl
theorem Ik (m:HM) (k:Ky) (h9:(bt m k).isSome=false):I (hv m k)=I 0:=by
 unfold hv
 cases hq:bt m k with
 | none=>rfl
 | some x=>rw [hq] at h9; cases h9
set_option maxHeartbeats 4000000 in
theorem mj (s:Vs) (m:HM) (k:Ky):aO Tryz.prog 113 [.agg [.dv (I k.1),.dv (I k.2)],.ptr 8 0,.ptr 6 0] 9 (Sw s m) 0 [.dv (I (hold m s.H k))] (Sw s m):=by
 refine aJ aD mixed (af _) (ai _) Tryz.func113 rfl rfl (by kernel_rfl) ?_
 refine ⟨gM,u4 k,rfl,rfl,I (hv m k),(bt m k).isSome,fun _=>Dy m k,Ik m k,rfl,?_⟩
 refine ⟨fun hs=>?_,fun hn=>?_⟩
 ·have hh:hold m s.H k=hv m k:=by
   unfold hold hv; cases hq:bt m k with
   | none=>rw [hq] at hs; cases hs
   | some x=>rfl
  rw [hh]
  exact ⟨_,_,⟨rfl,rfl⟩,by kernel_rfl,⟨rf,tv⟩,⟨rf,rf,rf,rf,rf,rf,rfl,rfl,rfl,rfl,rfl,tv⟩,⟨rfl,rfl⟩,⟨rfl,rfl⟩,⟨rfl,rfl⟩,⟨rfl,rfl⟩,⟨rfl,rfl⟩,⟨rfl,tv⟩,⟨rfl,rfl⟩,⟨rfl,tv⟩,tv⟩
 ·have hh:hold m s.H k=hv s.H k:=by
   unfold hold; cases hq:bt m k with
   | none=>rfl
   | some x=>rw [hq] at hn; cases hn
  rw [hh]
  refine ⟨gM,u4 k,rfl,rfl,I (hv s.H k),(bt s.H k).isSome,fun _=>Dy s.H k,Ik s.H k,rfl,?_⟩
  exact ⟨by kernel_rfl,_,_,⟨rfl,rfl⟩,by kernel_rfl,⟨rf,tv⟩,⟨rf,rf,rf,rf,rf,rf,rfl,rfl,rfl,rfl,rfl,tv⟩,⟨rfl,rfl⟩,⟨rfl,rfl⟩,⟨rfl,rfl⟩,⟨rfl,rfl⟩,⟨rfl,rfl⟩,⟨rfl,tv⟩,⟨rfl,rfl⟩,⟨rfl,tv⟩,tv⟩
def jf (v:Mv):Bool:=bif bif bif bif bif bif decide (v.it<0) then true else decide (4≤v.it) then true else decide (v.n<1) then true else decide (1099511627776<v.n) then true else !rM v.f then true else !rM v.t then true else decide (v.f=v.t)
theorem pB {v:Mv} (h:jf v=false):0≤v.it∧v.it<4∧1≤v.n∧v.n≤1099511627776∧rM v.f=true∧rM v.t=true∧v.f ≠ v.t:=by
 unfold jf at h
 simp only [Bool.cond_true_left,Bool.or_eq_false_iff,decide_eq_false_iff_not,Bool.not_eq_false'] at h
 obtain ⟨⟨⟨⟨⟨⟨h1,h2⟩,h3⟩,h4⟩,h5⟩,h6⟩,h7⟩:=h
 exact ⟨by omega,by omega,by omega,by omega,h5,h6,h7⟩
inductive UJ where
 | err (e:Int)
 | ok (m:HM)
def kR (H:HM):HM→List Mv→UJ
 | m,[]=>.ok m
 | m,v::r =>
  if jf v=true then .err 1 else
  if v.f ≠ 0 then
   if hold m H (v.f,v.it)<v.n then .err 10 else
   let m1:=bT m (v.f,v.it) (hold m H (v.f,v.it) - v.n)
   kR H (if v.t ≠ 0 then bT m1 (v.t,v.it) (hold m1 H (v.t,v.it)+v.n) else m1) r
  else kR H (if v.t ≠ 0 then bT m (v.t,v.it) (hold m H (v.t,v.it)+v.n) else m) r
def UJ.rs:UJ→List AV
 | .err e=>[.dv .iz,.dv (I e)]
 | .ok _=>[.own 7 0 0 [],.dv (I 0)]
def UJ.K:UJ→aj
 | .err _=>[]
 | .ok m=>[(7,.tree 0 0 (.omap dw (m.map ni)))]
theorem zD (m:HM) (k:Ky) (x:Int) (j:Ky):bt (bT m k x) j=if k=j then some x else bt m j:=by
 induction m with
 | nil=>simp only [bT,bt]
 | cons p r ih =>
  simp only [bT]
  by_cases h:p.1=k
  ·simp only [h,if_true,bt]
   by_cases h2:k=j
   ·simp [h2]
   ·simp [h2]
  ·simp only [h,if_false,bt]
   by_cases h2:p.1=j
   ·have:k ≠ j:=fun h3=>h (h2.trans h3.symm)
    simp [h2,this]
   ·simp only [h2,if_false]
    exact ih
theorem lx (m h:HM) (k:Ky) (x:Int) (j:Ky):hold (bT m k x) h j=if k=j then x else hold m h j:=by
 unfold hold; rw [zD]; split <;> rfl
theorem F8 (m:HM) (k:Ky) (x:Int):(∀z,bn (m.map ni) (u4 k)=some z→z.bl)∧(I x).bl:=by
 constructor
 ·intro z Cd d hd
  rw [Dy] at Cd
  cases hk:(bt m k).isSome with
  | false=>rw [hk] at Cd; cases Cd
  | true=>rw [hk] at Cd; injection Cd with Cd; subst Cd; simp [DV.cells] at hd; subst hd; rfl
 ·intro d hd
  simp [DV.cells] at hd; subst hd; rfl
theorem Bv {m h:HM} {k:Ky} {x B C:Int} (hB:∀k,0≤hold m h k∧hold m h k≤B) (hx:0≤x∧x≤C) (hBC:B≤C) (j:Ky):0≤hold (bT m k x) h j∧hold (bT m k x) h j≤C:=by
 rw [lx]; have:=hB j; split <;> omega
structure Y4 where
 m:HM
 j:Nat
def UL (s:Vs) (l:List Mv) (x:Y4):aY:=⟨9,[(0,.ptr 0 0),(1,.dv (Bu l)),(2,.ptr 6 0),(4,.dv .iz),(5,.dv (I 0)),(6,.ptr 8 0),(7,.fn 113 [.ptr 8 0,.ptr 6 0]),(14,.dv (Bu l)),(15,.dv (I l.length)),(16,.dv (I x.j))],Sw s x.m⟩
set_option maxHeartbeats 4000000 in
theorem O1 (s:Vs) (l:List Mv) (hl:l.length≤1000) (hH:∀k,0≤hv s.H k∧hv s.H k≤1152921504606846976):aO Tryz.prog 50 [.ptr 0 0,.dv (Bu l)] 6 (vK false s) 2 (kR s.H [] l).rs (vK false s++(kR s.H [] l).K):=by
 refine wq aD mixed (af _) (ai _) Tryz.func50 rfl rfl (by kernel_rfl) ?_
 refine ⟨dw,Y4,UL s l,fun x=>x.j≤l.length∧kR s.H [] l=kR s.H x.m (l.drop x.j)∧∀k,0≤hold x.m s.H k∧hold x.m s.H k≤1152921504606846976+x.j * 1099511627776,fun x=>l.length - x.j,⟨[],0⟩,fun _=>rfl,⟨⟨rfl,rf,rfl,rf,rf,rfl,⟨rfl,rfl,rfl,tv⟩,rf,au (by rw [List.length_map]),rf,tv⟩,⟨⟨rf,rf,rf,rf,rf,rf,rfl,rfl,rfl,rfl,rfl,tv⟩,⟨rfl,rfl⟩,⟨rfl,rfl⟩,⟨rfl,rfl⟩,⟨rfl,rfl⟩,⟨rfl,rfl⟩,⟨rfl,tv⟩,⟨rfl,rfl⟩,⟨rfl,tv⟩,tv⟩,rfl,rfl⟩,⟨Nat.zero_le _,rfl,fun k=>?_⟩,?_⟩
 ·have:=hH k
  show 0≤hv s.H k∧hv s.H k≤_
  simp only; omega
 rintro ⟨m,j⟩ ⟨p1,p2,p3⟩
 simp only at p1 p2 p3
 refine ⟨fun aK=>?_,fun dy=>?_⟩
 ·have aK:j<l.length:=by have:=of_decide_eq_true aK; simp only [Int.ofNat_lt] at this; omega
  obtain ⟨v,jv⟩:∃v,l[j]?=some v:=⟨_,List.getElem?_eq_getElem aK⟩
  have Ce:(l.map cM)[((j:Int)).toNat]?=some (cM v):=by rw [List.getElem?_map,Int.toNat_natCast,jv]; rfl
  have aB:l.drop j=v::l.drop (j+1):=by rw [List.drop_eq_getElem_cons aK]; congr 1; rw [List.getElem?_eq_getElem aK] at jv; injection jv
  refine ⟨cM v,fun _=>⟨by simp only; omega,Ce⟩,?_⟩
  repeat first | refine ⟨id,?_⟩ | refine ⟨fun _ h=>bW h,?_⟩ | refine ⟨fun _ h=>ay h,?_⟩ | refine ⟨fun h=>⟨h,fun h2=>aF h h2⟩,?_⟩ | refine ⟨fun h=>⟨h,fun h2=>aA h h2⟩,?_⟩
  refine (.inl ⟨_,fun _=>(xa v.f).ok,?_⟩)
  repeat first | refine ⟨id,?_⟩ | refine ⟨fun _ h=>bW h,?_⟩ | refine ⟨fun _ h=>ay h,?_⟩ | refine ⟨fun h=>⟨h,fun h2=>aF h h2⟩,?_⟩ | refine ⟨fun h=>⟨h,fun h2=>aA h h2⟩,?_⟩
  refine (.inl ⟨_,fun _=>(xa v.t).ok,?_⟩)
  repeat first | refine ⟨id,?_⟩ | refine ⟨fun _ h=>bW h,?_⟩ | refine ⟨fun _ h=>ay h,?_⟩ | refine ⟨fun h=>⟨h,fun h2=>aF h h2⟩,?_⟩ | refine ⟨fun h=>⟨h,fun h2=>aA h h2⟩,?_⟩
  refine .inl ⟨by kernel_rfl,fun hc=>?_,fun hc=>?_⟩
  ·have JH:jf v=true:=hc
   have hr:kR s.H [] l=.err 1:=by rw [p2,aB]; simp only [kR,JH,if_true]
   rw [hr]
   exact ⟨_,_,⟨rfl,rfl⟩,by kernel_rfl,⟨rf,rf,tv⟩,⟨rf,rf,rf,rf,rf,rf,rfl,rfl,rfl,rfl,rfl,tv⟩,⟨rfl,rfl⟩,⟨rfl,rfl⟩,⟨rfl,rfl⟩,⟨rfl,rfl⟩,⟨rfl,rfl⟩,tv⟩
  have JH:jf v=false:=hc
  have cy:1≤v.n∧v.n≤1099511627776∧v.f ≠ v.t:=by
   have:=pB JH; exact ⟨this.2.2.1,this.2.2.2.1,this.2.2.2.2.2.2⟩
  refine ⟨fun hf=>?_,fun hf=>?_⟩
  ·have hf:v.f ≠ 0:=by simpa using hf
   refine .inr ⟨[0,1,2,3,4,5,6,7,8],[.agg [.dv (I v.f),.dv (I v.it)],.ptr 8 0,.ptr 6 0],Sw s m,0,_,_,mj s m (v.f,v.it),by kernel_rfl,by kernel_rfl,⟨⟨rf,rf,tv⟩,rfl,rfl,tv⟩,⟨⟨rf,rf,rf,rf,rf,rf,rfl,rfl,rfl,rfl,rfl,tv⟩,⟨rfl,rfl⟩,⟨rfl,rfl⟩,⟨rfl,rfl⟩,⟨rfl,rfl⟩,⟨rfl,rfl⟩,⟨rfl,tv⟩,⟨rfl,rfl⟩,⟨rfl,tv⟩,tv⟩,?_⟩
   refine .inl ⟨by kernel_rfl,fun hs=>?_,fun hs=>?_⟩
   ·have hs:hold m s.H (v.f,v.it)<v.n:=of_decide_eq_true hs
    have hr:kR s.H [] l=.err 10:=by rw [p2,aB]; simp only [kR,JH]; simp [hf,hs]
    rw [hr]
    exact ⟨_,_,⟨rfl,rfl⟩,by kernel_rfl,⟨rf,rf,tv⟩,⟨rf,rf,rf,rf,rf,rf,rfl,rfl,rfl,rfl,rfl,tv⟩,⟨rfl,rfl⟩,⟨rfl,rfl⟩,⟨rfl,rfl⟩,⟨rfl,rfl⟩,⟨rfl,rfl⟩,tv⟩
   have hs:¬ hold m s.H (v.f,v.it)<v.n:=of_decide_eq_false hs
   have hBf:=p3 (v.f,v.it)
   refine .inr ⟨[0,1,2,3,4,5,6,7,8],[.agg [.dv (I v.f),.dv (I v.it)],.ptr 8 0,.ptr 6 0],Sw s (m),0,_,_,mj s (m) (v.f,v.it),by kernel_rfl,by kernel_rfl,⟨⟨rf,rf,tv⟩,rfl,rfl,tv⟩,⟨⟨rf,rf,rf,rf,rf,rf,rfl,rfl,rfl,rfl,rfl,tv⟩,⟨rfl,rfl⟩,⟨rfl,rfl⟩,⟨rfl,rfl⟩,⟨rfl,rfl⟩,⟨rfl,rfl⟩,⟨rfl,tv⟩,⟨rfl,rfl⟩,⟨rfl,tv⟩,tv⟩,?_⟩
   refine ⟨fun _=>⟨by omega,by omega⟩,?_⟩
   refine ⟨gM,u4 (v.f,v.it),rfl,rfl,I (hold m s.H (v.f,v.it) - v.n),⟨rf,tv⟩,rfl,false,fun _=>F8 m (v.f,v.it) _,.inr ⟨[(0,4)],by kernel_rfl,rJ (pol:=FZ) (by kernel_rfl) (by kernel_rfl),?_⟩⟩
   have hM:kR s.H [] l=kR s.H (if v.t ≠ 0 then bT (bT m (v.f,v.it) (hold m s.H (v.f,v.it) - v.n)) (v.t,v.it) (hold (bT m (v.f,v.it) (hold m s.H (v.f,v.it) - v.n)) s.H (v.t,v.it)+v.n) else bT m (v.f,v.it) (hold m s.H (v.f,v.it) - v.n)) (l.drop (j+1)):=by
    rw [p2,aB]; simp only [kR,JH]; simp [hf,hs]
   have hB:∀k,0≤hold (bT m (v.f,v.it) (hold m s.H (v.f,v.it) - v.n)) s.H k∧hold (bT m (v.f,v.it) (hold m s.H (v.f,v.it) - v.n)) s.H k≤1152921504606846976+(j:Int) * 1099511627776:=by
    intro k
    rw [lx]; have:=p3 k; split <;> omega
   refine ⟨fun ht=>?_,fun ht=>?_⟩
   ·have ht:v.t ≠ 0:=by simpa using ht
    have MF:=hM
    rw [if_pos ht] at MF
    have hBt:=hB (v.t,v.it)
    refine .inr ⟨[0,1,2,3,4,5,6,7,8],[.agg [.dv (I v.t),.dv (I v.it)],.ptr 8 0,.ptr 6 0],Sw s (bT m (v.f,v.it) (hold m s.H (v.f,v.it) - v.n)),0,_,_,mj s (bT m (v.f,v.it) (hold m s.H (v.f,v.it) - v.n)) (v.t,v.it),by kernel_rfl,by kernel_rfl,⟨⟨rf,rf,tv⟩,rfl,rfl,tv⟩,⟨⟨rf,rf,rf,rf,rf,rf,rfl,rfl,rfl,rfl,rfl,tv⟩,⟨rfl,rfl⟩,⟨rfl,rfl⟩,⟨rfl,rfl⟩,⟨rfl,rfl⟩,⟨rfl,rfl⟩,⟨rfl,tv⟩,⟨rfl,by rw [sZ]⟩,⟨rfl,tv⟩,tv⟩,?_⟩
    refine ⟨fun _=>⟨by omega,by omega⟩,?_⟩
    refine ⟨gM,u4 (v.t,v.it),rfl,rfl,I (hold (bT m (v.f,v.it) (hold m s.H (v.f,v.it) - v.n)) s.H (v.t,v.it)+v.n),⟨rf,tv⟩,rfl,false,fun _=>?_,.inr ⟨[(0,4)],by kernel_rfl,rJ (pol:=FZ) (by kernel_rfl) (by kernel_rfl),?_⟩⟩
    ·exact F8 (bT m (v.f,v.it) (hold m s.H (v.f,v.it) - v.n)) (v.t,v.it) _
    refine ⟨fun _=>⟨by simp only; omega,by simp only; omega⟩,⟨bT (bT m (v.f,v.it) (hold m s.H (v.f,v.it) - v.n)) (v.t,v.it) (hold (bT m (v.f,v.it) (hold m s.H (v.f,v.it) - v.n)) s.H (v.t,v.it)+v.n),j+1⟩,⟨⟨rfl,rf,rfl,rf,rf,rfl,⟨rfl,rfl,rfl,tv⟩,rf,rf,au (by simp),tv⟩,⟨⟨rf,rf,rf,rf,rf,rf,rfl,rfl,rfl,rfl,rfl,tv⟩,⟨rfl,rfl⟩,⟨rfl,rfl⟩,⟨rfl,rfl⟩,⟨rfl,rfl⟩,⟨rfl,rfl⟩,⟨rfl,tv⟩,⟨rfl,by rw [sZ]⟩,⟨rfl,tv⟩,tv⟩,rfl,rfl⟩,⟨by simp only; omega,MF,fun k=>?_⟩,by simp only; omega⟩
    ·exact Bv hB ⟨by omega,by simp only; omega⟩ (by simp only; omega) k
   ·have ht:¬ v.t ≠ 0:=by simpa using ht
    have MF:=hM
    rw [if_neg ht] at MF
    refine ⟨fun _=>⟨by simp only; omega,by simp only; omega⟩,⟨bT m (v.f,v.it) (hold m s.H (v.f,v.it) - v.n),j+1⟩,⟨⟨rfl,rf,rfl,rf,rf,rfl,⟨rfl,rfl,rfl,tv⟩,rf,rf,au (by simp),tv⟩,⟨⟨rf,rf,rf,rf,rf,rf,rfl,rfl,rfl,rfl,rfl,tv⟩,⟨rfl,rfl⟩,⟨rfl,rfl⟩,⟨rfl,rfl⟩,⟨rfl,rfl⟩,⟨rfl,rfl⟩,⟨rfl,tv⟩,⟨rfl,by rw [sZ]⟩,⟨rfl,tv⟩,tv⟩,rfl,rfl⟩,⟨by simp only; omega,MF,fun k=>?_⟩,by simp only; omega⟩
    ·have:=hB k; simp only; omega
  ·have hf:¬ v.f ≠ 0:=by simpa using hf
   have hM:kR s.H [] l=kR s.H (if v.t ≠ 0 then bT (m) (v.t,v.it) (hold (m) s.H (v.t,v.it)+v.n) else m) (l.drop (j+1)):=by
    rw [p2,aB]; simp only [kR,JH]; simp only [hf,if_false]; rfl
   have hB:=p3
   refine ⟨fun ht=>?_,fun ht=>?_⟩
   ·have ht:v.t ≠ 0:=by simpa using ht
    have MF:=hM
    rw [if_pos ht] at MF
    have hBt:=hB (v.t,v.it)
    refine .inr ⟨[0,1,2,3,4,5,6,7,8],[.agg [.dv (I v.t),.dv (I v.it)],.ptr 8 0,.ptr 6 0],Sw s (m),0,_,_,mj s (m) (v.t,v.it),by kernel_rfl,by kernel_rfl,⟨⟨rf,rf,tv⟩,rfl,rfl,tv⟩,⟨⟨rf,rf,rf,rf,rf,rf,rfl,rfl,rfl,rfl,rfl,tv⟩,⟨rfl,rfl⟩,⟨rfl,rfl⟩,⟨rfl,rfl⟩,⟨rfl,rfl⟩,⟨rfl,rfl⟩,⟨rfl,tv⟩,⟨rfl,rfl⟩,⟨rfl,tv⟩,tv⟩,?_⟩
    refine ⟨fun _=>⟨by omega,by omega⟩,?_⟩
    refine ⟨gM,u4 (v.t,v.it),rfl,rfl,I (hold (m) s.H (v.t,v.it)+v.n),⟨rf,tv⟩,rfl,false,fun _=>?_,.inr ⟨[(0,4)],by kernel_rfl,rJ (pol:=FZ) (by kernel_rfl) (by kernel_rfl),?_⟩⟩
    ·exact F8 (m) (v.t,v.it) _
    refine ⟨fun _=>⟨by simp only; omega,by simp only; omega⟩,⟨bT (m) (v.t,v.it) (hold (m) s.H (v.t,v.it)+v.n),j+1⟩,⟨⟨rfl,rf,rfl,rf,rf,rfl,⟨rfl,rfl,rfl,tv⟩,rf,rf,au (by simp),tv⟩,⟨⟨rf,rf,rf,rf,rf,rf,rfl,rfl,rfl,rfl,rfl,tv⟩,⟨rfl,rfl⟩,⟨rfl,rfl⟩,⟨rfl,rfl⟩,⟨rfl,rfl⟩,⟨rfl,rfl⟩,⟨rfl,tv⟩,⟨rfl,by rw [sZ]⟩,⟨rfl,tv⟩,tv⟩,rfl,rfl⟩,⟨by simp only; omega,MF,fun k=>?_⟩,by simp only; omega⟩
    ·exact Bv hB ⟨by omega,by simp only; omega⟩ (by simp only; omega) k
   ·have ht:¬ v.t ≠ 0:=by simpa using ht
    have MF:=hM
    rw [if_neg ht] at MF
    refine ⟨fun _=>⟨by simp only; omega,by simp only; omega⟩,⟨m,j+1⟩,⟨⟨rfl,rf,rfl,rf,rf,rfl,⟨rfl,rfl,rfl,tv⟩,rf,rf,au (by simp),tv⟩,⟨⟨rf,rf,rf,rf,rf,rf,rfl,rfl,rfl,rfl,rfl,tv⟩,⟨rfl,rfl⟩,⟨rfl,rfl⟩,⟨rfl,rfl⟩,⟨rfl,rfl⟩,⟨rfl,rfl⟩,⟨rfl,tv⟩,⟨rfl,rfl⟩,⟨rfl,tv⟩,tv⟩,rfl,rfl⟩,⟨by simp only; omega,MF,fun k=>?_⟩,by simp only; omega⟩
    ·have:=hB k; simp only; omega
 ·have hj:j=l.length:=by have:=of_decide_eq_false dy; simp only at this; omega
  have hr:kR s.H [] l=.ok m:=by rw [p2,hj,List.drop_length]; rfl
  rw [hr]
  exact ⟨_,_,⟨rfl,rfl⟩,by kernel_rfl,⟨rfl,rf,tv⟩,⟨rf,rf,rf,rf,rf,rf,rfl,rfl,rfl,rfl,rfl,tv⟩,⟨rfl,rfl⟩,⟨rfl,rfl⟩,⟨rfl,rfl⟩,⟨rfl,rfl⟩,⟨rfl,rfl⟩,⟨rfl,rfl⟩,tv⟩
end Go.Proofs.YtpbdohkbiklflaaGreatDoor
namespace Go.Proofs.YtpbdohkbiklflaaGreatDoor
open Go.TM
def Dz (a it n:Int) (m:Mv):Int :=
 if m.it=it∧m.f=a then (if m.it=it∧m.t=a then n+m.n else n) - m.n else (if m.it=it∧m.t=a then n+m.n else n)
def gU (a it n:Int) (l:List Mv):Int:=l.foldl (Dz a it) n
def aN (a it:Int) (l:List St):Int:=l.foldl (fun n s=>gU a it n s.mv) 0
def ly (l:List Int) (n:Int):List Int:=if n≤0 ∨ n∈l then l else l.takeWhile (fun x=>decide (x<n))++n::l.dropWhile (fun x=>decide (x<n))
def fH (o:List Int) (m:Mv):List Int:=ly (ly o m.f) m.t
def bp (l:List St):List Int:=l.foldl (fun o s=>s.mv.foldl fH o) []
def br (coin:Int) (s:St):Bool:=(bh coin s).2.2.2
def UM (coin ab tick:Int) (s:St):Bool:=bif bif br coin s then decide (tick - ab<s.tick) else false then decide (s.tick≤tick) else false
def bz (coin ab:Int) (l:List St) (tick:Int):Nat:=l.countP (UM coin ab tick)
def O2 (a:Int) (l:List St):Nat:=(List.range 4).countP fun k=>!decide (aN a (k:Nat) l=0)
def nY (l:List St) (xs:List Int):Nat:=(xs.map fun a=>O2 a l).sum
def rO (coin ab:Int) (l:List St) (tick:Int):Nat:=bz coin ab l tick+nY l (bp l)
def P8:St:=⟨0,0,0,0,0,0,[]⟩
def bs (l:List St):Int:=(l.getD (l.length - 1) P8).tick
def pc (steps:List St):List Mv→List Mv→Int
 | _,[]=>0
 | b,m::r=>if jf m=true then 1 else if m.f ≠ 0∧aN m.f m.it (steps++[⟨0,0,0,0,0,0,b⟩])<m.n then 10 else pc steps (b++[m]) r
structure RV where
 coin:Int
 ab:Int
 aE:Int
 steps:List St
 work:Int
def Tw (a:Int) (l r:List St):Nat:=(List.range 4).countP fun k=>!decide (aN a (k:Nat) l=aN a (k:Nat) r)
def qn (l r:List St) (xs:List Int):Nat:=(xs.map fun a=>Tw a l r).sum
def gV (b:Bool):Int:=bif b then 1 else 0
def ie (v:RV) (st:St):Int :=
 if st.tick<bs v.steps ∨ 1099511627776<st.tick then 1 else
 if pc v.steps [] st.mv ≠ 0 then pc v.steps [] st.mv else
 if v.aE<(rO v.coin v.ab (v.steps++[st]) st.tick:Int) then 22 else 0
def kQ (v:RV) (st:St):RV:={ v with steps:=v.steps++[st],work:=v.work+(qn (v.steps++[st]) v.steps (bp (v.steps++[st])):Int)+gV (br v.coin st)+(bz v.coin v.ab v.steps (bs v.steps):Int) - ((bz v.coin v.ab (v.steps++[st]) st.tick:Int) - gV (br v.coin st)) }
def F9 (l:List St) (it:Int):Int:=((bp l).map fun a=>aN a it l).sum
def iM (o:List Rk) (n:Int):Nat→Nat
 | 0=>0
 | k+1=>if (o.getD k (0,0)).2<n then iM o n k else k+1
def j4 (o:List Rk) (x:Rk):List Rk:=o.take (iM o x.2 o.length)++x::o.drop (iM o x.2 o.length)
def lz (l:List St) (it:Int) (o:List Rk) (a:Int):List Rk:=if aN a it l=0 ∨ 1048576≤a then o else j4 o (a,aN a it l)
def DA (l:List St) (it:Int):List Rk:=(bp l).foldl (lz l it) []
def O3 (l:List St) (it n:Int):List Rk:=(DA l it).take n.toNat
structure Ga where
 bS:Int
 cH:Int
 last:Int
def dS (coin thr it:Int) (p:Ga) (s:St):Ga :=
 if br coin s=true∧(bh coin s).1=it∧thr<s.tick then ⟨p.bS+(bh coin s).2.1,p.cH+(bh coin s).2.2.1,(bh coin s).2.2.1.tdiv (bh coin s).2.1⟩ else p
def pd (coin thr it:Int) (l:List St):Ga:=l.foldl (dS coin thr it) ⟨0,0,0⟩
def ao (k:Int):Int:=[(1:Int),2,3,4,1048577,9].getD (k.tmod 6).toNat 0
def XA (s:St):Prop:=s.mv.length≤4∧(∀m∈s.mv,-1099511627776≤m.n∧m.n≤1099511627776)
def m8 (l:List St):Prop:=l.length≤100∧∀s∈l,XA s
theorem qo (a it:Int) (l:List St) (s:St):aN a it (l++[s])=gU a it (aN a it l) s.mv:=by simp [aN,List.foldl_append]
theorem zE (a it n:Int) (l:List Mv) (m:Mv):gU a it n (l++[m])=Dz a it (gU a it n l) m:=by simp [gU,List.foldl_append]
theorem UN (a it n:Int) (m:Mv) (hm:-1099511627776≤m.n∧m.n≤1099511627776):n - 2199023255552≤Dz a it n m∧Dz a it n m≤n+2199023255552:=by
 unfold Dz; split <;> split <;> omega
theorem Gb (a it:Int):∀(l:List Mv) (n:Int),(∀m∈l,-1099511627776≤m.n∧m.n≤1099511627776)→n - 2199023255552 * l.length≤gU a it n l∧gU a it n l≤n+2199023255552 * l.length
 | [],n,_=>by simp [gU]
 | m::r,n,h=>by
  have h1:=Gb a it r (Dz a it n m) fun x hx=>h x (List.mem_cons_of_mem _ hx)
  have h2:=UN a it n m (h m List.mem_cons_self)
  show _≤gU a it (Dz a it n m) r∧gU a it (Dz a it n m) r≤_
  simp only [List.length_cons]
  omega
theorem rP (a it:Int):∀(l:List St) (n:Int),(∀s∈l,XA s)→n - 8796093022208 * l.length≤l.foldl (fun n s=>gU a it n s.mv) n∧l.foldl (fun n s=>gU a it n s.mv) n≤n+8796093022208 * l.length
 | [],n,_=>by simp
 | s::r,n,h=>by
  have h1:=rP a it r (gU a it n s.mv) fun x hx=>h x (List.mem_cons_of_mem _ hx)
  have hs:=h s List.mem_cons_self
  have h2:=Gb a it s.mv n hs.2
  have h3:=hs.1
  simp only [List.length_cons,List.foldl_cons]
  omega
theorem u5 (a it:Int) {l:List St} (h:m8 l):-879609302220800≤aN a it l∧aN a it l≤879609302220800:=by
 have h1:=rP a it l 0 h.2
 have h2:=h.1
 unfold aN
 omega
theorem m8.take {l:List St} (h:m8 l) (i:Nat):m8 (l.take i):=⟨by rw [List.length_take]; have:=h.1; omega,fun s hs=>h.2 s (List.mem_of_mem_take hs)⟩
end Go.Proofs.YtpbdohkbiklflaaGreatDoor
