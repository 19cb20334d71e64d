import Derived.Test.YtpbdohkbiklflaaGreatDoorPM22
import Derived.Test.YtpbdohkbiklflaaGreatDoorPM20
set_option linter.unusedVariables false
set_option linter.unusedSimpArgs false
set_option linter.unusedSectionVars false
namespace Go.Proofs.YtpbdohkbiklflaaGreatDoor
open Go.TM
variable [cP]
set_option maxRecDepth 100000
theorem yC (s:Vs) (h:s.H.length+s.bS.length≤1000000):bj Tryz.prog 25 [.ptr 0 0] 6 (vK false s) 0 [.dv (I ((s.H.length:Int)+(s.bS.length:Int)))] (vK false s):=by
 refine bl aK mixed (aq _) (ar _) Tryz.func25 rfl rfl (by kernel_rfl) ?_
 refine ⟨fun _=>⟨by rw [List.length_map,List.length_map]; omega,by rw [List.length_map,List.length_map]; omega⟩,by kernel_rfl,?_⟩
 exact ⟨_,_,⟨rfl,rfl⟩,by kernel_rfl,⟨aB (by rw [List.length_map,List.length_map]),tv⟩,⟨rf,rf,rf,rf,rf,rf,rfl,rfl,rfl,rfl,rfl,tv⟩,⟨rfl,rfl⟩,⟨rfl,rfl⟩,⟨rfl,rfl⟩,⟨rfl,rfl⟩,⟨rfl,rfl⟩,tv⟩
def M6 (s:Vs) (it n:Int):List Rk:=if it<0 ∨ 4≤it ∨ n≤0 then [] else (s.rk.getD it.toNat (true,[])).2.take n.toNat
theorem Cs {L:List DV} {i:Nat} {f:Bool} {l:List Rk} (h:L[i]?=some (dZ f l)) (hf:f=true→l=[]) (n:Nat) (hn:1≤n) (KF:n≤9223372036854775807) (hl:l.length≤1000) :
  bj Tryz.prog 55 [.own 0 0 0 [.el i 0],.dv (I n)] 1 [(0,.tree 0 0 (.ay 1 L))] 0 [.dv (.sl 2 ((l.take n).map eR))] [(0,.tree 0 0 (.ay 1 L))]:=by
 have hs:bO (.ay 1 L) [.el i 0] (dZ f l)=.ay 1 L:=by
  rw [ua h rfl rfl]
  congr 1
  obtain ⟨aJ,he⟩:=List.getElem?_eq_some_iff.1 h
  rw [←he]; exact List.set_getElem_self aJ
 cases l with
 | nil =>
  have:=ta (p:=[.el i 0]) (D:=.ay 1 L) (Cp f n) hs (wi h rfl) (by simp) rfl rfl rfl rfl
  simpa using this
 | cons r l' =>
  cases f with
  | true=>have:=hf rfl; cases this
  | false=>exact ta (p:=[.el i 0]) (D:=.ay 1 L) (Cq n hn KF r l' hl) hs (wi h rfl) (by simp) rfl rfl rfl rfl
theorem KP (s:Vs) (hl:s.rk.length=4) (hr:∀x,x∈s.rk→x.2.length≤1000∧(x.1=true→x.2=[])) (it n:Int) (hn:n≤9223372036854775807) :
  bj Tryz.prog 29 [.ptr 0 0,.dv (I it),.dv (I n)] 6 (vK false s) 0 [.dv (.sl 2 ((M6 s it n).map eR))] (vK false s):=by
 refine bl aK mixed (aq _) (ar _) Tryz.func29 rfl rfl (by kernel_rfl) ?_
 repeat first | refine ⟨id,?_⟩ | refine ⟨fun _ h=>cx h,?_⟩ | refine ⟨fun _ h=>ax h,?_⟩ | refine ⟨fun h=>⟨h,fun h2=>aP h h2⟩,?_⟩ | refine ⟨fun h=>⟨h,fun h2=>aC h h2⟩,?_⟩
 have e:(bif bif decide (it<0) then true else decide (4≤it) then true else decide (n≤0))=decide (it<0 ∨ 4≤it ∨ n≤0):=by by_cases h1:it<0 <;> by_cases h2:4≤it <;> simp [h1,h2]
 refine ⟨fun h=>?_,fun h=>?_⟩
 ·have h:=of_decide_eq_true (e.symm.trans h)
  rw [show M6 s it n=[] from if_pos h]
  exact ⟨_,_,⟨rfl,rfl⟩,by kernel_rfl,⟨qN _,tv⟩,⟨rf,rf,rf,rf,rf,rf,rfl,rfl,rfl,rfl,rfl,tv⟩,⟨rfl,rfl⟩,⟨rfl,rfl⟩,⟨rfl,rfl⟩,⟨rfl,rfl⟩,⟨rfl,rfl⟩,tv⟩
 ·have h:=of_decide_eq_false (e.symm.trans h)
  obtain ⟨i,rfl⟩:=Int.eq_ofNat_of_zero_le (show 0≤it by omega)
  obtain ⟨m,rfl⟩:=Int.eq_ofNat_of_zero_le (show 0≤n by omega)
  have hi:i<s.rk.length:=by omega
  have Qm:s.rk[i]?=some (s.rk.getD i (true,[])):=by rw [List.getD_eq_getElem?_getD,List.getElem?_eq_getElem hi]; rfl
  rw [show M6 s (i:Int) (m:Int)=(s.rk.getD i (true,[])).2.take m from if_neg h]
  obtain ⟨q1,q2⟩:=hr _ (List.mem_of_getElem? Qm)
  generalize s.rk.getD i (true,[])=q0 at *
  obtain ⟨f0,l0⟩:=q0
  have OB:(s.rk.map GD)[i]?=some (dZ f0 l0):=by rw [List.getElem?_map,Qm]; rfl
  have tL:=Cs OB q2 m (by omega) (by omega) q1
  refine ⟨fun _=>⟨by omega,by rw [List.length_map]; omega⟩,dZ f0 l0,fun _=>OB,?_⟩
  refine .inr ⟨[3],[.own 0 0 0 [.el i 0],.dv (I m)],[(0,.tree 0 0 (.ay 1 (s.rk.map GD)))],0,_,_,tL,by kernel_rfl,by kernel_rfl,⟨rfl,rf,tv⟩,⟨⟨rfl,rfl⟩,tv⟩,?_⟩
  exact ⟨_,_,⟨rfl,rfl⟩,by kernel_rfl,⟨rf,tv⟩,⟨rf,rf,rf,rf,rf,rf,rfl,rfl,rfl,rfl,rfl,tv⟩,⟨rfl,rfl⟩,⟨rfl,rfl⟩,⟨rfl,rfl⟩,⟨rfl,rfl⟩,⟨rfl,rfl⟩,tv⟩
end Go.Proofs.YtpbdohkbiklflaaGreatDoor
namespace Go.Proofs.YtpbdohkbiklflaaGreatDoor
open Go.TM
def qP (n:Int):Bool:=decide (0≤n) && decide (n≤1073741824)
abbrev IM:=List (Int × Int)
def OH (p:Int × Int):DV:=.fe (I p.1) (I p.2)
def px:IM→Int→Option Int
 | [],_=>none
 | p::r,k=>if p.1=k then some p.2 else px r k
def EP:IM→Int→Int→IM
 | [],k,x=>[(k,x)]
 | p::r,k,x=>if p.1=k then (k,x)::r else p::EP r k x
def iv (m:IM) (k:Int):Int:=(px m k).getD 0
theorem GG (a b:Int):tK (I a) (I b)=decide (a=b):=by
 simp only [tK,Bf]
 try rw [Bool.eq_iff_iff]; simp
theorem KQ (k:Int):∀m:IM,bJ (m.map OH) (I k)=(px m k).map I
 | []=>rfl
 | p::r=>by
  simp only [List.map_cons,OH,bJ,GG,px]
  by_cases h:p.1=k
  ·simp [h]
  ·simp only [h,decide_false,cond_false,if_false]
   exact KQ k r
theorem KR (k x:Int):∀m:IM,ez (m.map OH) (I k) (I x)=(EP m k x).map OH
 | []=>rfl
 | p::r=>by
  simp only [List.map_cons,OH,ez,GG,EP]
  by_cases h:p.1=k
  ·simp [h,OH]
  ·simp only [h,decide_false,cond_false,if_false,List.map_cons]
   have:=KR k x r
   rw [this]
   rfl
theorem M7 (m:IM) (k x j:Int):iv (EP m k x) j=if k=j then x else iv m j:=by
 unfold iv
 induction m with
 | nil=>simp only [EP,px]; split <;> rfl
 | cons p r ih =>
  simp only [EP]
  by_cases h:p.1=k
  ·simp only [h,if_true,px]
   by_cases h2:k=j
   ·simp [h2]
   ·simp [h2]
  ·simp only [h,if_false,px]
   by_cases h2:p.1=j
   ·have:k ≠ j:=fun h3=>h (h2.trans h3.symm)
    simp [h2,this]
   ·simp only [h2,if_false]
    exact ih
variable [cP]
set_option maxRecDepth 100000
theorem wj (n:Int):cL Tryz.prog 114 [I n] [B (qP n)]:=by
 refine bE aK mixed (aq _) (ar _) Tryz.func114 rfl (by kernel_rfl) rfl ?_
 repeat first | refine ⟨id,?_⟩ | refine ⟨fun _ h=>cx h,?_⟩ | refine ⟨fun _ h=>ax h,?_⟩ | refine ⟨fun h=>⟨h,fun h2=>aP h h2⟩,?_⟩ | refine ⟨fun h=>⟨h,fun h2=>aC h h2⟩,?_⟩
 refine ⟨DV.Le.of_eq ?_,tv⟩
 unfold qP
 cases decide (0≤n) <;> rfl
theorem ER:rP Tryz.prog (nth tab 167).key Ho:=BO aK (by kernel_rfl)
abbrev SS:=List (Nat × Sl)
def bC (S:SS) (i:Nat):List Sl:=(S.filter (fun p=>p.1 == i)).map (·.2)
structure n8 (s:Vs) (S:SS):Prop where
 bS:s.bS=S.map fun p=>(p.1:Int)
 KT:s.sl.length=4
 it:∀p∈S,p.1<4
 sl:∀(i:Nat) (f:Bool) (l:List Sl),s.sl[i]?=some (f,l)→l=bC S i
 sf:∀(i:Nat) (f:Bool) (l:List Sl),s.sl[i]?=some (f,l)→f=true→l=[]
 len:S.length≤1000
 tk:∀p∈S,0≤p.2.tick∧p.2.tick≤1099511627776
def dx (S:SS) (lim:Int):Nat:=(S.takeWhile fun p=>decide (p.2.tick≤lim)).length
theorem GH {α:Type} (q:α→Bool):∀(S:List α) (j:Nat) (x:α),S[j]?=some x→q x=true→(S.filter q)[(S.take j).countP q]?=some x
 | [],j,x,h,_=>by simp at h
 | y::r,0,x,h,hq=>by
  simp only [List.getElem?_cons_zero,Option.some.injEq] at h
  subst h
  simp [hq]
 | y::r,j+1,x,h,hq=>by
  simp only [List.getElem?_cons_succ] at h
  have ih:=GH q r j x h hq
  by_cases hy:q y=true
  ·simp only [List.filter_cons_of_pos hy,List.take_succ_cons,List.countP_cons_of_pos hy,List.getElem?_cons_succ]
   exact ih
  ·simp only [List.filter_cons_of_neg hy,List.take_succ_cons,List.countP_cons_of_neg hy]
   exact ih
theorem yD {α:Type} {S:List α} {j:Nat} {x:α} (h:S[j]?=some x):S.take (j+1)=S.take j++[x]:=by
 rw [List.take_add_one,h]; rfl
theorem KU {S:SS} {lim:Int} {j:Nat} (h1:∀p∈S.take j,p.2.tick≤lim) (h2:∀x,S[j]?=some x→¬ x.2.tick≤lim) (hj:j≤S.length):dx S lim=j:=by
 induction S generalizing j with
 | nil=>simp at hj; subst hj; rfl
 | cons y r ih =>
  unfold dx
  cases j with
  | zero =>
   have:=h2 y rfl
   rw [List.takeWhile_cons_of_neg (by simpa using this)]; rfl
  | succ j =>
   have hy:y.2.tick≤lim:=h1 y (by simp)
   rw [List.takeWhile_cons_of_pos (by simpa using hy),List.length_cons]
   have:=ih (j:=j) (fun p hp=>h1 p (by rw [List.take_succ_cons]; exact List.mem_cons_of_mem _ hp)) (fun x hx=>h2 x (by simpa using hx)) (by simpa using hj)
   unfold dx at this
   rw [this]
structure WT where
 m:IM
 j:Nat
def SG (s:Vs) (tick:Int) (x:WT):bo:=⟨7,[(0,.ptr 0 0),(1,.dv (I tick)),(5,.own 6 0 0 []),(6,.dv (I x.j)),(13,.own 5 0 0 []),(14,.dv (I s.bS.length)),(15,.dv (I x.j))],vK false s++[(6,.tree 0 0 (.omap Ho (x.m.map OH)))]⟩
set_option maxHeartbeats 4000000 in
theorem At (s:Vs) (S:SS) (h:n8 s S) (tick:Int) (hb:-4611686018427387904≤tick - s.ab∧tick - s.ab≤4611686018427387904):bj Tryz.prog 52 [.ptr 0 0,.dv (I tick)] 6 (vK false s) 0 [.dv (I (dx S (tick - s.ab)))] (vK false s):=by
 refine bl aK mixed (aq _) (ar _) Tryz.func52 rfl rfl (by kernel_rfl) ?_
 refine ⟨Ho,WT,SG s tick,fun x=>x.j≤S.length∧(∀k:Nat,iv x.m k=((S.take x.j).countP fun p=>p.1 == k:Nat))∧∀p∈S.take x.j,p.2.tick≤tick - s.ab,fun x=>S.length - x.j,⟨[],0⟩,fun _=>rfl,⟨⟨rfl,rf,rfl,rf,rfl,aB (by rw [List.length_map]),rf,tv⟩,⟨⟨rf,rf,rf,rf,rf,rf,rfl,rfl,rfl,rfl,rfl,tv⟩,⟨rfl,rfl⟩,⟨rfl,rfl⟩,⟨rfl,rfl⟩,⟨rfl,rfl⟩,⟨rfl,rfl⟩,⟨rfl,rfl⟩,tv⟩,rfl,rfl⟩,⟨Nat.zero_le _,fun _=>by simp [iv,px],by simp⟩,?_⟩
 rintro ⟨m,j⟩ ⟨p1,p2,p3⟩
 simp only at p1 p2 p3
 have iJ:s.bS.length=S.length:=by rw [h.bS,List.length_map]
 refine ⟨fun aJ=>?_,fun dw=>?_⟩
 ·have aJ:j<S.length:=by have:=of_decide_eq_true aJ; simp only [Int.ofNat_lt] at this; omega
  obtain ⟨⟨it,x⟩,hx⟩:∃q,S[j]?=some q:=⟨_,List.getElem?_eq_getElem aJ⟩
  have ou:(List.map I s.bS)[((j:Int)).toNat]?=some (I (it:Int)):=by rw [h.bS,List.map_map,List.getElem?_map,Int.toNat_natCast,hx]; rfl
  have h4:it<4:=h.it _ (List.mem_of_getElem? hx)
  have HY:=h.tk _ (List.mem_of_getElem? hx)
  simp only at HY
  have Yx:=GH (fun p=>p.1 == it) S j _ hx (by simp)
  obtain ⟨⟨f,l⟩,hl⟩:∃q,s.sl[it]?=some q:=⟨_,List.getElem?_eq_getElem (by rw [h.KT]; exact h4)⟩
  have Qq:=h.sl _ _ _ hl
  have hle:l[(S.take j).countP fun p=>p.1 == it]?=some x:=by rw [Qq,bC,List.getElem?_map,Yx]; rfl
  obtain rfl:f=false:=by
   cases f with
   | false=>rfl
   | true=>rw [h.sf _ _ _ hl rfl] at hle; cases hle
  have gD:(s.sl.map mE)[((it:Int)).toNat]?=some (.ay 5 (l.map bU)):=by rw [List.getElem?_map,Int.toNat_natCast,hl]; rfl
  have hc:=p2 it
  generalize OI:(S.take j).countP (fun p=>p.1 == it)=c at *
  have jY:c<l.length:=(List.getElem?_eq_some_iff.1 hle).1
  have Yy:l.length≤S.length:=by rw [Qq,bC,List.length_map]; exact List.length_filter_le ..
  have hlen:=h.len
  refine ⟨fun _=>⟨by simp only; omega,by rw [List.length_map]; simp only; omega⟩,I (it:Int),fun _=>ou,?_⟩
  refine ⟨fun _=>⟨by omega,by rw [List.length_map,h.KT]; omega⟩,.ay 5 (l.map bU),fun _=>gD,?_⟩
  have hg:bJ (m.map OH) (I (it:Int))=bif (px m it).isSome then some (I (iv m it)) else none:=by
   rw [KQ]; unfold iv; cases px m it <;> rfl
  have hz:(px m it).isSome=false→I (iv m it)=I 0:=by
   intro h9; unfold iv; cases hq:px m it with
   | none=>rfl
   | some y=>rw [hq] at h9; cases h9
  refine ⟨ER,I (it:Int),rfl,rfl,I (iv m it),(px m it).isSome,fun _=>hg,hz,rfl,?_⟩
  have mz:iv m (it:Int)=(c:Int):=hc
  have Py:(l.map bU)[((iv m (it:Int))).toNat]?=some (bU x):=by rw [mz,List.getElem?_map,Int.toNat_natCast,hle]; rfl
  refine ⟨.ay 5 (l.map bU),fun _=>gD,?_⟩
  refine ⟨fun _=>⟨by rw [mz]; omega,by rw [List.length_map,mz]; omega⟩,?_⟩
  refine ⟨.ay 5 (l.map bU),fun _=>gD,?_⟩
  refine ⟨bU x,fun _=>Py,?_⟩
  refine ⟨fun _=>⟨by omega,by omega⟩,?_⟩
  refine ⟨by kernel_rfl,fun qa=>?_,fun hle=>?_⟩
  ·have qa:tick - s.ab<x.tick:=of_decide_eq_true qa
   have hN:dx S (tick - s.ab)=j:=KU p3 (fun y hy=>by rw [hx] at hy; injection hy with hy; subst hy; simp only; omega) p1
   rw [hN]
   exact ⟨_,_,⟨rfl,rfl⟩,by kernel_rfl,⟨rf,tv⟩,⟨rf,rf,rf,rf,rf,rf,rfl,rfl,rfl,rfl,rfl,tv⟩,⟨rfl,rfl⟩,⟨rfl,rfl⟩,⟨rfl,rfl⟩,⟨rfl,rfl⟩,⟨rfl,rfl⟩,tv⟩
  ·have Me:x.tick≤tick - s.ab:=by have:=of_decide_eq_false hle; omega
   refine ⟨ER,I (it:Int),rfl,rfl,I (iv m it),(px m it).isSome,fun _=>hg,hz,rfl,?_⟩
   refine ⟨fun _=>⟨by rw [mz]; omega,by rw [mz]; omega⟩,?_⟩
   refine ⟨ER,I (it:Int),rfl,rfl,I (iv m it+1),⟨rf,tv⟩,rfl,false,fun _=>⟨?_,?_⟩,?_⟩
   ·intro z Ba d hd
    rw [hg] at Ba
    cases hk:(px m (it:Int)).isSome with
    | false=>rw [hk] at Ba; cases Ba
    | true=>rw [hk] at Ba; injection Ba with Ba; subst Ba; simp [DV.cells] at hd; subst hd; rfl
   ·intro d hd
    simp [DV.cells] at hd; subst hd; rfl
   ·refine ⟨fun _=>⟨by simp only; omega,by simp only; omega⟩,fun _=>⟨by simp only; omega,by simp only; omega⟩,⟨EP m it (iv m it+1),j+1⟩,⟨⟨rfl,rf,rfl,aB (by simp),rfl,rf,aB (by simp),tv⟩,⟨⟨rf,rf,rf,rf,rf,rf,rfl,rfl,rfl,rfl,rfl,tv⟩,⟨rfl,rfl⟩,⟨rfl,rfl⟩,⟨rfl,rfl⟩,⟨rfl,rfl⟩,⟨rfl,rfl⟩,⟨rfl,by rw [KR]⟩,tv⟩,rfl,rfl⟩,⟨by simp only; omega,fun k=>?_,fun p hp=>?_⟩,by simp only; omega⟩
    ·simp only
     rw [M7,yD hx,List.countP_append]
     by_cases hk:(it:Int)=(k:Int)
     ·rw [if_pos hk]
      have ey:it=k:=by omega
      subst ey
      have:=p2 it
      rw [this]
      simp
     ·rw [if_neg hk,p2 k]
      have ey:it ≠ k:=fun h=>hk (by rw [h])
      simp [ey]
    ·simp only [yD hx] at hp
     rcases List.mem_append.1 hp with h1 | h1
     ·exact p3 p h1
     ·simp only [List.mem_singleton] at h1; subst h1; exact Me
 ·have hj:j=S.length:=by have:=of_decide_eq_false dw; simp only at this; omega
  have hN:dx S (tick - s.ab)=j:=KU p3 (fun y hy=>by rw [hj,List.getElem?_eq_none (Nat.le_refl _)] at hy; cases hy) p1
  rw [hN]
  exact ⟨_,_,⟨rfl,rfl⟩,by kernel_rfl,⟨rf,tv⟩,⟨rf,rf,rf,rf,rf,rf,rfl,rfl,rfl,rfl,rfl,tv⟩,⟨rfl,rfl⟩,⟨rfl,rfl⟩,⟨rfl,rfl⟩,⟨rfl,rfl⟩,⟨rfl,rfl⟩,tv⟩
end Go.Proofs.YtpbdohkbiklflaaGreatDoor
namespace Go.Proofs.YtpbdohkbiklflaaGreatDoor
open Go.TM
variable [cP]
set_option maxRecDepth 100000
structure Mv where
 f:Int
 t:Int
 it:Int
 n:Int
def cD (m:Mv):DV:=.agg [I m.f,I m.t,I m.it,I m.n,.aG]
structure St where
 id:Int
 kind:Int
 GI:Int
 tick:Int
 M8:Int
 times:Int
 mv:List Mv
def Au (l:List Mv):DV:=.sl 5 (l.map cD)
def fW (s:St):DV:=.agg [I s.id,I s.kind,I s.GI,I s.tick,I s.M8,I s.times,Au s.mv]
def ES (s:St):AV:=.agg [.dv (I s.id),.dv (I s.kind),.dv (I s.GI),.dv (I s.tick),.dv (I s.M8),.dv (I s.times),.dv (Au s.mv)]
def kU (coin:Int) (a b:Mv):Int × Int × Int × Bool :=
 (a.it,a.n,b.n,bif bif bif bif bif !(decide (a.it=coin)) then decide (b.it=coin) else false then decide (a.f=b.t) else false then decide (a.t=b.f) else false then !(decide (a.f=0)) else false then !(decide (a.t=0)) else false)
def aZ (coin:Int) (s:St):Int × Int × Int × Bool :=
 if s.kind ≠ 2 then (0,0,0,false) else
 match s.mv with
 | [a,b]=>if a.it=coin then kU coin b a else kU coin a b
 | _=>(0,0,0,false)
set_option maxHeartbeats 4000000 in
theorem Ct (s:Vs) (st:St):bj Tryz.prog 51 [.ptr 0 0,ES st] 6 (vK false s) 0 [.dv (I (aZ s.coin st).1),.dv (I (aZ s.coin st).2.1),.dv (I (aZ s.coin st).2.2.1),.dv (B (aZ s.coin st).2.2.2)] (vK false s):=by
 refine bl aK mixed (aq _) (ar _) Tryz.func51 rfl rfl (by kernel_rfl) ?_
 repeat first | refine ⟨id,?_⟩ | refine ⟨fun _ h=>cx h,?_⟩ | refine ⟨fun _ h=>ax h,?_⟩ | refine ⟨fun h=>⟨h,fun h2=>aP h h2⟩,?_⟩ | refine ⟨fun h=>⟨h,fun h2=>aC h h2⟩,?_⟩
 refine ⟨fun hc=>?_,fun hc=>?_⟩
 ·have GJ:aZ s.coin st=(0,0,0,false):=by
   unfold aZ
   by_cases hk:st.kind=2
   ·rw [if_neg (by simpa using hk)]
    have h2:¬ st.mv.length=2:=by
     intro h2; rw [List.length_map,h2,hk] at hc; simp at hc
    match hm:st.mv with
    | []=>rfl
    | [_]=>rfl
    | [_,_]=>rw [hm] at h2; exact absurd rfl h2
    | _::_::_::_=>rfl
   ·rw [if_pos hk]
  rw [GJ]
  exact ⟨_,_,⟨rfl,rfl⟩,by kernel_rfl,⟨rf,rf,rf,rf,tv⟩,⟨rf,rf,rf,rf,rf,rf,rfl,rfl,rfl,rfl,rfl,tv⟩,⟨rfl,rfl⟩,⟨rfl,rfl⟩,⟨rfl,rfl⟩,⟨rfl,rfl⟩,⟨rfl,rfl⟩,tv⟩
 have hk:st.kind=2:=by
  by_cases hk:st.kind=2
  ·exact hk
  ·exfalso; have:(st.kind != 2)=true:=by simpa using hk
   rw [this] at hc; cases hc
 have hl:st.mv.length=2:=by
  rw [hk,List.length_map] at hc
  have:((st.mv.length:Int) != 2)=false:=hc
  simp at this; omega
 obtain ⟨a,b,hm⟩:∃a b,st.mv=[a,b]:=by
  match hm:st.mv with
  | [a,b]=>exact ⟨a,b,rfl⟩
  | []=>rw [hm] at hl; cases hl
  | [_]=>rw [hm] at hl; cases hl
  | _::_::_::_=>rw [hm] at hl; simp at hl
 have e0:(st.mv.map cD)[0]?=some (cD a):=by rw [hm]; rfl
 have e1:(st.mv.map cD)[1]?=some (cD b):=by rw [hm]; rfl
 refine ⟨cD a,fun _=>⟨by omega,e0⟩,?_⟩
 refine ⟨cD b,fun _=>⟨by omega,e1⟩,?_⟩
 have GJ:aZ s.coin st=if a.it=s.coin then kU s.coin b a else kU s.coin a b:=by
  unfold aZ; rw [if_neg (by simpa using hk),hm]
 refine ⟨by kernel_rfl,by kernel_rfl,fun hq=>?_,fun hq=>?_⟩
 ·have hq:a.it=s.coin:=of_decide_eq_true hq
  rw [GJ,if_pos hq]
  repeat first | refine ⟨id,?_⟩ | refine ⟨fun _ h=>cx h,?_⟩ | refine ⟨fun _ h=>ax h,?_⟩ | refine ⟨fun h=>⟨h,fun h2=>aP h h2⟩,?_⟩ | refine ⟨fun h=>⟨h,fun h2=>aC h h2⟩,?_⟩
  exact ⟨by kernel_rfl,by kernel_rfl,_,_,⟨rfl,rfl⟩,by kernel_rfl,⟨rf,rf,rf,rf,tv⟩,⟨rf,rf,rf,rf,rf,rf,rfl,rfl,rfl,rfl,rfl,tv⟩,⟨rfl,rfl⟩,⟨rfl,rfl⟩,⟨rfl,rfl⟩,⟨rfl,rfl⟩,⟨rfl,rfl⟩,tv⟩
 ·have hq:a.it ≠ s.coin:=of_decide_eq_false hq
  rw [GJ,if_neg hq]
  repeat first | refine ⟨id,?_⟩ | refine ⟨fun _ h=>cx h,?_⟩ | refine ⟨fun _ h=>ax h,?_⟩ | refine ⟨fun h=>⟨h,fun h2=>aP h h2⟩,?_⟩ | refine ⟨fun h=>⟨h,fun h2=>aC h h2⟩,?_⟩
  exact ⟨by kernel_rfl,by kernel_rfl,_,_,⟨rfl,rfl⟩,by kernel_rfl,⟨rf,rf,rf,rf,tv⟩,⟨rf,rf,rf,rf,rf,rf,rfl,rfl,rfl,rfl,rfl,tv⟩,⟨rfl,rfl⟩,⟨rfl,rfl⟩,⟨rfl,rfl⟩,⟨rfl,rfl⟩,⟨rfl,rfl⟩,tv⟩
end Go.Proofs.YtpbdohkbiklflaaGreatDoor
namespace Go.Proofs.YtpbdohkbiklflaaGreatDoor
open Go.TM
variable [cP]
set_option maxRecDepth 100000
def Yz (f h g:Bool) (s:Vs):List AV:=[.dv (I 4),.dv (I s.coin),.dv (I s.ab),.dv (I s.aD),.dv (I s.last),.dv (I s.work),.own 1 0 0 [],.own 2 0 0 [],.own 3 0 (bif f then 1 else 0) [],.own 4 0 (bif h then 1 else 0) [],.own 5 (bif g then 1 else 0) 0 []]
def xb (f h g:Bool) (s:Vs):ah:=[(0,.cells (Yz f h g s)),(1,.tree 0 0 (.omap ei (s.H.map qO))),(2,.tree 0 0 (vK.iM s.dp)),(3,.tree 0 (bif f then 1 else 0) (.ay 1 (s.rk.map GD))),(4,.tree 0 (bif h then 1 else 0) (.ay 1 (s.sl.map mE))),(5,.tree (bif g then 1 else 0) 0 (vK.iM s.bS))]
def iZ (l:List Sl):Int:=(l.getD (l.length - 1) ⟨0,0,0,0,0⟩).bN
def ja (l:List Sl):Int:=(l.getD (l.length - 1) ⟨0,0,0,0,0⟩).cz
def qQ (s:Vs) (it:Nat) (l:List Sl) (tick n c:Int):Vs :=
 {s with work:=s.work+1,bS:=s.bS++[(it:Int)],sl:=s.sl.set it (false,l++[⟨tick,n,c,n+iZ l,c+ja l⟩]) }
theorem Qr:(nth tab (nth tab 88).elem).bytes=40:=rfl
theorem Qs:(nth tab (nth tab 30).elem).bytes=8:=rfl
set_option maxHeartbeats 4000000 in
theorem wm (s:Vs) (it:Nat) (hl:s.sl[it]?=some (true,[])) (tick n c:Int) (hw:0≤s.work∧s.work≤4611686018427387904) (hb:s.bS.length≤1000) :
  bj Tryz.prog 54 [.ptr 0 0,.dv (I it),.agg [.dv (I tick),.dv (I n),.dv (I c),.dv (I 0),.dv (I 0)]] 6 (vK false s) 0 [] (xb false true true (qQ s it [] tick n c)):=by
 refine bl aK mixed (aq _) (ar _) Tryz.func54 rfl rfl (by kernel_rfl) ?_
 have aJ:it<s.sl.length:=(List.getElem?_eq_some_iff.1 hl).1
 have gD:(s.sl.map mE)[((it:Int)).toNat]?=some .aG:=by rw [List.getElem?_map,Int.toNat_natCast,hl]; rfl
 have eo:(0:Int)≤(it:Int)∧(it:Int)<((s.sl.map mE).length:Int):=⟨by omega,by rw [List.length_map]; omega⟩
 refine ⟨fun _=>eo,.aG,fun _=>gD,?_⟩
 repeat first | refine ⟨id,?_⟩ | refine ⟨fun _ h=>cx h,?_⟩ | refine ⟨fun _ h=>ax h,?_⟩ | refine ⟨fun h=>⟨h,fun h2=>aP h h2⟩,?_⟩ | refine ⟨fun h=>⟨h,fun h2=>aC h h2⟩,?_⟩
 refine ⟨fun h=>by simp at h,fun _=>?_⟩
 refine ⟨fun _=>eo,.aG,fun _=>gD,?_⟩
 refine .inl ⟨[bU ⟨tick,n,c,n,c⟩],rfl,⟨rf,rf,rf,rf,rf,tv⟩,(by simp; rfl),?_⟩
 refine .inr ⟨[bU ⟨tick,n,c,n,c⟩],eO.refl _,(by rw [Qr]; simp),(by simp),?_⟩
 refine ⟨fun _=>eo,?_⟩
 refine ⟨[.ay 5 [bU ⟨tick,n,c,n,c⟩]],⟨rfl,tv⟩,.aG,gD,?_⟩
 refine ⟨by kernel_rfl,.inl ⟨[I (it:Int)],rfl,⟨rf,tv⟩,(by simp; rfl),.inr ⟨[I (it:Int)],eO.refl _,(by rw [Qs]; simp; omega),(by simp; omega),?_⟩⟩⟩
 refine ⟨fun _=>⟨by omega,by omega⟩,?_⟩
 have b4:DV.ay 1 ((s.sl.map mE).set it (.ay 5 [bU ⟨tick,n,c,n,c⟩]))=.ay 1 ((s.sl.set it (false,[]++[⟨tick,n,c,n+iZ [],c+ja []⟩])).map mE):=by
  rw [List.map_set]; simp [iZ,ja,mE,T3]
 have b5:DV.ay 1 (s.bS.map I++[I (it:Int)])=vK.iM (s.bS++[(it:Int)]):=by simp [vK.iM]
 exact ⟨_,_,⟨rfl,rfl⟩,by kernel_rfl,tv,⟨rf,rf,rf,rf,rf,rf,rfl,rfl,rfl,rfl,rfl,tv⟩,⟨rfl,rfl⟩,⟨rfl,rfl⟩,⟨rfl,rfl⟩,⟨rfl,b4⟩,⟨rfl,b5⟩,tv⟩
set_option maxHeartbeats 4000000 in
theorem wo (s:Vs) (it:Nat) (l:List Sl) (hl:s.sl[it]?=some (false,l)) (tick n c:Int) (hw:0≤s.work∧s.work≤4611686018427387904) (hb:s.bS.length≤1000) (Qq:l.length≤1000) (hu:0≤iZ l∧iZ l≤1152921504606846976) (hc:0≤ja l∧ja l≤1152921504606846976) (WJ:0≤n∧n≤1152921504606846976) (gU:0≤c∧c≤1152921504606846976) :
  bj Tryz.prog 54 [.ptr 0 0,.dv (I it),.agg [.dv (I tick),.dv (I n),.dv (I c),.dv (I 0),.dv (I 0)]] 6 (vK false s) 0 [] (xb false true true (qQ s it l tick n c)):=by
 refine bl aK mixed (aq _) (ar _) Tryz.func54 rfl rfl (by kernel_rfl) ?_
 have aJ:it<s.sl.length:=(List.getElem?_eq_some_iff.1 hl).1
 have gD:(s.sl.map mE)[((it:Int)).toNat]?=some (.ay 5 (l.map bU)):=by rw [List.getElem?_map,Int.toNat_natCast,hl]; rfl
 have eo:(0:Int)≤(it:Int)∧(it:Int)<((s.sl.map mE).length:Int):=⟨by omega,by rw [List.length_map]; omega⟩
 have b5:DV.ay 1 (s.bS.map I++[I (it:Int)])=vK.iM (s.bS++[(it:Int)]):=by simp [vK.iM]
 refine ⟨fun _=>eo,.ay 5 (l.map bU),fun _=>gD,?_⟩
 refine ⟨.ay 5 (l.map bU),fun _=>gD,?_⟩
 repeat first | refine ⟨id,?_⟩ | refine ⟨fun _ h=>cx h,?_⟩ | refine ⟨fun _ h=>ax h,?_⟩ | refine ⟨fun h=>⟨h,fun h2=>aP h h2⟩,?_⟩ | refine ⟨fun h=>⟨h,fun h2=>aC h h2⟩,?_⟩
 refine ⟨fun hp=>?_,fun hp=>?_⟩
 ·have hp:0<l.length:=by have:=of_decide_eq_true hp; rw [List.length_map] at this; omega
  obtain ⟨z,hz⟩:∃z,l[l.length - 1]?=some z:=⟨_,List.getElem?_eq_getElem (by omega)⟩
  have fb:iZ l=z.bN:=by unfold iZ; rw [List.getD_eq_getElem?_getD,hz]; rfl
  have oC:ja l=z.cz:=by unfold ja; rw [List.getD_eq_getElem?_getD,hz]; rfl
  rw [fb] at hu
  rw [oC] at hc
  have YA:(l.map bU)[(((l.map bU).length:Int) - 1).toNat]?=some (bU z):=by rw [List.length_map,show ((l.length:Int) - 1).toNat=l.length - 1 by omega,List.getElem?_map,hz]; rfl
  have WU:(l.map bU).length=l.length:=List.length_map ..
  repeat first | refine ⟨.ay 5 (l.map bU),fun _=>gD,?_⟩ | refine ⟨bU z,fun _=>YA,?_⟩ | refine ⟨by kernel_rfl,?_⟩ | refine ⟨fun _=>⟨by omega,by omega⟩,?_⟩
  refine .inl ⟨[bU ⟨tick,n,c,n+z.bN,c+z.cz⟩],rfl,⟨rf,rf,rf,rf,rf,tv⟩,(by simp; rfl),.inr ⟨.ay 5 (l.map bU),fun _=>gD,?_⟩⟩
  refine ⟨[bU ⟨tick,n,c,n+z.bN,c+z.cz⟩],eO.refl _,(by rw [Qr]; simp; omega),(by simp; omega),.ay 5 (l.map bU),gD,?_⟩
  refine ⟨fun _=>by rw [List.length_set]; exact eo,[.ay 5 (l.map bU++[bU ⟨tick,n,c,n+z.bN,c+z.cz⟩])],⟨rfl,tv⟩,.any,List.getElem?_set_self (by rw [List.length_map]; omega),?_⟩
  refine ⟨by kernel_rfl,.inl ⟨[I (it:Int)],rfl,⟨rf,tv⟩,(by simp; rfl),.inr ⟨[I (it:Int)],eO.refl _,(by rw [Qs]; simp; omega),(by simp; omega),?_⟩⟩⟩
  refine ⟨fun _=>⟨by omega,by omega⟩,?_⟩
  have b4:DV.ay 1 (((s.sl.map mE).set ((it:Int)).toNat .any).set ((it:Int)).toNat (.ay 5 (l.map bU++[bU ⟨tick,n,c,n+z.bN,c+z.cz⟩])))=.ay 1 ((s.sl.set it (false,l++[⟨tick,n,c,n+iZ l,c+ja l⟩])).map mE):=by
   rw [List.set_set,List.map_set,Int.toNat_natCast]; simp [fb,oC,mE,T3]
  exact ⟨_,_,⟨rfl,rfl⟩,by kernel_rfl,tv,⟨rf,rf,rf,rf,rf,rf,rfl,rfl,rfl,rfl,rfl,tv⟩,⟨rfl,rfl⟩,⟨rfl,rfl⟩,⟨rfl,rfl⟩,⟨rfl,b4⟩,⟨rfl,b5⟩,tv⟩
 ·have hp:l=[]:=by have:=of_decide_eq_false hp; rw [List.length_map] at this; cases l with
   | nil=>rfl
   | cons _ _=>simp only [List.length_cons] at this; omega
  subst hp
  refine ⟨fun _=>eo,.ay 5 [],fun _=>gD,?_⟩
  refine .inl ⟨[bU ⟨tick,n,c,n,c⟩],rfl,⟨rf,rf,rf,rf,rf,tv⟩,(by simp; rfl),.inr ⟨.ay 5 [],fun _=>gD,?_⟩⟩
  refine ⟨[bU ⟨tick,n,c,n,c⟩],eO.refl _,(by rw [Qr]; simp),(by simp),.ay 5 [],gD,?_⟩
  refine ⟨fun _=>by rw [List.length_set]; exact eo,[.ay 5 ([]++[bU ⟨tick,n,c,n,c⟩])],⟨rfl,tv⟩,.any,List.getElem?_set_self (by rw [List.length_map]; omega),?_⟩
  refine ⟨by kernel_rfl,.inl ⟨[I (it:Int)],rfl,⟨rf,tv⟩,(by simp; rfl),.inr ⟨[I (it:Int)],eO.refl _,(by rw [Qs]; simp; omega),(by simp; omega),?_⟩⟩⟩
  refine ⟨fun _=>⟨by omega,by omega⟩,?_⟩
  have b4:DV.ay 1 (((s.sl.map mE).set ((it:Int)).toNat .any).set ((it:Int)).toNat (.ay 5 ([]++[bU ⟨tick,n,c,n,c⟩])))=.ay 1 ((s.sl.set it (false,[]++[⟨tick,n,c,n+iZ [],c+ja []⟩])).map mE):=by
   rw [List.set_set,List.map_set,Int.toNat_natCast]; simp [iZ,ja,mE,T3]
  exact ⟨_,_,⟨rfl,rfl⟩,by kernel_rfl,tv,⟨rf,rf,rf,rf,rf,rf,rfl,rfl,rfl,rfl,rfl,tv⟩,⟨rfl,rfl⟩,⟨rfl,rfl⟩,⟨rfl,rfl⟩,⟨rfl,b4⟩,⟨rfl,b5⟩,tv⟩
end Go.Proofs.YtpbdohkbiklflaaGreatDoor
namespace Go.Proofs.YtpbdohkbiklflaaGreatDoor
open Go.TM
variable [cP]
set_option maxRecDepth 100000
def hold (m h:HM) (k:Ky):Int:=(bp m k).getD (hv h k)
def Qt (s:Vs) (m:HM):ah:=vK false s++[(6,.cells [.ptr 0 0]),(7,.tree 0 0 (.omap ei (m.map qO))),(8,.cells [.own 7 0 0 []])]
theorem Cu (m:HM) (k:Ky):bJ (m.map qO) (xa k)=bif (bp m k).isSome then some (I (hv m k)) else none:=by
 rw [EO]; unfold hv; cases bp m k <;> rfl
theorem GK (m:HM) (k:Ky) (h9:(bp m k).isSome=false):I (hv m k)=I 0:=by
 unfold hv
 cases hq:bp m k with
 | none=>rfl
 | some x=>rw [hq] at h9; cases h9
set_option maxHeartbeats 4000000 in
theorem lR (s:Vs) (m:HM) (k:Ky):bj Tryz.prog 113 [.agg [.dv (I k.1),.dv (I k.2)],.ptr 8 0,.ptr 6 0] 9 (Qt s m) 0 [.dv (I (hold m s.H k))] (Qt s m):=by
 refine bl aK mixed (aq _) (ar _) Tryz.func113 rfl rfl (by kernel_rfl) ?_
 refine ⟨gX,xa k,rfl,rfl,I (hv m k),(bp m k).isSome,fun _=>Cu m k,GK m k,rfl,?_⟩
 refine ⟨fun hs=>?_,fun hn=>?_⟩
 ·have hh:hold m s.H k=hv m k:=by
   unfold hold hv; cases hq:bp m k with
   | none=>rw [hq] at hs; cases hs
   | some x=>rfl
  rw [hh]
  exact ⟨_,_,⟨rfl,rfl⟩,by kernel_rfl,⟨rf,tv⟩,⟨rf,rf,rf,rf,rf,rf,rfl,rfl,rfl,rfl,rfl,tv⟩,⟨rfl,rfl⟩,⟨rfl,rfl⟩,⟨rfl,rfl⟩,⟨rfl,rfl⟩,⟨rfl,rfl⟩,⟨rfl,tv⟩,⟨rfl,rfl⟩,⟨rfl,tv⟩,tv⟩
 ·have hh:hold m s.H k=hv s.H k:=by
   unfold hold; cases hq:bp m k with
   | none=>rfl
   | some x=>rw [hq] at hn; cases hn
  rw [hh]
  refine ⟨gX,xa k,rfl,rfl,I (hv s.H k),(bp s.H k).isSome,fun _=>Cu s.H k,GK s.H k,rfl,?_⟩
  exact ⟨by kernel_rfl,_,_,⟨rfl,rfl⟩,by kernel_rfl,⟨rf,tv⟩,⟨rf,rf,rf,rf,rf,rf,rfl,rfl,rfl,rfl,rfl,tv⟩,⟨rfl,rfl⟩,⟨rfl,rfl⟩,⟨rfl,rfl⟩,⟨rfl,rfl⟩,⟨rfl,rfl⟩,⟨rfl,tv⟩,⟨rfl,rfl⟩,⟨rfl,tv⟩,tv⟩
def iO (v:Mv):Bool:=bif bif bif bif bif bif decide (v.it<0) then true else decide (4≤v.it) then true else decide (v.n<1) then true else decide (1099511627776<v.n) then true else !qP v.f then true else !qP v.t then true else decide (v.f=v.t)
theorem qR {v:Mv} (h:iO v=false):0≤v.it∧v.it<4∧1≤v.n∧v.n≤1099511627776∧qP v.f=true∧qP v.t=true∧v.f ≠ v.t:=by
 unfold iO at h
 simp only [Bool.cond_true_left,Bool.or_eq_false_iff,decide_eq_false_iff_not,Bool.not_eq_false'] at h
 obtain ⟨⟨⟨⟨⟨⟨h1,h2⟩,h3⟩,h4⟩,h5⟩,h6⟩,h7⟩:=h
 exact ⟨by omega,by omega,by omega,by omega,h5,h6,h7⟩
inductive SH where
 | err (e:Int)
 | ok (m:HM)
def kB (H:HM):HM→List Mv→SH
 | m,[]=>.ok m
 | m,v::r =>
  if iO v=true then .err 1 else
  if v.f ≠ 0 then
   if hold m H (v.f,v.it)<v.n then .err 10 else
   let m1:=bP m (v.f,v.it) (hold m H (v.f,v.it) - v.n)
   kB H (if v.t ≠ 0 then bP m1 (v.t,v.it) (hold m1 H (v.t,v.it)+v.n) else m1) r
  else kB H (if v.t ≠ 0 then bP m (v.t,v.it) (hold m H (v.t,v.it)+v.n) else m) r
def SH.rs:SH→List AV
 | .err e=>[.dv .iB,.dv (I e)]
 | .ok _=>[.own 7 0 0 [],.dv (I 0)]
def SH.K:SH→ah
 | .err _=>[]
 | .ok m=>[(7,.tree 0 0 (.omap ei (m.map qO)))]
theorem yE (m:HM) (k:Ky) (x:Int) (j:Ky):bp (bP m k x) j=if k=j then some x else bp m j:=by
 induction m with
 | nil=>simp only [bP,bp]
 | cons p r ih =>
  simp only [bP]
  by_cases h:p.1=k
  ·simp only [h,if_true,bp]
   by_cases h2:k=j
   ·simp [h2]
   ·simp [h2]
  ·simp only [h,if_false,bp]
   by_cases h2:p.1=j
   ·have:k ≠ j:=fun h3=>h (h2.trans h3.symm)
    simp [h2,this]
   ·simp only [h2,if_false]
    exact ih
theorem kV (m h:HM) (k:Ky) (x:Int) (j:Ky):hold (bP m k x) h j=if k=j then x else hold m h j:=by
 unfold hold; rw [yE]; split <;> rfl
theorem ET (m:HM) (k:Ky) (x:Int):(∀z,bJ (m.map qO) (xa k)=some z→z.bF)∧(I x).bF:=by
 constructor
 ·intro z Ba d hd
  rw [Cu] at Ba
  cases hk:(bp m k).isSome with
  | false=>rw [hk] at Ba; cases Ba
  | true=>rw [hk] at Ba; injection Ba with Ba; subst Ba; simp [DV.cells] at hd; subst hd; rfl
 ·intro d hd
  simp [DV.cells] at hd; subst hd; rfl
theorem Av {m h:HM} {k:Ky} {x B C:Int} (hB:∀k,0≤hold m h k∧hold m h k≤B) (hx:0≤x∧x≤C) (Zx:B≤C) (j:Ky):0≤hold (bP m k x) h j∧hold (bP m k x) h j≤C:=by
 rw [kV]; have:=hB j; split <;> omega
structure WV where
 m:HM
 j:Nat
def SI (s:Vs) (l:List Mv) (x:WV):bo:=⟨9,[(0,.ptr 0 0),(1,.dv (Au l)),(2,.ptr 6 0),(4,.dv .iB),(5,.dv (I 0)),(6,.ptr 8 0),(7,.fn 113 [.ptr 8 0,.ptr 6 0]),(14,.dv (Au l)),(15,.dv (I l.length)),(16,.dv (I x.j))],Qt s x.m⟩
set_option maxHeartbeats 4000000 in
theorem M9 (s:Vs) (l:List Mv) (hl:l.length≤1000) (hH:∀k,0≤hv s.H k∧hv s.H k≤1152921504606846976):bj Tryz.prog 50 [.ptr 0 0,.dv (Au l)] 6 (vK false s) 2 (kB s.H [] l).rs (vK false s++(kB s.H [] l).K):=by
 refine vn aK mixed (aq _) (ar _) Tryz.func50 rfl rfl (by kernel_rfl) ?_
 refine ⟨ei,WV,SI s l,fun x=>x.j≤l.length∧kB s.H [] l=kB s.H x.m (l.drop x.j)∧∀k,0≤hold x.m s.H k∧hold x.m s.H k≤1152921504606846976+x.j * 1099511627776,fun x=>l.length - x.j,⟨[],0⟩,fun _=>rfl,⟨⟨rfl,rf,rfl,rf,rf,rfl,⟨rfl,rfl,rfl,tv⟩,rf,aB (by rw [List.length_map]),rf,tv⟩,⟨⟨rf,rf,rf,rf,rf,rf,rfl,rfl,rfl,rfl,rfl,tv⟩,⟨rfl,rfl⟩,⟨rfl,rfl⟩,⟨rfl,rfl⟩,⟨rfl,rfl⟩,⟨rfl,rfl⟩,⟨rfl,tv⟩,⟨rfl,rfl⟩,⟨rfl,tv⟩,tv⟩,rfl,rfl⟩,⟨Nat.zero_le _,rfl,fun k=>?_⟩,?_⟩
 ·have:=hH k
  show 0≤hv s.H k∧hv s.H k≤_
  simp only; omega
 rintro ⟨m,j⟩ ⟨p1,p2,p3⟩
 simp only at p1 p2 p3
 refine ⟨fun aJ=>?_,fun dw=>?_⟩
 ·have aJ:j<l.length:=by have:=of_decide_eq_true aJ; simp only [Int.ofNat_lt] at this; omega
  obtain ⟨v,jc⟩:∃v,l[j]?=some v:=⟨_,List.getElem?_eq_getElem aJ⟩
  have Bb:(l.map cD)[((j:Int)).toNat]?=some (cD v):=by rw [List.getElem?_map,Int.toNat_natCast,jc]; rfl
  have az:l.drop j=v::l.drop (j+1):=by rw [List.drop_eq_getElem_cons aJ]; congr 1; rw [List.getElem?_eq_getElem aJ] at jc; injection jc
  refine ⟨cD v,fun _=>⟨by simp only; omega,Bb⟩,?_⟩
  repeat first | refine ⟨id,?_⟩ | refine ⟨fun _ h=>cx h,?_⟩ | refine ⟨fun _ h=>ax h,?_⟩ | refine ⟨fun h=>⟨h,fun h2=>aP h h2⟩,?_⟩ | refine ⟨fun h=>⟨h,fun h2=>aC h h2⟩,?_⟩
  refine (.inl ⟨_,fun _=>(wj v.f).ok,?_⟩)
  repeat first | refine ⟨id,?_⟩ | refine ⟨fun _ h=>cx h,?_⟩ | refine ⟨fun _ h=>ax h,?_⟩ | refine ⟨fun h=>⟨h,fun h2=>aP h h2⟩,?_⟩ | refine ⟨fun h=>⟨h,fun h2=>aC h h2⟩,?_⟩
  refine (.inl ⟨_,fun _=>(wj v.t).ok,?_⟩)
  repeat first | refine ⟨id,?_⟩ | refine ⟨fun _ h=>cx h,?_⟩ | refine ⟨fun _ h=>ax h,?_⟩ | refine ⟨fun h=>⟨h,fun h2=>aP h h2⟩,?_⟩ | refine ⟨fun h=>⟨h,fun h2=>aC h h2⟩,?_⟩
  refine .inl ⟨by kernel_rfl,fun hc=>?_,fun hc=>?_⟩
  ·have HZ:iO v=true:=hc
   have hr:kB s.H [] l=.err 1:=by rw [p2,az]; simp only [kB,HZ,if_true]
   rw [hr]
   exact ⟨_,_,⟨rfl,rfl⟩,by kernel_rfl,⟨rf,rf,tv⟩,⟨rf,rf,rf,rf,rf,rf,rfl,rfl,rfl,rfl,rfl,tv⟩,⟨rfl,rfl⟩,⟨rfl,rfl⟩,⟨rfl,rfl⟩,⟨rfl,rfl⟩,⟨rfl,rfl⟩,tv⟩
  have HZ:iO v=false:=hc
  have cw:1≤v.n∧v.n≤1099511627776∧v.f ≠ v.t:=by
   have:=qR HZ; exact ⟨this.2.2.1,this.2.2.2.1,this.2.2.2.2.2.2⟩
  refine ⟨fun hf=>?_,fun hf=>?_⟩
  ·have hf:v.f ≠ 0:=by simpa using hf
   refine .inr ⟨[0,1,2,3,4,5,6,7,8],[.agg [.dv (I v.f),.dv (I v.it)],.ptr 8 0,.ptr 6 0],Qt s m,0,_,_,lR s m (v.f,v.it),by kernel_rfl,by kernel_rfl,⟨⟨rf,rf,tv⟩,rfl,rfl,tv⟩,⟨⟨rf,rf,rf,rf,rf,rf,rfl,rfl,rfl,rfl,rfl,tv⟩,⟨rfl,rfl⟩,⟨rfl,rfl⟩,⟨rfl,rfl⟩,⟨rfl,rfl⟩,⟨rfl,rfl⟩,⟨rfl,tv⟩,⟨rfl,rfl⟩,⟨rfl,tv⟩,tv⟩,?_⟩
   refine .inl ⟨by kernel_rfl,fun hs=>?_,fun hs=>?_⟩
   ·have hs:hold m s.H (v.f,v.it)<v.n:=of_decide_eq_true hs
    have hr:kB s.H [] l=.err 10:=by rw [p2,az]; simp only [kB,HZ]; simp [hf,hs]
    rw [hr]
    exact ⟨_,_,⟨rfl,rfl⟩,by kernel_rfl,⟨rf,rf,tv⟩,⟨rf,rf,rf,rf,rf,rf,rfl,rfl,rfl,rfl,rfl,tv⟩,⟨rfl,rfl⟩,⟨rfl,rfl⟩,⟨rfl,rfl⟩,⟨rfl,rfl⟩,⟨rfl,rfl⟩,tv⟩
   have hs:¬ hold m s.H (v.f,v.it)<v.n:=of_decide_eq_false hs
   have Zy:=p3 (v.f,v.it)
   refine .inr ⟨[0,1,2,3,4,5,6,7,8],[.agg [.dv (I v.f),.dv (I v.it)],.ptr 8 0,.ptr 6 0],Qt s (m),0,_,_,lR s (m) (v.f,v.it),by kernel_rfl,by kernel_rfl,⟨⟨rf,rf,tv⟩,rfl,rfl,tv⟩,⟨⟨rf,rf,rf,rf,rf,rf,rfl,rfl,rfl,rfl,rfl,tv⟩,⟨rfl,rfl⟩,⟨rfl,rfl⟩,⟨rfl,rfl⟩,⟨rfl,rfl⟩,⟨rfl,rfl⟩,⟨rfl,tv⟩,⟨rfl,rfl⟩,⟨rfl,tv⟩,tv⟩,?_⟩
   refine ⟨fun _=>⟨by omega,by omega⟩,?_⟩
   refine ⟨gX,xa (v.f,v.it),rfl,rfl,I (hold m s.H (v.f,v.it) - v.n),⟨rf,tv⟩,rfl,false,fun _=>ET m (v.f,v.it) _,.inr ⟨[(0,4)],by kernel_rfl,qK (pol:=EH) (by kernel_rfl) (by kernel_rfl),?_⟩⟩
   have hM:kB s.H [] l=kB s.H (if v.t ≠ 0 then bP (bP m (v.f,v.it) (hold m s.H (v.f,v.it) - v.n)) (v.t,v.it) (hold (bP m (v.f,v.it) (hold m s.H (v.f,v.it) - v.n)) s.H (v.t,v.it)+v.n) else bP m (v.f,v.it) (hold m s.H (v.f,v.it) - v.n)) (l.drop (j+1)):=by
    rw [p2,az]; simp only [kB,HZ]; simp [hf,hs]
   have hB:∀k,0≤hold (bP m (v.f,v.it) (hold m s.H (v.f,v.it) - v.n)) s.H k∧hold (bP m (v.f,v.it) (hold m s.H (v.f,v.it) - v.n)) s.H k≤1152921504606846976+(j:Int) * 1099511627776:=by
    intro k
    rw [kV]; have:=p3 k; split <;> omega
   refine ⟨fun ht=>?_,fun ht=>?_⟩
   ·have ht:v.t ≠ 0:=by simpa using ht
    have KV:=hM
    rw [if_pos ht] at KV
    have YB:=hB (v.t,v.it)
    refine .inr ⟨[0,1,2,3,4,5,6,7,8],[.agg [.dv (I v.t),.dv (I v.it)],.ptr 8 0,.ptr 6 0],Qt s (bP m (v.f,v.it) (hold m s.H (v.f,v.it) - v.n)),0,_,_,lR s (bP m (v.f,v.it) (hold m s.H (v.f,v.it) - v.n)) (v.t,v.it),by kernel_rfl,by kernel_rfl,⟨⟨rf,rf,tv⟩,rfl,rfl,tv⟩,⟨⟨rf,rf,rf,rf,rf,rf,rfl,rfl,rfl,rfl,rfl,tv⟩,⟨rfl,rfl⟩,⟨rfl,rfl⟩,⟨rfl,rfl⟩,⟨rfl,rfl⟩,⟨rfl,rfl⟩,⟨rfl,tv⟩,⟨rfl,by rw [se]⟩,⟨rfl,tv⟩,tv⟩,?_⟩
    refine ⟨fun _=>⟨by omega,by omega⟩,?_⟩
    refine ⟨gX,xa (v.t,v.it),rfl,rfl,I (hold (bP m (v.f,v.it) (hold m s.H (v.f,v.it) - v.n)) s.H (v.t,v.it)+v.n),⟨rf,tv⟩,rfl,false,fun _=>?_,.inr ⟨[(0,4)],by kernel_rfl,qK (pol:=EH) (by kernel_rfl) (by kernel_rfl),?_⟩⟩
    ·exact ET (bP m (v.f,v.it) (hold m s.H (v.f,v.it) - v.n)) (v.t,v.it) _
    refine ⟨fun _=>⟨by simp only; omega,by simp only; omega⟩,⟨bP (bP m (v.f,v.it) (hold m s.H (v.f,v.it) - v.n)) (v.t,v.it) (hold (bP m (v.f,v.it) (hold m s.H (v.f,v.it) - v.n)) s.H (v.t,v.it)+v.n),j+1⟩,⟨⟨rfl,rf,rfl,rf,rf,rfl,⟨rfl,rfl,rfl,tv⟩,rf,rf,aB (by simp),tv⟩,⟨⟨rf,rf,rf,rf,rf,rf,rfl,rfl,rfl,rfl,rfl,tv⟩,⟨rfl,rfl⟩,⟨rfl,rfl⟩,⟨rfl,rfl⟩,⟨rfl,rfl⟩,⟨rfl,rfl⟩,⟨rfl,tv⟩,⟨rfl,by rw [se]⟩,⟨rfl,tv⟩,tv⟩,rfl,rfl⟩,⟨by simp only; omega,KV,fun k=>?_⟩,by simp only; omega⟩
    ·exact Av hB ⟨by omega,by simp only; omega⟩ (by simp only; omega) k
   ·have ht:¬ v.t ≠ 0:=by simpa using ht
    have KV:=hM
    rw [if_neg ht] at KV
    refine ⟨fun _=>⟨by simp only; omega,by simp only; omega⟩,⟨bP m (v.f,v.it) (hold m s.H (v.f,v.it) - v.n),j+1⟩,⟨⟨rfl,rf,rfl,rf,rf,rfl,⟨rfl,rfl,rfl,tv⟩,rf,rf,aB (by simp),tv⟩,⟨⟨rf,rf,rf,rf,rf,rf,rfl,rfl,rfl,rfl,rfl,tv⟩,⟨rfl,rfl⟩,⟨rfl,rfl⟩,⟨rfl,rfl⟩,⟨rfl,rfl⟩,⟨rfl,rfl⟩,⟨rfl,tv⟩,⟨rfl,by rw [se]⟩,⟨rfl,tv⟩,tv⟩,rfl,rfl⟩,⟨by simp only; omega,KV,fun k=>?_⟩,by simp only; omega⟩
    ·have:=hB k; simp only; omega
  ·have hf:¬ v.f ≠ 0:=by simpa using hf
   have hM:kB s.H [] l=kB s.H (if v.t ≠ 0 then bP (m) (v.t,v.it) (hold (m) s.H (v.t,v.it)+v.n) else m) (l.drop (j+1)):=by
    rw [p2,az]; simp only [kB,HZ]; simp only [hf,if_false]; rfl
   have hB:=p3
   refine ⟨fun ht=>?_,fun ht=>?_⟩
   ·have ht:v.t ≠ 0:=by simpa using ht
    have KV:=hM
    rw [if_pos ht] at KV
    have YB:=hB (v.t,v.it)
    refine .inr ⟨[0,1,2,3,4,5,6,7,8],[.agg [.dv (I v.t),.dv (I v.it)],.ptr 8 0,.ptr 6 0],Qt s (m),0,_,_,lR s (m) (v.t,v.it),by kernel_rfl,by kernel_rfl,⟨⟨rf,rf,tv⟩,rfl,rfl,tv⟩,⟨⟨rf,rf,rf,rf,rf,rf,rfl,rfl,rfl,rfl,rfl,tv⟩,⟨rfl,rfl⟩,⟨rfl,rfl⟩,⟨rfl,rfl⟩,⟨rfl,rfl⟩,⟨rfl,rfl⟩,⟨rfl,tv⟩,⟨rfl,rfl⟩,⟨rfl,tv⟩,tv⟩,?_⟩
    refine ⟨fun _=>⟨by omega,by omega⟩,?_⟩
    refine ⟨gX,xa (v.t,v.it),rfl,rfl,I (hold (m) s.H (v.t,v.it)+v.n),⟨rf,tv⟩,rfl,false,fun _=>?_,.inr ⟨[(0,4)],by kernel_rfl,qK (pol:=EH) (by kernel_rfl) (by kernel_rfl),?_⟩⟩
    ·exact ET (m) (v.t,v.it) _
    refine ⟨fun _=>⟨by simp only; omega,by simp only; omega⟩,⟨bP (m) (v.t,v.it) (hold (m) s.H (v.t,v.it)+v.n),j+1⟩,⟨⟨rfl,rf,rfl,rf,rf,rfl,⟨rfl,rfl,rfl,tv⟩,rf,rf,aB (by simp),tv⟩,⟨⟨rf,rf,rf,rf,rf,rf,rfl,rfl,rfl,rfl,rfl,tv⟩,⟨rfl,rfl⟩,⟨rfl,rfl⟩,⟨rfl,rfl⟩,⟨rfl,rfl⟩,⟨rfl,rfl⟩,⟨rfl,tv⟩,⟨rfl,by rw [se]⟩,⟨rfl,tv⟩,tv⟩,rfl,rfl⟩,⟨by simp only; omega,KV,fun k=>?_⟩,by simp only; omega⟩
    ·exact Av hB ⟨by omega,by simp only; omega⟩ (by simp only; omega) k
   ·have ht:¬ v.t ≠ 0:=by simpa using ht
    have KV:=hM
    rw [if_neg ht] at KV
    refine ⟨fun _=>⟨by simp only; omega,by simp only; omega⟩,⟨m,j+1⟩,⟨⟨rfl,rf,rfl,rf,rf,rfl,⟨rfl,rfl,rfl,tv⟩,rf,rf,aB (by simp),tv⟩,⟨⟨rf,rf,rf,rf,rf,rf,rfl,rfl,rfl,rfl,rfl,tv⟩,⟨rfl,rfl⟩,⟨rfl,rfl⟩,⟨rfl,rfl⟩,⟨rfl,rfl⟩,⟨rfl,rfl⟩,⟨rfl,tv⟩,⟨rfl,rfl⟩,⟨rfl,tv⟩,tv⟩,rfl,rfl⟩,⟨by simp only; omega,KV,fun k=>?_⟩,by simp only; omega⟩
    ·have:=hB k; simp only; omega
 ·have hj:j=l.length:=by have:=of_decide_eq_false dw; simp only at this; omega
  have hr:kB s.H [] l=.ok m:=by rw [p2,hj,List.drop_length]; rfl
  rw [hr]
  exact ⟨_,_,⟨rfl,rfl⟩,by kernel_rfl,⟨rfl,rf,tv⟩,⟨rf,rf,rf,rf,rf,rf,rfl,rfl,rfl,rfl,rfl,tv⟩,⟨rfl,rfl⟩,⟨rfl,rfl⟩,⟨rfl,rfl⟩,⟨rfl,rfl⟩,⟨rfl,rfl⟩,⟨rfl,rfl⟩,tv⟩
end Go.Proofs.YtpbdohkbiklflaaGreatDoor
namespace Go.Proofs.YtpbdohkbiklflaaGreatDoor
open Go.TM
def GL (a it n:Int) (m:Mv):Int :=
 if m.it=it∧m.f=a then (if m.it=it∧m.t=a then n+m.n else n) - m.n else (if m.it=it∧m.t=a then n+m.n else n)
def iq (a it n:Int) (l:List Mv):Int:=l.foldl (GL a it) n
def bh (a it:Int) (l:List St):Int:=l.foldl (fun n s=>iq a it n s.mv) 0
def kW (l:List Int) (n:Int):List Int:=if n≤0 ∨ n∈l then l else l.takeWhile (fun x=>decide (x<n))++n::l.dropWhile (fun x=>decide (x<n))
def fq (o:List Int) (m:Mv):List Int:=kW (kW o m.f) m.t
def cn (l:List St):List Int:=l.foldl (fun o s=>s.mv.foldl fq o) []
def bm (coin:Int) (s:St):Bool:=(aZ coin s).2.2.2
def SJ (coin ab tick:Int) (s:St):Bool:=bif bif bm coin s then decide (tick - ab<s.tick) else false then decide (s.tick≤tick) else false
def bs (coin ab:Int) (l:List St) (tick:Int):Nat:=l.countP (SJ coin ab tick)
def Na (a:Int) (l:List St):Nat:=(List.range 4).countP fun k=>!decide (bh a (k:Nat) l=0)
def nz (l:List St) (xs:List Int):Nat:=(xs.map fun a=>Na a l).sum
def yF (coin ab:Int) (l:List St) (tick:Int):Nat:=bs coin ab l tick+nz l (cn l)
def Q9:St:=⟨0,0,0,0,0,0,[]⟩
def bK (l:List St):Int:=(l.getD (l.length - 1) Q9).tick
def ov (steps:List St):List Mv→List Mv→Int
 | _,[]=>0
 | b,m::r=>if iO m=true then 1 else if m.f ≠ 0∧bh m.f m.it (steps++[⟨0,0,0,0,0,0,b⟩])<m.n then 10 else ov steps (b++[m]) r
structure RV where
 coin:Int
 ab:Int
 aD:Int
 steps:List St
 work:Int
def Rh (a:Int) (l r:List St):Nat:=(List.range 4).countP fun k=>!decide (bh a (k:Nat) l=bh a (k:Nat) r)
def py (l r:List St) (xs:List Int):Nat:=(xs.map fun a=>Rh a l r).sum
def gG (b:Bool):Int:=bif b then 1 else 0
def kA (v:RV) (st:St):Int :=
 if st.tick<bK v.steps ∨ 1099511627776<st.tick then 1 else
 if ov v.steps [] st.mv ≠ 0 then ov v.steps [] st.mv else
 if v.aD<(yF v.coin v.ab (v.steps++[st]) st.tick:Int) then 22 else 0
def pz (v:RV) (st:St):RV:={ v with steps:=v.steps++[st],work:=v.work+(py (v.steps++[st]) v.steps (cn (v.steps++[st])):Int)+gG (bm v.coin st)+(bs v.coin v.ab v.steps (bK v.steps):Int) - ((bs v.coin v.ab (v.steps++[st]) st.tick:Int) - gG (bm v.coin st)) }
structure EU where
 bN:Int
 cz:Int
 last:Int
def dL (coin thr it:Int) (p:EU) (s:St):EU :=
 if bm coin s=true∧(aZ coin s).1=it∧thr<s.tick then ⟨p.bN+(aZ coin s).2.1,p.cz+(aZ coin s).2.2.1,(aZ coin s).2.2.1.tdiv (aZ coin s).2.1⟩ else p
def ow (coin thr it:Int) (l:List St):EU:=l.foldl (dL coin thr it) ⟨0,0,0⟩
def aj (k:Int):Int:=[(1:Int),2,3,4,1048577,9].getD (k.tmod 6).toNat 0
def Vv (s:St):Prop:=s.mv.length≤4∧(∀m∈s.mv,-1099511627776≤m.n∧m.n≤1099511627776)
def sj (l:List St):Prop:=l.length≤100∧∀s∈l,Vv s
theorem pA (a it:Int) (l:List St) (s:St):bh a it (l++[s])=iq a it (bh a it l) s.mv:=by simp [bh,List.foldl_append]
theorem yG (a it n:Int) (l:List Mv) (m:Mv):iq a it n (l++[m])=GL a it (iq a it n l) m:=by simp [iq,List.foldl_append]
theorem SK (a it n:Int) (m:Mv) (hm:-1099511627776≤m.n∧m.n≤1099511627776):n - 2199023255552≤GL a it n m∧GL a it n m≤n+2199023255552:=by
 unfold GL; split <;> split <;> omega
theorem EV (a it:Int):∀(l:List Mv) (n:Int),(∀m∈l,-1099511627776≤m.n∧m.n≤1099511627776)→n - 2199023255552 * l.length≤iq a it n l∧iq a it n l≤n+2199023255552 * l.length
 | [],n,_=>by simp [iq]
 | m::r,n,h=>by
  have h1:=EV a it r (GL a it n m) fun x hx=>h x (List.mem_cons_of_mem _ hx)
  have h2:=SK a it n m (h m List.mem_cons_self)
  show _≤iq a it (GL a it n m) r∧iq a it (GL a it n m) r≤_
  simp only [List.length_cons]
  omega
theorem qS (a it:Int):∀(l:List St) (n:Int),(∀s∈l,Vv s)→n - 8796093022208 * l.length≤l.foldl (fun n s=>iq a it n s.mv) n∧l.foldl (fun n s=>iq a it n s.mv) n≤n+8796093022208 * l.length
 | [],n,_=>by simp
 | s::r,n,h=>by
  have h1:=qS a it r (iq a it n s.mv) fun x hx=>h x (List.mem_cons_of_mem _ hx)
  have hs:=h s List.mem_cons_self
  have h2:=EV a it s.mv n hs.2
  have h3:=hs.1
  simp only [List.length_cons,List.foldl_cons]
  omega
theorem Nb (a it:Int) {l:List St} (h:sj l):-879609302220800≤bh a it l∧bh a it l≤879609302220800:=by
 have h1:=qS a it l 0 h.2
 have h2:=h.1
 unfold bh
 omega
theorem sj.take {l:List St} (h:sj l) (i:Nat):sj (l.take i):=⟨by rw [List.length_take]; have:=h.1; omega,fun s hs=>h.2 s (List.mem_of_mem_take hs)⟩
end Go.Proofs.YtpbdohkbiklflaaGreatDoor
