import Derived.Test.YtpbdohkbiklflaaGreatDoorSM22
import Derived.Test.YtpbdohkbiklflaaGreatDoorSM20
set_option linter.unusedVariables false
set_option linter.unusedSimpArgs false
set_option linter.unusedSectionVars false
namespace Go.Proofs.YtpbdohkbiklflaaGreatDoor
open Go.TM
variable [cQ]
set_option maxRecDepth 100000
theorem kn (s:Vs) (h:s.H.length+s.bD.length≤1000000):bg Tryz.prog 25 [.ptr 0 0] 6 (vK false s) 0 [.dv (I ((s.H.length:Int)+(s.bD.length:Int)))] (vK false s):=by
 refine bk aW mixed (aw _) (ay _) Tryz.func25 rfl rfl (by kernel_rfl) ?_
 refine ⟨fun _=>⟨by rw [List.length_map,List.length_map]; omega,by rw [List.length_map,List.length_map]; omega⟩,by kernel_rfl,?_⟩
 exact ⟨_,_,⟨rfl,rfl⟩,by kernel_rfl,⟨bq (by rw [List.length_map,List.length_map]),tv⟩,⟨rf,rf,rf,rf,rf,rf,rfl,rfl,rfl,rfl,rfl,tv⟩,⟨rfl,rfl⟩,⟨rfl,rfl⟩,⟨rfl,rfl⟩,⟨rfl,rfl⟩,⟨rfl,rfl⟩,tv⟩
theorem uW (s:Vs) (hl:s.cF.length=4) (it:Int):bg Tryz.prog 26 [.ptr 0 0,.dv (I it)] 6 (vK false s) 0 [.dv (I (if it<0 ∨ 4≤it then 0 else s.cF.getD it.toNat 0))] (vK false s):=by
 refine bk aW mixed (aw _) (ay _) Tryz.func26 rfl rfl (by kernel_rfl) ?_
 repeat first | refine ⟨id,?_⟩ | refine ⟨fun _ h=>dB h,?_⟩ | refine ⟨fun _ h=>aA h,?_⟩ | refine ⟨fun h=>⟨h,fun h2=>bW h h2⟩,?_⟩ | refine ⟨fun h=>⟨h,fun h2=>br h h2⟩,?_⟩
 have e:(bif decide (it<0) then true else decide (4≤it))=decide (it<0 ∨ 4≤it):=by by_cases h1:it<0 <;> simp [h1]
 refine ⟨fun h=>?_,fun h=>?_⟩
 ·have h:=of_decide_eq_true (e.symm.trans h)
  rw [if_pos h]
  exact ⟨_,_,⟨rfl,rfl⟩,by kernel_rfl,⟨rf,tv⟩,⟨rf,rf,rf,rf,rf,rf,rfl,rfl,rfl,rfl,rfl,tv⟩,⟨rfl,rfl⟩,⟨rfl,rfl⟩,⟨rfl,rfl⟩,⟨rfl,rfl⟩,⟨rfl,rfl⟩,tv⟩
 ·have h:=of_decide_eq_false (e.symm.trans h)
  rw [if_neg h]
  refine ⟨fun _=>⟨by omega,by rw [List.length_map]; omega⟩,I (s.cF.getD it.toNat 0),fun _=>?_,?_⟩
  ·rw [List.getElem?_map,List.getElem?_eq_getElem (by omega:it.toNat<s.cF.length),List.getD_eq_getElem?_getD,List.getElem?_eq_getElem (by omega:it.toNat<s.cF.length)]; rfl
  ·exact ⟨_,_,⟨rfl,rfl⟩,by kernel_rfl,⟨rf,tv⟩,⟨rf,rf,rf,rf,rf,rf,rfl,rfl,rfl,rfl,rfl,tv⟩,⟨rfl,rfl⟩,⟨rfl,rfl⟩,⟨rfl,rfl⟩,⟨rfl,rfl⟩,⟨rfl,rfl⟩,tv⟩
def A6 (s:Vs) (it n:Int):List Rk:=if it<0 ∨ 4≤it ∨ n≤0 then [] else (s.rk.getD it.toNat (true,[])).2.take n.toNat
theorem A7 {L:List DV} {i:Nat} {f:Bool} {l:List Rk} (h:L[i]?=some (dP f l)) (hf:f=true→l=[]) (n:Nat) (hn:1≤n) (IS:n≤9223372036854775807) (hl:l.length≤1000) :
  bg Tryz.prog 55 [.own 0 0 0 [.el i 0],.dv (I n)] 1 [(0,.tree 0 0 (.ar 1 L))] 0 [.dv (.sl 2 ((l.take n).map eR))] [(0,.tree 0 0 (.ar 1 L))]:=by
 have hs:bH (.ar 1 L) [.el i 0] (dP f l)=.ar 1 L:=by
  rw [sU h rfl rfl]
  congr 1
  obtain ⟨aK,he⟩:=List.getElem?_eq_some_iff.1 h
  rw [←he]; exact List.set_getElem_self aK
 cases l with
 | nil =>
  have:=r8 (p:=[.el i 0]) (D:=.ar 1 L) (A3 f n) hs (uV h rfl) (by simp) rfl rfl rfl rfl
  simpa using this
 | cons r l' =>
  cases f with
  | true=>have:=hf rfl; cases this
  | false=>exact r8 (p:=[.el i 0]) (D:=.ar 1 L) (A4 n hn IS r l' hl) hs (uV h rfl) (by simp) rfl rfl rfl rfl
theorem uX (s:Vs) (hl:s.rk.length=4) (hr:∀x,x∈s.rk→x.2.length≤1000∧(x.1=true→x.2=[])) (it n:Int) (hn:n≤9223372036854775807) :
  bg Tryz.prog 29 [.ptr 0 0,.dv (I it),.dv (I n)] 6 (vK false s) 0 [.dv (.sl 2 ((A6 s it n).map eR))] (vK false s):=by
 refine bk aW mixed (aw _) (ay _) Tryz.func29 rfl rfl (by kernel_rfl) ?_
 repeat first | refine ⟨id,?_⟩ | refine ⟨fun _ h=>dB h,?_⟩ | refine ⟨fun _ h=>aA h,?_⟩ | refine ⟨fun h=>⟨h,fun h2=>bW h h2⟩,?_⟩ | refine ⟨fun h=>⟨h,fun h2=>br h h2⟩,?_⟩
 have e:(bif bif decide (it<0) then true else decide (4≤it) then true else decide (n≤0))=decide (it<0 ∨ 4≤it ∨ n≤0):=by by_cases h1:it<0 <;> by_cases h2:4≤it <;> simp [h1,h2]
 refine ⟨fun h=>?_,fun h=>?_⟩
 ·have h:=of_decide_eq_true (e.symm.trans h)
  rw [show A6 s it n=[] from if_pos h]
  exact ⟨_,_,⟨rfl,rfl⟩,by kernel_rfl,⟨y4 _,tv⟩,⟨rf,rf,rf,rf,rf,rf,rfl,rfl,rfl,rfl,rfl,tv⟩,⟨rfl,rfl⟩,⟨rfl,rfl⟩,⟨rfl,rfl⟩,⟨rfl,rfl⟩,⟨rfl,rfl⟩,tv⟩
 ·have h:=of_decide_eq_false (e.symm.trans h)
  obtain ⟨i,rfl⟩:=Int.eq_ofNat_of_zero_le (show 0≤it by omega)
  obtain ⟨m,rfl⟩:=Int.eq_ofNat_of_zero_le (show 0≤n by omega)
  have hi:i<s.rk.length:=by omega
  have F1:s.rk[i]?=some (s.rk.getD i (true,[])):=by rw [List.getD_eq_getElem?_getD,List.getElem?_eq_getElem hi]; rfl
  rw [show A6 s (i:Int) (m:Int)=(s.rk.getD i (true,[])).2.take m from if_neg h]
  obtain ⟨q1,q2⟩:=hr _ (List.mem_of_getElem? F1)
  generalize s.rk.getD i (true,[])=q0 at *
  obtain ⟨f0,l0⟩:=q0
  have Mu:(s.rk.map C9)[i]?=some (dP f0 l0):=by rw [List.getElem?_map,F1]; rfl
  have zD:=A7 Mu q2 m (by omega) (by omega) q1
  refine ⟨fun _=>⟨by omega,by rw [List.length_map]; omega⟩,dP f0 l0,fun _=>Mu,?_⟩
  refine .inr ⟨[3],[.own 0 0 0 [.el i 0],.dv (I m)],[(0,.tree 0 0 (.ar 1 (s.rk.map C9)))],0,_,_,zD,by kernel_rfl,by kernel_rfl,⟨rfl,rf,tv⟩,⟨⟨rfl,rfl⟩,tv⟩,?_⟩
  exact ⟨_,_,⟨rfl,rfl⟩,by kernel_rfl,⟨rf,tv⟩,⟨rf,rf,rf,rf,rf,rf,rfl,rfl,rfl,rfl,rfl,tv⟩,⟨rfl,rfl⟩,⟨rfl,rfl⟩,⟨rfl,rfl⟩,⟨rfl,rfl⟩,⟨rfl,rfl⟩,tv⟩
end Go.Proofs.YtpbdohkbiklflaaGreatDoor
namespace Go.Proofs.YtpbdohkbiklflaaGreatDoor
open Go.TM
def se (n:Int):Bool:=decide (0≤n) && decide (n≤1073741824)
abbrev IM:=List (Int × Int)
def Mz (p:Int × Int):DV:=.eQ (I p.1) (I p.2)
def oL:IM→Int→Option Int
 | [],_=>none
 | p::r,k=>if p.1=k then some p.2 else oL r k
def Da:IM→Int→Int→IM
 | [],k,x=>[(k,x)]
 | p::r,k,x=>if p.1=k then (k,x)::r else p::Da r k x
def iv (m:IM) (k:Int):Int:=(oL m k).getD 0
theorem EO (a b:Int):sF (I a) (I b)=decide (a=b):=by
 simp only [sF,zJ]
 try rw [Bool.eq_iff_iff]; simp
theorem I2 (k:Int):∀m:IM,bC (m.map Mz) (I k)=(oL m k).map I
 | []=>rfl
 | p::r=>by
  simp only [List.map_cons,Mz,bC,EO,oL]
  by_cases h:p.1=k
  ·simp [h]
  ·simp only [h,decide_false,cond_false,if_false]
   exact I2 k r
theorem I3 (k x:Int):∀m:IM,ef (m.map Mz) (I k) (I x)=(Da m k x).map Mz
 | []=>rfl
 | p::r=>by
  simp only [List.map_cons,Mz,ef,EO,Da]
  by_cases h:p.1=k
  ·simp [h,Mz]
  ·simp only [h,decide_false,cond_false,if_false,List.map_cons]
   have:=I3 k x r
   rw [this]
   rfl
theorem K9 (m:IM) (k x j:Int):iv (Da m k x) j=if k=j then x else iv m j:=by
 unfold iv
 induction m with
 | nil=>simp only [Da,oL]; split <;> rfl
 | cons p r ih =>
  simp only [Da]
  by_cases h:p.1=k
  ·simp only [h,if_true,oL]
   by_cases h2:k=j
   ·simp [h2]
   ·simp [h2]
  ·simp only [h,if_false,oL]
   by_cases h2:p.1=j
   ·have:k ≠ j:=fun h3=>h (h2.trans h3.symm)
    simp [h2,this]
   ·simp only [h2,if_false]
    exact ih
variable [cQ]
set_option maxRecDepth 100000
theorem uY (n:Int):eh Tryz.prog 114 [I n] [B (se n)]:=by
 refine cM aW mixed (aw _) (ay _) Tryz.func114 rfl (by kernel_rfl) rfl ?_
 repeat first | refine ⟨id,?_⟩ | refine ⟨fun _ h=>dB h,?_⟩ | refine ⟨fun _ h=>aA h,?_⟩ | refine ⟨fun h=>⟨h,fun h2=>bW h h2⟩,?_⟩ | refine ⟨fun h=>⟨h,fun h2=>br h h2⟩,?_⟩
 refine ⟨DV.Le.of_eq ?_,tv⟩
 unfold se
 cases decide (0≤n) <;> rfl
theorem Db:qJ Tryz.prog (nth tab 167).key Fs:=Ap aW (by kernel_rfl)
abbrev SS:=List (Nat × Sl)
def bL (S:SS) (i:Nat):List Sl:=(S.filter (fun p=>p.1 == i)).map (·.2)
structure nv (s:Vs) (S:SS):Prop where
 bD:s.bD=S.map fun p=>(p.1:Int)
 I4:s.sl.length=4
 it:∀p∈S,p.1<4
 sl:∀(i:Nat) (f:Bool) (l:List Sl),s.sl[i]?=some (f,l)→l=bL S i
 sf:∀(i:Nat) (f:Bool) (l:List Sl),s.sl[i]?=some (f,l)→f=true→l=[]
 len:S.length≤1000
 tk:∀p∈S,0≤p.2.tick∧p.2.tick≤1099511627776
def fE (S:SS) (O2:Int):Nat:=(S.takeWhile fun p=>decide (p.2.tick≤O2)).length
theorem EP {α:Type} (q:α→Bool):∀(S:List α) (j:Nat) (x:α),S[j]?=some x→q x=true→(S.filter q)[(S.take j).countP q]?=some x
 | [],j,x,h,_=>by simp at h
 | y::r,0,x,h,hq=>by
  simp only [List.getElem?_cons_zero,Option.some.injEq] at h
  subst h
  simp [hq]
 | y::r,j+1,x,h,hq=>by
  simp only [List.getElem?_cons_succ] at h
  have ih:=EP q r j x h hq
  by_cases hy:q y=true
  ·simp only [List.filter_cons_of_pos hy,List.take_succ_cons,List.countP_cons_of_pos hy,List.getElem?_cons_succ]
   exact ih
  ·simp only [List.filter_cons_of_neg hy,List.take_succ_cons,List.countP_cons_of_neg hy]
   exact ih
theorem xu {α:Type} {S:List α} {j:Nat} {x:α} (h:S[j]?=some x):S.take (j+1)=S.take j++[x]:=by
 rw [List.take_add_one,h]; rfl
theorem I5 {S:SS} {O2:Int} {j:Nat} (h1:∀p∈S.take j,p.2.tick≤O2) (h2:∀x,S[j]?=some x→¬ x.2.tick≤O2) (hj:j≤S.length):fE S O2=j:=by
 induction S generalizing j with
 | nil=>simp at hj; subst hj; rfl
 | cons y r ih =>
  unfold fE
  cases j with
  | zero =>
   have:=h2 y rfl
   rw [List.takeWhile_cons_of_neg (by simpa using this)]; rfl
  | succ j =>
   have hy:y.2.tick≤O2:=h1 y (by simp)
   rw [List.takeWhile_cons_of_pos (by simpa using hy),List.length_cons]
   have:=ih (j:=j) (fun p hp=>h1 p (by rw [List.take_succ_cons]; exact List.mem_cons_of_mem _ hp)) (fun x hx=>h2 x (by simpa using hx)) (by simpa using hj)
   unfold fE at this
   rw [this]
structure Uh where
 m:IM
 j:Nat
def Qq (s:Vs) (tick:Int) (x:Uh):bN:=⟨7,[(0,.ptr 0 0),(1,.dv (I tick)),(5,.own 6 0 0 []),(6,.dv (I x.j)),(13,.own 5 0 0 []),(14,.dv (I s.bD.length)),(15,.dv (I x.j))],vK false s++[(6,.tree 0 0 (.omap Fs (x.m.map Mz)))]⟩
set_option maxHeartbeats 4000000 in
theorem y5 (s:Vs) (S:SS) (h:nv s S) (tick:Int) (hb:-4611686018427387904≤tick - s.au∧tick - s.au≤4611686018427387904):bg Tryz.prog 52 [.ptr 0 0,.dv (I tick)] 6 (vK false s) 0 [.dv (I (fE S (tick - s.au)))] (vK false s):=by
 refine bk aW mixed (aw _) (ay _) Tryz.func52 rfl rfl (by kernel_rfl) ?_
 refine ⟨Fs,Uh,Qq s tick,fun x=>x.j≤S.length∧(∀k:Nat,iv x.m k=((S.take x.j).countP fun p=>p.1 == k:Nat))∧∀p∈S.take x.j,p.2.tick≤tick - s.au,fun x=>S.length - x.j,⟨[],0⟩,fun _=>rfl,⟨⟨rfl,rf,rfl,rf,rfl,bq (by rw [List.length_map]),rf,tv⟩,⟨⟨rf,rf,rf,rf,rf,rf,rfl,rfl,rfl,rfl,rfl,tv⟩,⟨rfl,rfl⟩,⟨rfl,rfl⟩,⟨rfl,rfl⟩,⟨rfl,rfl⟩,⟨rfl,rfl⟩,⟨rfl,rfl⟩,tv⟩,rfl,rfl⟩,⟨Nat.zero_le _,fun _=>by simp [iv,oL],by simp⟩,?_⟩
 rintro ⟨m,j⟩ ⟨p1,p2,p3⟩
 simp only at p1 p2 p3
 have im:s.bD.length=S.length:=by rw [h.bD,List.length_map]
 refine ⟨fun aK=>?_,fun db=>?_⟩
 ·have aK:j<S.length:=by have:=of_decide_eq_true aK; simp only [Int.ofNat_lt] at this; omega
  obtain ⟨⟨it,x⟩,hx⟩:∃q,S[j]?=some q:=⟨_,List.getElem?_eq_getElem aK⟩
  have si:(List.map I s.bD)[((j:Int)).toNat]?=some (I (it:Int)):=by rw [h.bD,List.map_map,List.getElem?_map,Int.toNat_natCast,hx]; rfl
  have h4:it<4:=h.it _ (List.mem_of_getElem? hx)
  have O3:=h.tk _ (List.mem_of_getElem? hx)
  simp only at O3
  have VT:=EP (fun p=>p.1 == it) S j _ hx (by simp)
  obtain ⟨⟨f,l⟩,hl⟩:∃q,s.sl[it]?=some q:=⟨_,List.getElem?_eq_getElem (by rw [h.I4]; exact h4)⟩
  have Ob:=h.sl _ _ _ hl
  have hle:l[(S.take j).countP fun p=>p.1 == it]?=some x:=by rw [Ob,bL,List.getElem?_map,VT]; rfl
  obtain rfl:f=false:=by
   cases f with
   | false=>rfl
   | true=>rw [h.sf _ _ _ hl rfl] at hle; cases hle
  have gX:(s.sl.map lI)[((it:Int)).toNat]?=some (.ar 5 (l.map bO)):=by rw [List.getElem?_map,Int.toNat_natCast,hl]; rfl
  have hc:=p2 it
  generalize O4:(S.take j).countP (fun p=>p.1 == it)=c at *
  have jL:c<l.length:=(List.getElem?_eq_some_iff.1 hle).1
  have VU:l.length≤S.length:=by rw [Ob,bL,List.length_map]; exact List.length_filter_le ..
  have hlen:=h.len
  refine ⟨fun _=>⟨by simp only; omega,by rw [List.length_map]; simp only; omega⟩,I (it:Int),fun _=>si,?_⟩
  refine ⟨fun _=>⟨by omega,by rw [List.length_map,h.I4]; omega⟩,.ar 5 (l.map bO),fun _=>gX,?_⟩
  have hg:bC (m.map Mz) (I (it:Int))=bif (oL m it).isSome then some (I (iv m it)) else none:=by
   rw [I2]; unfold iv; cases oL m it <;> rfl
  have hz:(oL m it).isSome=false→I (iv m it)=I 0:=by
   intro h9; unfold iv; cases hq:oL m it with
   | none=>rfl
   | some y=>rw [hq] at h9; cases h9
  refine ⟨Db,I (it:Int),rfl,rfl,I (iv m it),(oL m it).isSome,fun _=>hg,hz,rfl,?_⟩
  have lQ:iv m (it:Int)=(c:Int):=hc
  have No:(l.map bO)[((iv m (it:Int))).toNat]?=some (bO x):=by rw [lQ,List.getElem?_map,Int.toNat_natCast,hle]; rfl
  refine ⟨.ar 5 (l.map bO),fun _=>gX,?_⟩
  refine ⟨fun _=>⟨by rw [lQ]; omega,by rw [List.length_map,lQ]; omega⟩,?_⟩
  refine ⟨.ar 5 (l.map bO),fun _=>gX,?_⟩
  refine ⟨bO x,fun _=>No,?_⟩
  refine ⟨fun _=>⟨by omega,by omega⟩,?_⟩
  refine ⟨by kernel_rfl,fun pj=>?_,fun hle=>?_⟩
  ·have pj:tick - s.au<x.tick:=of_decide_eq_true pj
   have hN:fE S (tick - s.au)=j:=I5 p3 (fun y hy=>by rw [hx] at hy; injection hy with hy; subst hy; simp only; omega) p1
   rw [hN]
   exact ⟨_,_,⟨rfl,rfl⟩,by kernel_rfl,⟨rf,tv⟩,⟨rf,rf,rf,rf,rf,rf,rfl,rfl,rfl,rfl,rfl,tv⟩,⟨rfl,rfl⟩,⟨rfl,rfl⟩,⟨rfl,rfl⟩,⟨rfl,rfl⟩,⟨rfl,rfl⟩,tv⟩
  ·have Ka:x.tick≤tick - s.au:=by have:=of_decide_eq_false hle; omega
   refine ⟨Db,I (it:Int),rfl,rfl,I (iv m it),(oL m it).isSome,fun _=>hg,hz,rfl,?_⟩
   refine ⟨fun _=>⟨by rw [lQ]; omega,by rw [lQ]; omega⟩,?_⟩
   refine ⟨Db,I (it:Int),rfl,rfl,I (iv m it+1),⟨rf,tv⟩,rfl,false,fun _=>⟨?_,?_⟩,?_⟩
   ·intro z zG d hd
    rw [hg] at zG
    cases hk:(oL m (it:Int)).isSome with
    | false=>rw [hk] at zG; cases zG
    | true=>rw [hk] at zG; injection zG with zG; subst zG; simp [DV.cells] at hd; subst hd; rfl
   ·intro d hd
    simp [DV.cells] at hd; subst hd; rfl
   ·refine ⟨fun _=>⟨by simp only; omega,by simp only; omega⟩,fun _=>⟨by simp only; omega,by simp only; omega⟩,⟨Da m it (iv m it+1),j+1⟩,⟨⟨rfl,rf,rfl,bq (by simp),rfl,rf,bq (by simp),tv⟩,⟨⟨rf,rf,rf,rf,rf,rf,rfl,rfl,rfl,rfl,rfl,tv⟩,⟨rfl,rfl⟩,⟨rfl,rfl⟩,⟨rfl,rfl⟩,⟨rfl,rfl⟩,⟨rfl,rfl⟩,⟨rfl,by rw [I3]⟩,tv⟩,rfl,rfl⟩,⟨by simp only; omega,fun k=>?_,fun p hp=>?_⟩,by simp only; omega⟩
    ·simp only
     rw [K9,xu hx,List.countP_append]
     by_cases hk:(it:Int)=(k:Int)
     ·rw [if_pos hk]
      have ed:it=k:=by omega
      subst ed
      have:=p2 it
      rw [this]
      simp
     ·rw [if_neg hk,p2 k]
      have ed:it ≠ k:=fun h=>hk (by rw [h])
      simp [ed]
    ·simp only [xu hx] at hp
     rcases List.mem_append.1 hp with h1 | h1
     ·exact p3 p h1
     ·simp only [List.mem_singleton] at h1; subst h1; exact Ka
 ·have hj:j=S.length:=by have:=of_decide_eq_false db; simp only at this; omega
  have hN:fE S (tick - s.au)=j:=I5 p3 (fun y hy=>by rw [hj,List.getElem?_eq_none (Nat.le_refl _)] at hy; cases hy) p1
  rw [hN]
  exact ⟨_,_,⟨rfl,rfl⟩,by kernel_rfl,⟨rf,tv⟩,⟨rf,rf,rf,rf,rf,rf,rfl,rfl,rfl,rfl,rfl,tv⟩,⟨rfl,rfl⟩,⟨rfl,rfl⟩,⟨rfl,rfl⟩,⟨rfl,rfl⟩,⟨rfl,rfl⟩,tv⟩
end Go.Proofs.YtpbdohkbiklflaaGreatDoor
namespace Go.Proofs.YtpbdohkbiklflaaGreatDoor
open Go.TM
variable [cQ]
set_option maxRecDepth 100000
structure Mv where
 f:Int
 t:Int
 it:Int
 n:Int
def de (m:Mv):DV:=.agg [I m.f,I m.t,I m.it,I m.n,.aD]
structure St where
 id:Int
 kind:Int
 I6:Int
 tick:Int
 Oc:Int
 times:Int
 mv:List Mv
def A8 (l:List Mv):DV:=.sl 5 (l.map de)
def La (s:St):DV:=.agg [I s.id,I s.kind,I s.I6,I s.tick,I s.Oc,I s.times,A8 s.mv]
def F2 (s:St):AV:=.agg [.dv (I s.id),.dv (I s.kind),.dv (I s.I6),.dv (I s.tick),.dv (I s.Oc),.dv (I s.times),.dv (A8 s.mv)]
def A9 (aZ:Int) (a b:Mv):Int × Int × Int × Bool :=
 (a.it,a.n,b.n,bif bif bif bif bif !(decide (a.it=aZ)) then decide (b.it=aZ) else false then decide (a.f=b.t) else false then decide (a.t=b.f) else false then !(decide (a.f=0)) else false then !(decide (a.t=0)) else false)
def dw (aZ:Int) (s:St):Int × Int × Int × Bool :=
 if s.kind ≠ 2 then (0,0,0,false) else
 match s.mv with
 | [a,b]=>if a.it=aZ then A9 aZ b a else A9 aZ a b
 | _=>(0,0,0,false)
set_option maxHeartbeats 4000000 in
theorem Ba (s:Vs) (st:St):bg Tryz.prog 51 [.ptr 0 0,F2 st] 6 (vK false s) 0 [.dv (I (dw s.aZ st).1),.dv (I (dw s.aZ st).2.1),.dv (I (dw s.aZ st).2.2.1),.dv (B (dw s.aZ st).2.2.2)] (vK false s):=by
 refine bk aW mixed (aw _) (ay _) Tryz.func51 rfl rfl (by kernel_rfl) ?_
 repeat first | refine ⟨id,?_⟩ | refine ⟨fun _ h=>dB h,?_⟩ | refine ⟨fun _ h=>aA h,?_⟩ | refine ⟨fun h=>⟨h,fun h2=>bW h h2⟩,?_⟩ | refine ⟨fun h=>⟨h,fun h2=>br h h2⟩,?_⟩
 refine ⟨fun hc=>?_,fun hc=>?_⟩
 ·have Qr:dw s.aZ st=(0,0,0,false):=by
   unfold dw
   by_cases hk:st.kind=2
   ·rw [if_neg (by simpa using hk)]
    have h2:¬ st.mv.length=2:=by
     intro h2; rw [List.length_map,h2,hk] at hc; simp at hc
    match hm:st.mv with
    | []=>rfl
    | [_]=>rfl
    | [_,_]=>rw [hm] at h2; exact absurd rfl h2
    | _::_::_::_=>rfl
   ·rw [if_pos hk]
  rw [Qr]
  exact ⟨_,_,⟨rfl,rfl⟩,by kernel_rfl,⟨rf,rf,rf,rf,tv⟩,⟨rf,rf,rf,rf,rf,rf,rfl,rfl,rfl,rfl,rfl,tv⟩,⟨rfl,rfl⟩,⟨rfl,rfl⟩,⟨rfl,rfl⟩,⟨rfl,rfl⟩,⟨rfl,rfl⟩,tv⟩
 have hk:st.kind=2:=by
  by_cases hk:st.kind=2
  ·exact hk
  ·exfalso; have:(st.kind != 2)=true:=by simpa using hk
   rw [this] at hc; cases hc
 have hl:st.mv.length=2:=by
  rw [hk,List.length_map] at hc
  have:((st.mv.length:Int) != 2)=false:=hc
  simp at this; omega
 obtain ⟨a,b,hm⟩:∃a b,st.mv=[a,b]:=by
  match hm:st.mv with
  | [a,b]=>exact ⟨a,b,rfl⟩
  | []=>rw [hm] at hl; cases hl
  | [_]=>rw [hm] at hl; cases hl
  | _::_::_::_=>rw [hm] at hl; simp at hl
 have e0:(st.mv.map de)[0]?=some (de a):=by rw [hm]; rfl
 have e1:(st.mv.map de)[1]?=some (de b):=by rw [hm]; rfl
 refine ⟨de a,fun _=>⟨by omega,e0⟩,?_⟩
 refine ⟨de b,fun _=>⟨by omega,e1⟩,?_⟩
 have Qr:dw s.aZ st=if a.it=s.aZ then A9 s.aZ b a else A9 s.aZ a b:=by
  unfold dw; rw [if_neg (by simpa using hk),hm]
 refine ⟨by kernel_rfl,by kernel_rfl,fun hq=>?_,fun hq=>?_⟩
 ·have hq:a.it=s.aZ:=of_decide_eq_true hq
  rw [Qr,if_pos hq]
  repeat first | refine ⟨id,?_⟩ | refine ⟨fun _ h=>dB h,?_⟩ | refine ⟨fun _ h=>aA h,?_⟩ | refine ⟨fun h=>⟨h,fun h2=>bW h h2⟩,?_⟩ | refine ⟨fun h=>⟨h,fun h2=>br h h2⟩,?_⟩
  exact ⟨by kernel_rfl,by kernel_rfl,_,_,⟨rfl,rfl⟩,by kernel_rfl,⟨rf,rf,rf,rf,tv⟩,⟨rf,rf,rf,rf,rf,rf,rfl,rfl,rfl,rfl,rfl,tv⟩,⟨rfl,rfl⟩,⟨rfl,rfl⟩,⟨rfl,rfl⟩,⟨rfl,rfl⟩,⟨rfl,rfl⟩,tv⟩
 ·have hq:a.it ≠ s.aZ:=of_decide_eq_false hq
  rw [Qr,if_neg hq]
  repeat first | refine ⟨id,?_⟩ | refine ⟨fun _ h=>dB h,?_⟩ | refine ⟨fun _ h=>aA h,?_⟩ | refine ⟨fun h=>⟨h,fun h2=>bW h h2⟩,?_⟩ | refine ⟨fun h=>⟨h,fun h2=>br h h2⟩,?_⟩
  exact ⟨by kernel_rfl,by kernel_rfl,_,_,⟨rfl,rfl⟩,by kernel_rfl,⟨rf,rf,rf,rf,tv⟩,⟨rf,rf,rf,rf,rf,rf,rfl,rfl,rfl,rfl,rfl,tv⟩,⟨rfl,rfl⟩,⟨rfl,rfl⟩,⟨rfl,rfl⟩,⟨rfl,rfl⟩,⟨rfl,rfl⟩,tv⟩
end Go.Proofs.YtpbdohkbiklflaaGreatDoor
namespace Go.Proofs.YtpbdohkbiklflaaGreatDoor
open Go.TM
variable [cQ]
set_option maxRecDepth 100000
def VV (f h g:Bool) (s:Vs):List AV:=[.dv (I 4),.dv (I s.aZ),.dv (I s.au),.dv (I s.aU),.dv (I s.last),.dv (I s.work),.own 1 0 0 [],.own 2 0 0 [],.own 3 0 (bif f then 1 else 0) [],.own 4 0 (bif h then 1 else 0) [],.own 5 (bif g then 1 else 0) 0 []]
def vS (f h g:Bool) (s:Vs):af:=[(0,.cells (VV f h g s)),(1,.tree 0 0 (.omap dL (s.H.map oY))),(2,.tree 0 0 (vK.gv s.cF)),(3,.tree 0 (bif f then 1 else 0) (.ar 1 (s.rk.map C9))),(4,.tree 0 (bif h then 1 else 0) (.ar 1 (s.sl.map lI))),(5,.tree (bif g then 1 else 0) 0 (vK.gv s.bD))]
def iC (l:List Sl):Int:=(l.getD (l.length - 1) ⟨0,0,0,0,0⟩).gi
def iD (l:List Sl):Int:=(l.getD (l.length - 1) ⟨0,0,0,0,0⟩).gj
def nV (s:Vs) (it:Nat) (l:List Sl) (tick n c:Int):Vs :=
 {s with work:=s.work+1,bD:=s.bD++[(it:Int)],sl:=s.sl.set it (false,l++[⟨tick,n,c,n+iC l,c+iD l⟩]) }
theorem Od:(nth tab (nth tab 88).elem).bytes=40:=rfl
theorem Oe:(nth tab (nth tab 30).elem).bytes=8:=rfl
set_option maxHeartbeats 4000000 in
theorem uZ (s:Vs) (it:Nat) (hl:s.sl[it]?=some (true,[])) (tick n c:Int) (hw:0≤s.work∧s.work≤4611686018427387904) (hb:s.bD.length≤1000) :
  bg Tryz.prog 54 [.ptr 0 0,.dv (I it),.agg [.dv (I tick),.dv (I n),.dv (I c),.dv (I 0),.dv (I 0)]] 6 (vK false s) 0 [] (vS false true true (nV s it [] tick n c)):=by
 refine bk aW mixed (aw _) (ay _) Tryz.func54 rfl rfl (by kernel_rfl) ?_
 have aK:it<s.sl.length:=(List.getElem?_eq_some_iff.1 hl).1
 have gX:(s.sl.map lI)[((it:Int)).toNat]?=some .aD:=by rw [List.getElem?_map,Int.toNat_natCast,hl]; rfl
 have ea:(0:Int)≤(it:Int)∧(it:Int)<((s.sl.map lI).length:Int):=⟨by omega,by rw [List.length_map]; omega⟩
 refine ⟨fun _=>ea,.aD,fun _=>gX,?_⟩
 repeat first | refine ⟨id,?_⟩ | refine ⟨fun _ h=>dB h,?_⟩ | refine ⟨fun _ h=>aA h,?_⟩ | refine ⟨fun h=>⟨h,fun h2=>bW h h2⟩,?_⟩ | refine ⟨fun h=>⟨h,fun h2=>br h h2⟩,?_⟩
 refine ⟨fun h=>by simp at h,fun _=>?_⟩
 refine ⟨fun _=>ea,.aD,fun _=>gX,?_⟩
 refine .inl ⟨[bO ⟨tick,n,c,n,c⟩],rfl,⟨rf,rf,rf,rf,rf,tv⟩,(by simp; rfl),?_⟩
 refine .inr ⟨[bO ⟨tick,n,c,n,c⟩],fK.refl _,(by rw [Od]; simp),(by simp),?_⟩
 refine ⟨fun _=>ea,?_⟩
 refine ⟨[.ar 5 [bO ⟨tick,n,c,n,c⟩]],⟨rfl,tv⟩,.aD,gX,?_⟩
 refine ⟨by kernel_rfl,.inl ⟨[I (it:Int)],rfl,⟨rf,tv⟩,(by simp; rfl),.inr ⟨[I (it:Int)],fK.refl _,(by rw [Oe]; simp; omega),(by simp; omega),?_⟩⟩⟩
 refine ⟨fun _=>⟨by omega,by omega⟩,?_⟩
 have b4:DV.ar 1 ((s.sl.map lI).set it (.ar 5 [bO ⟨tick,n,c,n,c⟩]))=.ar 1 ((s.sl.set it (false,[]++[⟨tick,n,c,n+iC [],c+iD []⟩])).map lI):=by
  rw [List.map_set]; simp [iC,iD,lI,Rv]
 have b5:DV.ar 1 (s.bD.map I++[I (it:Int)])=vK.gv (s.bD++[(it:Int)]):=by simp [vK.gv]
 exact ⟨_,_,⟨rfl,rfl⟩,by kernel_rfl,tv,⟨rf,rf,rf,rf,rf,rf,rfl,rfl,rfl,rfl,rfl,tv⟩,⟨rfl,rfl⟩,⟨rfl,rfl⟩,⟨rfl,rfl⟩,⟨rfl,b4⟩,⟨rfl,b5⟩,tv⟩
set_option maxHeartbeats 4000000 in
theorem u4 (s:Vs) (it:Nat) (l:List Sl) (hl:s.sl[it]?=some (false,l)) (tick n c:Int) (hw:0≤s.work∧s.work≤4611686018427387904) (hb:s.bD.length≤1000) (Ob:l.length≤1000) (hu:0≤iC l∧iC l≤1152921504606846976) (hc:0≤iD l∧iD l≤1152921504606846976) (T7:0≤n∧n≤1152921504606846976) (hU:0≤c∧c≤1152921504606846976) :
  bg Tryz.prog 54 [.ptr 0 0,.dv (I it),.agg [.dv (I tick),.dv (I n),.dv (I c),.dv (I 0),.dv (I 0)]] 6 (vK false s) 0 [] (vS false true true (nV s it l tick n c)):=by
 refine bk aW mixed (aw _) (ay _) Tryz.func54 rfl rfl (by kernel_rfl) ?_
 have aK:it<s.sl.length:=(List.getElem?_eq_some_iff.1 hl).1
 have gX:(s.sl.map lI)[((it:Int)).toNat]?=some (.ar 5 (l.map bO)):=by rw [List.getElem?_map,Int.toNat_natCast,hl]; rfl
 have ea:(0:Int)≤(it:Int)∧(it:Int)<((s.sl.map lI).length:Int):=⟨by omega,by rw [List.length_map]; omega⟩
 have b5:DV.ar 1 (s.bD.map I++[I (it:Int)])=vK.gv (s.bD++[(it:Int)]):=by simp [vK.gv]
 refine ⟨fun _=>ea,.ar 5 (l.map bO),fun _=>gX,?_⟩
 refine ⟨.ar 5 (l.map bO),fun _=>gX,?_⟩
 repeat first | refine ⟨id,?_⟩ | refine ⟨fun _ h=>dB h,?_⟩ | refine ⟨fun _ h=>aA h,?_⟩ | refine ⟨fun h=>⟨h,fun h2=>bW h h2⟩,?_⟩ | refine ⟨fun h=>⟨h,fun h2=>br h h2⟩,?_⟩
 refine ⟨fun hp=>?_,fun hp=>?_⟩
 ·have hp:0<l.length:=by have:=of_decide_eq_true hp; rw [List.length_map] at this; omega
  obtain ⟨z,hz⟩:∃z,l[l.length - 1]?=some z:=⟨_,List.getElem?_eq_getElem (by omega)⟩
  have eT:iC l=z.gi:=by unfold iC; rw [List.getD_eq_getElem?_getD,hz]; rfl
  have n8:iD l=z.gj:=by unfold iD; rw [List.getD_eq_getElem?_getD,hz]; rfl
  rw [eT] at hu
  rw [n8] at hc
  have VW:(l.map bO)[(((l.map bO).length:Int) - 1).toNat]?=some (bO z):=by rw [List.length_map,show ((l.length:Int) - 1).toNat=l.length - 1 by omega,List.getElem?_map,hz]; rfl
  have Ui:(l.map bO).length=l.length:=List.length_map ..
  repeat first | refine ⟨.ar 5 (l.map bO),fun _=>gX,?_⟩ | refine ⟨bO z,fun _=>VW,?_⟩ | refine ⟨by kernel_rfl,?_⟩ | refine ⟨fun _=>⟨by omega,by omega⟩,?_⟩
  refine .inl ⟨[bO ⟨tick,n,c,n+z.gi,c+z.gj⟩],rfl,⟨rf,rf,rf,rf,rf,tv⟩,(by simp; rfl),.inr ⟨.ar 5 (l.map bO),fun _=>gX,?_⟩⟩
  refine ⟨[bO ⟨tick,n,c,n+z.gi,c+z.gj⟩],fK.refl _,(by rw [Od]; simp; omega),(by simp; omega),.ar 5 (l.map bO),gX,?_⟩
  refine ⟨fun _=>by rw [List.length_set]; exact ea,[.ar 5 (l.map bO++[bO ⟨tick,n,c,n+z.gi,c+z.gj⟩])],⟨rfl,tv⟩,.any,List.getElem?_set_self (by rw [List.length_map]; omega),?_⟩
  refine ⟨by kernel_rfl,.inl ⟨[I (it:Int)],rfl,⟨rf,tv⟩,(by simp; rfl),.inr ⟨[I (it:Int)],fK.refl _,(by rw [Oe]; simp; omega),(by simp; omega),?_⟩⟩⟩
  refine ⟨fun _=>⟨by omega,by omega⟩,?_⟩
  have b4:DV.ar 1 (((s.sl.map lI).set ((it:Int)).toNat .any).set ((it:Int)).toNat (.ar 5 (l.map bO++[bO ⟨tick,n,c,n+z.gi,c+z.gj⟩])))=.ar 1 ((s.sl.set it (false,l++[⟨tick,n,c,n+iC l,c+iD l⟩])).map lI):=by
   rw [List.set_set,List.map_set,Int.toNat_natCast]; simp [eT,n8,lI,Rv]
  exact ⟨_,_,⟨rfl,rfl⟩,by kernel_rfl,tv,⟨rf,rf,rf,rf,rf,rf,rfl,rfl,rfl,rfl,rfl,tv⟩,⟨rfl,rfl⟩,⟨rfl,rfl⟩,⟨rfl,rfl⟩,⟨rfl,b4⟩,⟨rfl,b5⟩,tv⟩
 ·have hp:l=[]:=by have:=of_decide_eq_false hp; rw [List.length_map] at this; cases l with
   | nil=>rfl
   | cons _ _=>simp only [List.length_cons] at this; omega
  subst hp
  refine ⟨fun _=>ea,.ar 5 [],fun _=>gX,?_⟩
  refine .inl ⟨[bO ⟨tick,n,c,n,c⟩],rfl,⟨rf,rf,rf,rf,rf,tv⟩,(by simp; rfl),.inr ⟨.ar 5 [],fun _=>gX,?_⟩⟩
  refine ⟨[bO ⟨tick,n,c,n,c⟩],fK.refl _,(by rw [Od]; simp),(by simp),.ar 5 [],gX,?_⟩
  refine ⟨fun _=>by rw [List.length_set]; exact ea,[.ar 5 ([]++[bO ⟨tick,n,c,n,c⟩])],⟨rfl,tv⟩,.any,List.getElem?_set_self (by rw [List.length_map]; omega),?_⟩
  refine ⟨by kernel_rfl,.inl ⟨[I (it:Int)],rfl,⟨rf,tv⟩,(by simp; rfl),.inr ⟨[I (it:Int)],fK.refl _,(by rw [Oe]; simp; omega),(by simp; omega),?_⟩⟩⟩
  refine ⟨fun _=>⟨by omega,by omega⟩,?_⟩
  have b4:DV.ar 1 (((s.sl.map lI).set ((it:Int)).toNat .any).set ((it:Int)).toNat (.ar 5 ([]++[bO ⟨tick,n,c,n,c⟩])))=.ar 1 ((s.sl.set it (false,[]++[⟨tick,n,c,n+iC [],c+iD []⟩])).map lI):=by
   rw [List.set_set,List.map_set,Int.toNat_natCast]; simp [iC,iD,lI,Rv]
  exact ⟨_,_,⟨rfl,rfl⟩,by kernel_rfl,tv,⟨rf,rf,rf,rf,rf,rf,rfl,rfl,rfl,rfl,rfl,tv⟩,⟨rfl,rfl⟩,⟨rfl,rfl⟩,⟨rfl,rfl⟩,⟨rfl,b4⟩,⟨rfl,b5⟩,tv⟩
end Go.Proofs.YtpbdohkbiklflaaGreatDoor
namespace Go.Proofs.YtpbdohkbiklflaaGreatDoor
open Go.TM
variable [cQ]
set_option maxRecDepth 100000
def hold (m h:HM) (k:Ky):Int:=(bs m k).getD (hv h k)
def Of (s:Vs) (m:HM):af:=vK false s++[(6,.cells [.ptr 0 0]),(7,.tree 0 0 (.omap dL (m.map oY))),(8,.cells [.own 7 0 0 []])]
theorem Bb (m:HM) (k:Ky):bC (m.map oY) (vR k)=bif (bs m k).isSome then some (I (hv m k)) else none:=by
 rw [C8]; unfold hv; cases bs m k <;> rfl
theorem ER (m:HM) (k:Ky) (h9:(bs m k).isSome=false):I (hv m k)=I 0:=by
 unfold hv
 cases hq:bs m k with
 | none=>rfl
 | some x=>rw [hq] at h9; cases h9
set_option maxHeartbeats 4000000 in
theorem lj (s:Vs) (m:HM) (k:Ky):bg Tryz.prog 113 [.agg [.dv (I k.1),.dv (I k.2)],.ptr 8 0,.ptr 6 0] 9 (Of s m) 0 [.dv (I (hold m s.H k))] (Of s m):=by
 refine bk aW mixed (aw _) (ay _) Tryz.func113 rfl rfl (by kernel_rfl) ?_
 refine ⟨gH,vR k,rfl,rfl,I (hv m k),(bs m k).isSome,fun _=>Bb m k,ER m k,rfl,?_⟩
 refine ⟨fun hs=>?_,fun hn=>?_⟩
 ·have hh:hold m s.H k=hv m k:=by
   unfold hold hv; cases hq:bs m k with
   | none=>rw [hq] at hs; cases hs
   | some x=>rfl
  rw [hh]
  exact ⟨_,_,⟨rfl,rfl⟩,by kernel_rfl,⟨rf,tv⟩,⟨rf,rf,rf,rf,rf,rf,rfl,rfl,rfl,rfl,rfl,tv⟩,⟨rfl,rfl⟩,⟨rfl,rfl⟩,⟨rfl,rfl⟩,⟨rfl,rfl⟩,⟨rfl,rfl⟩,⟨rfl,tv⟩,⟨rfl,rfl⟩,⟨rfl,tv⟩,tv⟩
 ·have hh:hold m s.H k=hv s.H k:=by
   unfold hold; cases hq:bs m k with
   | none=>rfl
   | some x=>rw [hq] at hn; cases hn
  rw [hh]
  refine ⟨gH,vR k,rfl,rfl,I (hv s.H k),(bs s.H k).isSome,fun _=>Bb s.H k,ER s.H k,rfl,?_⟩
  exact ⟨by kernel_rfl,_,_,⟨rfl,rfl⟩,by kernel_rfl,⟨rf,tv⟩,⟨rf,rf,rf,rf,rf,rf,rfl,rfl,rfl,rfl,rfl,tv⟩,⟨rfl,rfl⟩,⟨rfl,rfl⟩,⟨rfl,rfl⟩,⟨rfl,rfl⟩,⟨rfl,rfl⟩,⟨rfl,tv⟩,⟨rfl,rfl⟩,⟨rfl,tv⟩,tv⟩
def sj (v:Mv):Bool:=bif bif bif bif bif bif decide (v.it<0) then true else decide (4≤v.it) then true else decide (v.n<1) then true else decide (1099511627776<v.n) then true else !se v.f then true else !se v.t then true else decide (v.f=v.t)
theorem ES {v:Mv} (h:sj v=false):0≤v.it∧v.it<4∧1≤v.n∧v.n≤1099511627776∧se v.f=true∧se v.t=true∧v.f ≠ v.t:=by
 unfold sj at h
 simp only [Bool.cond_true_left,Bool.or_eq_false_iff,decide_eq_false_iff_not,Bool.not_eq_false'] at h
 obtain ⟨⟨⟨⟨⟨⟨h1,h2⟩,h3⟩,h4⟩,h5⟩,h6⟩,h7⟩:=h
 exact ⟨by omega,by omega,by omega,by omega,h5,h6,h7⟩
inductive Qs where
 | err (e:Int)
 | ok (m:HM)
def kC (H:HM):HM→List Mv→Qs
 | m,[]=>.ok m
 | m,v::r =>
  if sj v=true then .err 1 else
  if v.f ≠ 0 then
   if hold m H (v.f,v.it)<v.n then .err 10 else
   let m1:=bS m (v.f,v.it) (hold m H (v.f,v.it) - v.n)
   kC H (if v.t ≠ 0 then bS m1 (v.t,v.it) (hold m1 H (v.t,v.it)+v.n) else m1) r
  else kC H (if v.t ≠ 0 then bS m (v.t,v.it) (hold m H (v.t,v.it)+v.n) else m) r
def Qs.rs:Qs→List AV
 | .err e=>[.dv .hZ,.dv (I e)]
 | .ok _=>[.own 7 0 0 [],.dv (I 0)]
def Qs.K:Qs→af
 | .err _=>[]
 | .ok m=>[(7,.tree 0 0 (.omap dL (m.map oY)))]
theorem xw (m:HM) (k:Ky) (x:Int) (j:Ky):bs (bS m k x) j=if k=j then some x else bs m j:=by
 induction m with
 | nil=>simp only [bS,bs]
 | cons p r ih =>
  simp only [bS]
  by_cases h:p.1=k
  ·simp only [h,if_true,bs]
   by_cases h2:k=j
   ·simp [h2]
   ·simp [h2]
  ·simp only [h,if_false,bs]
   by_cases h2:p.1=j
   ·have:k ≠ j:=fun h3=>h (h2.trans h3.symm)
    simp [h2,this]
   ·simp only [h2,if_false]
    exact ih
theorem xx (m h:HM) (k:Ky) (x:Int) (j:Ky):hold (bS m k x) h j=if k=j then x else hold m h j:=by
 unfold hold; rw [xw]; split <;> rfl
theorem Dc (m:HM) (k:Ky) (x:Int):(∀z,bC (m.map oY) (vR k)=some z→z.bt)∧(I x).bt:=by
 constructor
 ·intro z zG d hd
  rw [Bb] at zG
  cases hk:(bs m k).isSome with
  | false=>rw [hk] at zG; cases zG
  | true=>rw [hk] at zG; injection zG with zG; subst zG; simp [DV.cells] at hd; subst hd; rfl
 ·intro d hd
  simp [DV.cells] at hd; subst hd; rfl
theorem y6 {m h:HM} {k:Ky} {x B C:Int} (hB:∀k,0≤hold m h k∧hold m h k≤B) (hx:0≤x∧x≤C) (WT:B≤C) (j:Ky):0≤hold (bS m k x) h j∧hold (bS m k x) h j≤C:=by
 rw [xx]; have:=hB j; split <;> omega
structure Uj where
 m:HM
 j:Nat
def Qt (s:Vs) (l:List Mv) (x:Uj):bN:=⟨9,[(0,.ptr 0 0),(1,.dv (A8 l)),(2,.ptr 6 0),(4,.dv .hZ),(5,.dv (I 0)),(6,.ptr 8 0),(7,.fn 113 [.ptr 8 0,.ptr 6 0]),(14,.dv (A8 l)),(15,.dv (I l.length)),(16,.dv (I x.j))],Of s x.m⟩
set_option maxHeartbeats 4000000 in
theorem Lb (s:Vs) (l:List Mv) (hl:l.length≤1000) (hH:∀k,0≤hv s.H k∧hv s.H k≤1152921504606846976):bg Tryz.prog 50 [.ptr 0 0,.dv (A8 l)] 6 (vK false s) 2 (kC s.H [] l).rs (vK false s++(kC s.H [] l).K):=by
 refine tY aW mixed (aw _) (ay _) Tryz.func50 rfl rfl (by kernel_rfl) ?_
 refine ⟨dL,Uj,Qt s l,fun x=>x.j≤l.length∧kC s.H [] l=kC s.H x.m (l.drop x.j)∧∀k,0≤hold x.m s.H k∧hold x.m s.H k≤1152921504606846976+x.j * 1099511627776,fun x=>l.length - x.j,⟨[],0⟩,fun _=>rfl,⟨⟨rfl,rf,rfl,rf,rf,rfl,⟨rfl,rfl,rfl,tv⟩,rf,bq (by rw [List.length_map]),rf,tv⟩,⟨⟨rf,rf,rf,rf,rf,rf,rfl,rfl,rfl,rfl,rfl,tv⟩,⟨rfl,rfl⟩,⟨rfl,rfl⟩,⟨rfl,rfl⟩,⟨rfl,rfl⟩,⟨rfl,rfl⟩,⟨rfl,tv⟩,⟨rfl,rfl⟩,⟨rfl,tv⟩,tv⟩,rfl,rfl⟩,⟨Nat.zero_le _,rfl,fun k=>?_⟩,?_⟩
 ·have:=hH k
  show 0≤hv s.H k∧hv s.H k≤_
  simp only; omega
 rintro ⟨m,j⟩ ⟨p1,p2,p3⟩
 simp only at p1 p2 p3
 refine ⟨fun aK=>?_,fun db=>?_⟩
 ·have aK:j<l.length:=by have:=of_decide_eq_true aK; simp only [Int.ofNat_lt] at this; omega
  obtain ⟨v,iE⟩:∃v,l[j]?=some v:=⟨_,List.getElem?_eq_getElem aK⟩
  have Bc:(l.map de)[((j:Int)).toNat]?=some (de v):=by rw [List.getElem?_map,Int.toNat_natCast,iE]; rfl
  have az:l.drop j=v::l.drop (j+1):=by rw [List.drop_eq_getElem_cons aK]; congr 1; rw [List.getElem?_eq_getElem aK] at iE; injection iE
  refine ⟨de v,fun _=>⟨by simp only; omega,Bc⟩,?_⟩
  repeat first | refine ⟨id,?_⟩ | refine ⟨fun _ h=>dB h,?_⟩ | refine ⟨fun _ h=>aA h,?_⟩ | refine ⟨fun h=>⟨h,fun h2=>bW h h2⟩,?_⟩ | refine ⟨fun h=>⟨h,fun h2=>br h h2⟩,?_⟩
  refine (.inl ⟨_,fun _=>(uY v.f).ok,?_⟩)
  repeat first | refine ⟨id,?_⟩ | refine ⟨fun _ h=>dB h,?_⟩ | refine ⟨fun _ h=>aA h,?_⟩ | refine ⟨fun h=>⟨h,fun h2=>bW h h2⟩,?_⟩ | refine ⟨fun h=>⟨h,fun h2=>br h h2⟩,?_⟩
  refine (.inl ⟨_,fun _=>(uY v.t).ok,?_⟩)
  repeat first | refine ⟨id,?_⟩ | refine ⟨fun _ h=>dB h,?_⟩ | refine ⟨fun _ h=>aA h,?_⟩ | refine ⟨fun h=>⟨h,fun h2=>bW h h2⟩,?_⟩ | refine ⟨fun h=>⟨h,fun h2=>br h h2⟩,?_⟩
  refine .inl ⟨by kernel_rfl,fun hc=>?_,fun hc=>?_⟩
  ·have F3:sj v=true:=hc
   have hr:kC s.H [] l=.err 1:=by rw [p2,az]; simp only [kC,F3,if_true]
   rw [hr]
   exact ⟨_,_,⟨rfl,rfl⟩,by kernel_rfl,⟨rf,rf,tv⟩,⟨rf,rf,rf,rf,rf,rf,rfl,rfl,rfl,rfl,rfl,tv⟩,⟨rfl,rfl⟩,⟨rfl,rfl⟩,⟨rfl,rfl⟩,⟨rfl,rfl⟩,⟨rfl,rfl⟩,tv⟩
  have F3:sj v=false:=hc
  have cl:1≤v.n∧v.n≤1099511627776∧v.f ≠ v.t:=by
   have:=ES F3; exact ⟨this.2.2.1,this.2.2.2.1,this.2.2.2.2.2.2⟩
  refine ⟨fun hf=>?_,fun hf=>?_⟩
  ·have hf:v.f ≠ 0:=by simpa using hf
   refine .inr ⟨[0,1,2,3,4,5,6,7,8],[.agg [.dv (I v.f),.dv (I v.it)],.ptr 8 0,.ptr 6 0],Of s m,0,_,_,lj s m (v.f,v.it),by kernel_rfl,by kernel_rfl,⟨⟨rf,rf,tv⟩,rfl,rfl,tv⟩,⟨⟨rf,rf,rf,rf,rf,rf,rfl,rfl,rfl,rfl,rfl,tv⟩,⟨rfl,rfl⟩,⟨rfl,rfl⟩,⟨rfl,rfl⟩,⟨rfl,rfl⟩,⟨rfl,rfl⟩,⟨rfl,tv⟩,⟨rfl,rfl⟩,⟨rfl,tv⟩,tv⟩,?_⟩
   refine .inl ⟨by kernel_rfl,fun hs=>?_,fun hs=>?_⟩
   ·have hs:hold m s.H (v.f,v.it)<v.n:=of_decide_eq_true hs
    have hr:kC s.H [] l=.err 10:=by rw [p2,az]; simp only [kC,F3]; simp [hf,hs]
    rw [hr]
    exact ⟨_,_,⟨rfl,rfl⟩,by kernel_rfl,⟨rf,rf,tv⟩,⟨rf,rf,rf,rf,rf,rf,rfl,rfl,rfl,rfl,rfl,tv⟩,⟨rfl,rfl⟩,⟨rfl,rfl⟩,⟨rfl,rfl⟩,⟨rfl,rfl⟩,⟨rfl,rfl⟩,tv⟩
   have hs:¬ hold m s.H (v.f,v.it)<v.n:=of_decide_eq_false hs
   have WU:=p3 (v.f,v.it)
   refine .inr ⟨[0,1,2,3,4,5,6,7,8],[.agg [.dv (I v.f),.dv (I v.it)],.ptr 8 0,.ptr 6 0],Of s (m),0,_,_,lj s (m) (v.f,v.it),by kernel_rfl,by kernel_rfl,⟨⟨rf,rf,tv⟩,rfl,rfl,tv⟩,⟨⟨rf,rf,rf,rf,rf,rf,rfl,rfl,rfl,rfl,rfl,tv⟩,⟨rfl,rfl⟩,⟨rfl,rfl⟩,⟨rfl,rfl⟩,⟨rfl,rfl⟩,⟨rfl,rfl⟩,⟨rfl,tv⟩,⟨rfl,rfl⟩,⟨rfl,tv⟩,tv⟩,?_⟩
   refine ⟨fun _=>⟨by omega,by omega⟩,?_⟩
   refine ⟨gH,vR (v.f,v.it),rfl,rfl,I (hold m s.H (v.f,v.it) - v.n),⟨rf,tv⟩,rfl,false,fun _=>Dc m (v.f,v.it) _,.inr ⟨[(0,4)],by kernel_rfl,pW (pol:=FT) (by kernel_rfl) (by kernel_rfl),?_⟩⟩
   have hM:kC s.H [] l=kC s.H (if v.t ≠ 0 then bS (bS m (v.f,v.it) (hold m s.H (v.f,v.it) - v.n)) (v.t,v.it) (hold (bS m (v.f,v.it) (hold m s.H (v.f,v.it) - v.n)) s.H (v.t,v.it)+v.n) else bS m (v.f,v.it) (hold m s.H (v.f,v.it) - v.n)) (l.drop (j+1)):=by
    rw [p2,az]; simp only [kC,F3]; simp [hf,hs]
   have hB:∀k,0≤hold (bS m (v.f,v.it) (hold m s.H (v.f,v.it) - v.n)) s.H k∧hold (bS m (v.f,v.it) (hold m s.H (v.f,v.it) - v.n)) s.H k≤1152921504606846976+(j:Int) * 1099511627776:=by
    intro k
    rw [xx]; have:=p3 k; split <;> omega
   refine ⟨fun ht=>?_,fun ht=>?_⟩
   ·have ht:v.t ≠ 0:=by simpa using ht
    have I7:=hM
    rw [if_pos ht] at I7
    have VX:=hB (v.t,v.it)
    refine .inr ⟨[0,1,2,3,4,5,6,7,8],[.agg [.dv (I v.t),.dv (I v.it)],.ptr 8 0,.ptr 6 0],Of s (bS m (v.f,v.it) (hold m s.H (v.f,v.it) - v.n)),0,_,_,lj s (bS m (v.f,v.it) (hold m s.H (v.f,v.it) - v.n)) (v.t,v.it),by kernel_rfl,by kernel_rfl,⟨⟨rf,rf,tv⟩,rfl,rfl,tv⟩,⟨⟨rf,rf,rf,rf,rf,rf,rfl,rfl,rfl,rfl,rfl,tv⟩,⟨rfl,rfl⟩,⟨rfl,rfl⟩,⟨rfl,rfl⟩,⟨rfl,rfl⟩,⟨rfl,rfl⟩,⟨rfl,tv⟩,⟨rfl,by rw [q5]⟩,⟨rfl,tv⟩,tv⟩,?_⟩
    refine ⟨fun _=>⟨by omega,by omega⟩,?_⟩
    refine ⟨gH,vR (v.t,v.it),rfl,rfl,I (hold (bS m (v.f,v.it) (hold m s.H (v.f,v.it) - v.n)) s.H (v.t,v.it)+v.n),⟨rf,tv⟩,rfl,false,fun _=>?_,.inr ⟨[(0,4)],by kernel_rfl,pW (pol:=FT) (by kernel_rfl) (by kernel_rfl),?_⟩⟩
    ·exact Dc (bS m (v.f,v.it) (hold m s.H (v.f,v.it) - v.n)) (v.t,v.it) _
    refine ⟨fun _=>⟨by simp only; omega,by simp only; omega⟩,⟨bS (bS m (v.f,v.it) (hold m s.H (v.f,v.it) - v.n)) (v.t,v.it) (hold (bS m (v.f,v.it) (hold m s.H (v.f,v.it) - v.n)) s.H (v.t,v.it)+v.n),j+1⟩,⟨⟨rfl,rf,rfl,rf,rf,rfl,⟨rfl,rfl,rfl,tv⟩,rf,rf,bq (by simp),tv⟩,⟨⟨rf,rf,rf,rf,rf,rf,rfl,rfl,rfl,rfl,rfl,tv⟩,⟨rfl,rfl⟩,⟨rfl,rfl⟩,⟨rfl,rfl⟩,⟨rfl,rfl⟩,⟨rfl,rfl⟩,⟨rfl,tv⟩,⟨rfl,by rw [q5]⟩,⟨rfl,tv⟩,tv⟩,rfl,rfl⟩,⟨by simp only; omega,I7,fun k=>?_⟩,by simp only; omega⟩
    ·exact y6 hB ⟨by omega,by simp only; omega⟩ (by simp only; omega) k
   ·have ht:¬ v.t ≠ 0:=by simpa using ht
    have I7:=hM
    rw [if_neg ht] at I7
    refine ⟨fun _=>⟨by simp only; omega,by simp only; omega⟩,⟨bS m (v.f,v.it) (hold m s.H (v.f,v.it) - v.n),j+1⟩,⟨⟨rfl,rf,rfl,rf,rf,rfl,⟨rfl,rfl,rfl,tv⟩,rf,rf,bq (by simp),tv⟩,⟨⟨rf,rf,rf,rf,rf,rf,rfl,rfl,rfl,rfl,rfl,tv⟩,⟨rfl,rfl⟩,⟨rfl,rfl⟩,⟨rfl,rfl⟩,⟨rfl,rfl⟩,⟨rfl,rfl⟩,⟨rfl,tv⟩,⟨rfl,by rw [q5]⟩,⟨rfl,tv⟩,tv⟩,rfl,rfl⟩,⟨by simp only; omega,I7,fun k=>?_⟩,by simp only; omega⟩
    ·have:=hB k; simp only; omega
  ·have hf:¬ v.f ≠ 0:=by simpa using hf
   have hM:kC s.H [] l=kC s.H (if v.t ≠ 0 then bS (m) (v.t,v.it) (hold (m) s.H (v.t,v.it)+v.n) else m) (l.drop (j+1)):=by
    rw [p2,az]; simp only [kC,F3]; simp only [hf,if_false]; rfl
   have hB:=p3
   refine ⟨fun ht=>?_,fun ht=>?_⟩
   ·have ht:v.t ≠ 0:=by simpa using ht
    have I7:=hM
    rw [if_pos ht] at I7
    have VX:=hB (v.t,v.it)
    refine .inr ⟨[0,1,2,3,4,5,6,7,8],[.agg [.dv (I v.t),.dv (I v.it)],.ptr 8 0,.ptr 6 0],Of s (m),0,_,_,lj s (m) (v.t,v.it),by kernel_rfl,by kernel_rfl,⟨⟨rf,rf,tv⟩,rfl,rfl,tv⟩,⟨⟨rf,rf,rf,rf,rf,rf,rfl,rfl,rfl,rfl,rfl,tv⟩,⟨rfl,rfl⟩,⟨rfl,rfl⟩,⟨rfl,rfl⟩,⟨rfl,rfl⟩,⟨rfl,rfl⟩,⟨rfl,tv⟩,⟨rfl,rfl⟩,⟨rfl,tv⟩,tv⟩,?_⟩
    refine ⟨fun _=>⟨by omega,by omega⟩,?_⟩
    refine ⟨gH,vR (v.t,v.it),rfl,rfl,I (hold (m) s.H (v.t,v.it)+v.n),⟨rf,tv⟩,rfl,false,fun _=>?_,.inr ⟨[(0,4)],by kernel_rfl,pW (pol:=FT) (by kernel_rfl) (by kernel_rfl),?_⟩⟩
    ·exact Dc (m) (v.t,v.it) _
    refine ⟨fun _=>⟨by simp only; omega,by simp only; omega⟩,⟨bS (m) (v.t,v.it) (hold (m) s.H (v.t,v.it)+v.n),j+1⟩,⟨⟨rfl,rf,rfl,rf,rf,rfl,⟨rfl,rfl,rfl,tv⟩,rf,rf,bq (by simp),tv⟩,⟨⟨rf,rf,rf,rf,rf,rf,rfl,rfl,rfl,rfl,rfl,tv⟩,⟨rfl,rfl⟩,⟨rfl,rfl⟩,⟨rfl,rfl⟩,⟨rfl,rfl⟩,⟨rfl,rfl⟩,⟨rfl,tv⟩,⟨rfl,by rw [q5]⟩,⟨rfl,tv⟩,tv⟩,rfl,rfl⟩,⟨by simp only; omega,I7,fun k=>?_⟩,by simp only; omega⟩
    ·exact y6 hB ⟨by omega,by simp only; omega⟩ (by simp only; omega) k
   ·have ht:¬ v.t ≠ 0:=by simpa using ht
    have I7:=hM
    rw [if_neg ht] at I7
    refine ⟨fun _=>⟨by simp only; omega,by simp only; omega⟩,⟨m,j+1⟩,⟨⟨rfl,rf,rfl,rf,rf,rfl,⟨rfl,rfl,rfl,tv⟩,rf,rf,bq (by simp),tv⟩,⟨⟨rf,rf,rf,rf,rf,rf,rfl,rfl,rfl,rfl,rfl,tv⟩,⟨rfl,rfl⟩,⟨rfl,rfl⟩,⟨rfl,rfl⟩,⟨rfl,rfl⟩,⟨rfl,rfl⟩,⟨rfl,tv⟩,⟨rfl,rfl⟩,⟨rfl,tv⟩,tv⟩,rfl,rfl⟩,⟨by simp only; omega,I7,fun k=>?_⟩,by simp only; omega⟩
    ·have:=hB k; simp only; omega
 ·have hj:j=l.length:=by have:=of_decide_eq_false db; simp only at this; omega
  have hr:kC s.H [] l=.ok m:=by rw [p2,hj,List.drop_length]; rfl
  rw [hr]
  exact ⟨_,_,⟨rfl,rfl⟩,by kernel_rfl,⟨rfl,rf,tv⟩,⟨rf,rf,rf,rf,rf,rf,rfl,rfl,rfl,rfl,rfl,tv⟩,⟨rfl,rfl⟩,⟨rfl,rfl⟩,⟨rfl,rfl⟩,⟨rfl,rfl⟩,⟨rfl,rfl⟩,⟨rfl,rfl⟩,tv⟩
end Go.Proofs.YtpbdohkbiklflaaGreatDoor
namespace Go.Proofs.YtpbdohkbiklflaaGreatDoor
open Go.TM
def ah (k:Int):Int:=[(1:Int),2,3,4,1048577,9].getD (k.tmod 6).toNat 0
end Go.Proofs.YtpbdohkbiklflaaGreatDoor
namespace Go.Proofs.YtpbdohkbiklflaaGreatDoor
open Go.TM
variable [cQ]
set_option maxRecDepth 100000
end Go.Proofs.YtpbdohkbiklflaaGreatDoor
namespace Go.Proofs.YtpbdohkbiklflaaGreatDoor
open Go.TM
variable [cQ]
set_option maxRecDepth 100000
end Go.Proofs.YtpbdohkbiklflaaGreatDoor
namespace Go.Proofs.YtpbdohkbiklflaaGreatDoor
open Go.TM
variable [cQ]
set_option maxRecDepth 100000
end Go.Proofs.YtpbdohkbiklflaaGreatDoor
namespace Go.Proofs.YtpbdohkbiklflaaGreatDoor
open Go.TM
variable [cQ]
set_option maxRecDepth 100000
theorem S0:(nth tab (nth tab 63).elem).bytes=16:=rfl
end Go.Proofs.YtpbdohkbiklflaaGreatDoor
namespace Go.Proofs.YtpbdohkbiklflaaGreatDoor
open Go.TM
variable [cQ]
set_option maxRecDepth 100000
theorem Dd (l:List Rk) (hl:l.length≤1000000):eh Tryz.prog 27 [.sl 2 (l.map eR),.sl 2 (l.map eR)] [B true]:=by
 refine cM aW mixed (aw _) (ay _) Tryz.func27 rfl (by kernel_rfl) rfl ?_
 refine ⟨fun h=>by simp at h,fun _=>?_⟩
 refine ⟨Nat,fun k=>⟨0,[(0,.dv (.sl 2 (l.map eR))),(1,.dv (.sl 2 (l.map eR))),(5,.dv (I k))],[]⟩,fun k=>k≤l.length,fun k=>l.length - k,0,fun _=>rfl,⟨⟨rf,rf,rf,tv⟩,tv,rfl,rfl⟩,by omega,?_⟩
 rintro k Kr
 refine ⟨fun h=>?_,fun h=>?_⟩
 ·have hk:k<l.length:=by simpa using h
  have m5:(l.map eR)[((k:Int)).toNat]?=some (eR l[k]):=by rw [Int.toNat_natCast,List.getElem?_map,List.getElem?_eq_getElem hk]; rfl
  refine ⟨eR l[k],fun _=>⟨by omega,m5⟩,eR l[k],fun _=>⟨by omega,m5⟩,?_⟩
  refine ⟨by kernel_rfl,fun h=>?_,fun h=>?_⟩
  ·exfalso
   simp at h
  ·exact ⟨fun _=>⟨by omega,by omega⟩,k+1,⟨⟨rf,rf,bq (by omega),tv⟩,tv,rfl,rfl⟩,by omega,by show l.length - (k+1)<l.length - k; omega⟩
 ·exact ⟨rf,tv⟩
def Qu (l:List Rk) (i:Nat):bN:=⟨1,[(0,.dv (.sl 2 (l.map eR))),(3,.own 0 0 0 []),(4,.dv (I i))],[(0,.tree 0 0 (.ar 2 ((l.take i).map eR)))]⟩
set_option maxHeartbeats 4000000 in
theorem u5 (l:List Rk) (hl:l.length≤1000000):eh Tryz.prog 28 [.sl 2 (l.map eR)] [.sl 2 (l.map eR)]:=by
 refine cM aW mixed (aw _) (ay _) Tryz.func28 rfl (by kernel_rfl) rfl ?_
 refine ⟨Nat,Qu l,fun k=>k≤l.length,fun k=>l.length - k,0,fun _=>rfl,⟨⟨rf,⟨rfl,rfl,rfl,rfl,2,rfl⟩,rf,tv⟩,⟨⟨rfl,rfl,2,rfl⟩,tv⟩,rfl,rfl⟩,by omega,?_⟩
 rintro k Kr
 refine ⟨fun h=>?_,fun h=>?_⟩
 ·have hk:k<l.length:=by simpa using h
  have m5:(l.map eR)[((k:Int)).toNat]?=some (eR l[k]):=by rw [Int.toNat_natCast,List.getElem?_map,List.getElem?_eq_getElem hk]; rfl
  have Rs:∀q:List Rk,(q.map eR).length=q.length:=fun q=>List.length_map ..
  refine ⟨eR l[k],fun _=>⟨by omega,m5⟩,eR l[k],fun _=>⟨by omega,m5⟩,?_⟩
  refine .inl ⟨[eR l[k]],rfl,⟨rf,rf,tv⟩,fun y hy=>(by rcases List.mem_singleton.1 hy with rfl; rfl),.inr ⟨[eR l[k]],fK.refl _,(by rw [S0,Rs,List.length_take]; simp; omega),(by rw [Rs,List.length_take]; simp; omega),?_⟩⟩
  refine ⟨by kernel_rfl,fun _=>⟨by omega,by omega⟩,k+1,⟨⟨rf,rfl,bq (by omega),tv⟩,⟨⟨rfl,?_⟩,tv⟩,rfl,rfl⟩,by omega,by show l.length - (k+1)<l.length - k; omega⟩
  show DV.ar 2 ((l.take k).map eR++[eR l[k]])=DV.ar 2 ((l.take (k+1)).map eR)
  rw [List.take_add_one,List.getElem?_eq_getElem hk]
  congr 1
  rw [List.map_append]; rfl
 ·have hk:k=l.length:=by
   have:¬ k<l.length:=by simpa using h
   omega
  refine ⟨DV.Le.of_eq ?_,tv⟩
  show DV.sl 2 (Iv ((l.take k).map eR))=_
  rw [EK fun _=>rfl,hk,List.take_length]
end Go.Proofs.YtpbdohkbiklflaaGreatDoor
